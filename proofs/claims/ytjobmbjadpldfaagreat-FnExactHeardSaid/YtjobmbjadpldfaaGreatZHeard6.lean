/-
  Runs that are right: the program's walk and the reference's. The slots that a yard takes: the program's walk and the reference's. Copies of yards, of the program and of the reference. Written by program (yy.py).
-/
import Derived.Test.YtjobmbjadpldfaaGreatZHeard5
section
namespace Go.Proofs.YtjobmbjadpldfaaGreat
open Go.RowKit
set_option maxRecDepth 100000
set_option maxHeartbeats 2000000
set_option linter.unusedVariables false
set_option linter.unusedSimpArgs false

theorem fin_st (s k : Int) (hk : k ≠ 0) : decide (s = k ∧ s ≠ 0) = (s == k) := by
  by_cases h : s = k
  · subst h; simp [hk]
  · simp [h]
theorem fin_st0 (s : Int) : decide (s = 0 ∧ s ≠ 0) = false := by simp
theorem runP_fin {r : Run} (h1 : inB r.id 1 9999 = true) (h2 : planFault r.plan = 0) (h3 : (r.tasks.length : Int) = r.plan.tasks) (h4 : ∀ t, t < r.tasks.length → taskP r t) :
    tf (runP r) = decide (r.state = stL r.tasks ∧ r.state ≠ 0) := by
  rw [Bool.eq_iff_iff, tf_iff, decide_eq_true_eq]
  unfold runP
  exact ⟨fun h => h.2.2.2.2, fun h => ⟨inB_iff.1 h1, h2, h3, h4, h⟩⟩
theorem runP_sum {r : Run} (h4 : ∀ t, t < r.tasks.length → taskP r t) : cntS r.tasks 1 + cntS r.tasks 2 + cntS r.tasks 3 + cntS r.tasks 4 + cntS r.tasks 5 + cntS r.tasks 6 = r.tasks.length := by
  have := cntS_all (l := r.tasks) (fun x hx => by
    obtain ⟨t, ht, rfl⟩ := List.getElem_of_mem hx
    have := (h4 t ht).1
    rwa [taskAt_get ht] at this)
  unfold restOf at this
  exact this

theorem implTasksLen_any (r : Run) (s : Sl × Sl) (st : Int) (w : World) (hl : r.tasks.length ≤ 2000000) (h : runD.rd w w.heap.size r s) :
    Calls Tryz.prog 89 #[runW r s, .int .i64 st] w fun e w' => ∃ A c, e = .returned (.slice A (cntS r.tasks st) c) ∧ Below w.heap.size w w' :=
  (implTasksIn_any r s st w hl h).mono fun e w' ⟨v, he, ho, hb⟩ => by
    obtain ⟨A, c, hv, -⟩ := id (Rd.of_own ho)
    rw [tasksIn_len] at hv
    exact ⟨A, c, by rw [he, hv], hb⟩

theorem implRunOk_any (r : Run) (s : Sl × Sl) (w : World) (hl : cntRun r ≤ 2000000) (h : runD.rd w w.heap.size r s) :
    Calls Tryz.prog 59 #[runW r s] w fun e w' => e = .returned (.bool (tf (runP r))) ∧ Below w.heap.size w w' := by
  have HR := Lib.hid (show ∀ W, Below w.heap.size w W → runD.rd W W.heap.size r s from fun W hW => runD.rd_more (runD.rd_below h hW) hW.size)
  obtain ⟨⟨A1, n1, c1⟩, ⟨A2, n2, c2⟩⟩ := s
  obtain rfl : n2 = r.tasks.length := RdL.at1 (s := ⟨A2, n2, c2⟩) h.2
  have h1 : Rd edgeE w w.heap.size (.slice A1 n1 c1) r.plan.edges := edge_rd h.1
  have hl1 : r.plan.edges.length ≤ 2000000 := Nat.le_trans (cntL_len cntEdge _) (by unfold cntRun cntPlan at hl; omega)
  have hl2 : r.tasks.length ≤ 2000000 := Nat.le_trans (cntL_len cntTask _) (by unfold cntRun at hl; omega)
  clear h hl
  have X := DBox.new 84 [.int .i64 r.id, .int .i64 r.plan.prio, .int .i64 r.plan.most, .int .i64 r.plan.wait, .int .i64 r.plan.tasks, .slice A1 n1 c1, .int .i64 r.state, .slice A2 r.tasks.length c2] w (b := w.heap.size) rfl
  have B0 : Below w.heap.size w (w.alloc (.cells #[.int .i64 r.id, .int .i64 r.plan.prio, .int .i64 r.plan.most, .int .i64 r.plan.wait, .int .i64 r.plan.tasks, .slice A1 n1 c1, .int .i64 r.state, .slice A2 r.tasks.length c2] 84)) := by repeat (first | exact Below.refl _ _ | refine Below.alloc ?_ (by simp <;> omega) _)
  have C1 := implPlanFault_any r.plan (.slice A1 n1 c1) (w.alloc (.cells #[.int .i64 r.id, .int .i64 r.plan.prio, .int .i64 r.plan.most, .int .i64 r.plan.wait, .int .i64 r.plan.tasks, .slice A1 n1 c1, .int .i64 r.state, .slice A2 r.tasks.length c2] 84)) hl1 ((h1.below B0).more B0.size)
  cases a1 : inB r.id 1 9999
  case false =>
    have H := Lib.hid (show tf (runP r) = false from tf_false (fun h => by have := inB_iff.2 h.1; rw [a1] at this; cases this))
    go_enter Tryz.func59, Tryz.ntmps59
    go_wp2_with (go_at_call 29; refine (within_any _ _ _ _).mono ?_; rintro e w' ⟨rfl, rfl⟩)
    go_ret
    exact ⟨ret_bool H.out.symm, B0⟩
  by_cases e2 : planFault r.plan = 0
  case neg =>
    have a2 : (planFault r.plan != 0) = true := by simp [e2]
    have H := Lib.hid (show tf (runP r) = false from tf_false (fun h => e2 h.2.1))
    clear e2
    go_enter Tryz.func59, Tryz.ntmps59
    go_wp2_with (first | (go_at_call 29; refine (within_any _ _ _ _).mono ?_; rintro e w' ⟨rfl, rfl⟩) | (go_at_call 87; refine C1.mono ?_; rintro e w1 ⟨rfl, b1⟩; have q1 := (bcell b1).1))
    go_ret
    exact ⟨ret_bool H.out.symm, bnext B0 b1⟩
  have E2 := Lib.hid e2
  rw [e2] at C1
  clear e2
  by_cases e3 : (r.tasks.length : Int) = r.plan.tasks
  case neg =>
    have a3 : ((r.tasks.length : Int) != r.plan.tasks) = true := by simp [e3]
    have H := Lib.hid (show tf (runP r) = false from tf_false (fun h => e3 h.2.2.1))
    clear e3
    go_enter Tryz.func59, Tryz.ntmps59
    have X_3 := X.cell 3 _ rfl
    have X_4 := X.cell 4 _ rfl
    have X_7 := X.cell 7 _ rfl
    have X_l := X.lt
    go_wp2_with fail
    go_wp2_with (first | (go_at_call 29; refine (within_any _ _ _ _).mono ?_; rintro e w' ⟨rfl, rfl⟩) | (go_at_call 87; refine C1.mono ?_; rintro e w1 ⟨rfl, b1⟩; have q1 := fun j => (bcell b1).1 w.heap.size j X_l))
    go_ret
    exact ⟨ret_bool H.out.symm, bnext B0 b1⟩
  have a3 : ((r.tasks.length : Int) != r.plan.tasks) = false := by simp [e3]
  have E3 := Lib.hid e3
  clear e3
  have X_l := X.lt
  go_enter Tryz.func59, Tryz.ntmps59
  go_wp2_with fail
  go_wp2_with (first | (go_at_call 29; refine (within_any _ _ _ _).mono ?_; rintro e w' ⟨rfl, rfl⟩) | (go_at_call 87; refine C1.mono ?_; rintro e w1 ⟨rfl, b1⟩; have q1 := fun j => (bcell b1).1 w.heap.size j X_l))
  clear q1
  replace X := X.below b1
  replace B0 := bnext B0 b1
  clear X_l C1 b1 a3
  have A1_ := Lib.hid a1
  clear a1
  go_loopw [30] (fun i wr => ∃ k : Nat, k ≤ r.tasks.length ∧ i = .int .i64 k ∧ Hid (∀ t, t < k → taskP r t) ∧ Below w1.heap.size w1 wr) (fun i _ => r.tasks.length - (intOf i).toNat)
  case atStart => exact ⟨0, Nat.zero_le _, rfl, fun t ht => absurd ht (by omega), Below.refl _ _⟩
  case round =>
    obtain ⟨k, hk, rfl, hok, hb⟩ := hrel
    replace X := X.below hb
    replace B0 := bnext B0 hb
    have X_0 := X.cell 0 _ rfl
    have X_1 := X.cell 1 _ rfl
    have X_2 := X.cell 2 _ rfl
    have X_3 := X.cell 3 _ rfl
    have X_4 := X.cell 4 _ rfl
    have X_5 := X.cell 5 _ rfl
    have X_6 := X.cell 6 _ rfl
    have X_7 := X.cell 7 _ rfl
    have X_l := X.lt
    by_cases hlt : k < r.tasks.length
    · have hltI : (k : Int) < (r.tasks.length : Int) := by omega
      have C := implTaskOk_any r (⟨A1, n1, c1⟩, ⟨A2, r.tasks.length, c2⟩) k wr E2.out E3.out hlt (HR.out _ B0)
      by_cases tk : taskP r k
      · have S : Hid (∀ t, t < k + 1 → taskP r t) := by
          intro t ht
          by_cases e : t = k
          · subst e; exact tk
          · exact hok.out t (by omega)
        rw [tf_true tk] at C
        clear tk
        go_wp2_with fail
        refine C.mono ?_
        rintro e w2 ⟨rfl, b2⟩
        go_wp2
        exact ⟨⟨k + 1, by omega, by go_num, S, bnext hb b2⟩, by simp [intOf]; omega⟩
      · have H := Lib.hid (show tf (runP r) = false from tf_false (fun h => tk (h.2.2.2.1 k hlt)))
        rw [tf_false tk] at C
        clear tk
        go_wp2_with fail
        refine C.mono ?_
        rintro e w2 ⟨rfl, b2⟩
        go_wp2
        go_ret
        exact ⟨ret_bool H.out.symm, bnext B0 b2⟩
    · have hltI : ¬ (k : Int) < (r.tasks.length : Int) := by omega
      have hk' : k = r.tasks.length := by omega
      subst hk'
      have HF := Lib.hid (runP_fin A1_.out E2.out E3.out hok.out)
      have HI := Lib.hid (stL_int r.tasks)
      have HSum := Lib.hid (runP_sum hok.out)
      go_wp2
      go_region_held3 (fun w' => w'.cell? ⟨w.heap.size, 0, none⟩ = some (.int .i64 r.id) ∧ w'.cell? ⟨w.heap.size, 1, none⟩ = some (.int .i64 r.plan.prio) ∧ w'.cell? ⟨w.heap.size, 2, none⟩ = some (.int .i64 r.plan.most) ∧ w'.cell? ⟨w.heap.size, 3, none⟩ = some (.int .i64 r.plan.wait) ∧ w'.cell? ⟨w.heap.size, 4, none⟩ = some (.int .i64 r.plan.tasks) ∧ w'.cell? ⟨w.heap.size, 5, none⟩ = some (.slice A1 n1 c1) ∧ w'.cell? ⟨w.heap.size, 6, none⟩ = some (.int .i64 r.state) ∧ w'.cell? ⟨w.heap.size, 7, none⟩ = some (.slice A2 r.tasks.length c2))
        (first | (refine ⟨?_, ?_, ?_, ?_, ?_, ?_, ?_, ?_⟩ <;> first | assumption | go_keep) | go_keep)
        (first
          | (go_at_call 89; (with_reducible refine (implTasksLen_any r (⟨A1, n1, c1⟩, ⟨A2, r.tasks.length, c2⟩) 4 _ hl2 (HR.out _ B0.drew)).mono ?_); rintro e w5 ⟨A5, c5, rfl, b5⟩; have B5 := bnext B0 (bnext ((Below.refl wr.heap.size wr).drew) b5); have X5 := X.below (bnext ((Below.refl wr.heap.size wr).drew) b5); have x50 := X5.cell 0 _ rfl; have x51 := X5.cell 1 _ rfl; have x52 := X5.cell 2 _ rfl; have x53 := X5.cell 3 _ rfl; have x54 := X5.cell 4 _ rfl; have x55 := X5.cell 5 _ rfl; have x56 := X5.cell 6 _ rfl; have x57 := X5.cell 7 _ rfl; have x5l := X5.lt)
          | (go_at_call 89; (with_reducible refine (implTasksLen_any r (⟨A1, n1, c1⟩, ⟨A2, r.tasks.length, c2⟩) 5 _ hl2 (HR.out _ B5)).mono ?_); rintro e w6 ⟨A6, c6, rfl, b6⟩; have B6 := bnext B5 b6; have X6 := X5.below b6; have x60 := X6.cell 0 _ rfl; have x61 := X6.cell 1 _ rfl; have x62 := X6.cell 2 _ rfl; have x63 := X6.cell 3 _ rfl; have x64 := X6.cell 4 _ rfl; have x65 := X6.cell 5 _ rfl; have x66 := X6.cell 6 _ rfl; have x67 := X6.cell 7 _ rfl; have x6l := X6.lt)
          | (go_at_call 89; (with_reducible refine (implTasksLen_any r (⟨A1, n1, c1⟩, ⟨A2, r.tasks.length, c2⟩) 6 _ hl2 (HR.out _ B6)).mono ?_); rintro e w7 ⟨A7, c7, rfl, b7⟩; have B7 := bnext B6 b7; have X7 := X6.below b7; have x70 := X7.cell 0 _ rfl; have x71 := X7.cell 1 _ rfl; have x72 := X7.cell 2 _ rfl; have x73 := X7.cell 3 _ rfl; have x74 := X7.cell 4 _ rfl; have x75 := X7.cell 5 _ rfl; have x76 := X7.cell 6 _ rfl; have x77 := X7.cell 7 _ rfl; have x7l := X7.lt))
      clear X_0 X_1 X_2 X_3 X_4 X_5 X_6 X_7 X_l x50 x51 x52 x53 x54 x55 x56 x57 x5l x60 x61 x62 x63 x64 x65 x66 x67 x6l
      have hsum : ((cntS r.tasks 1 : Nat) : Int) + (cntS r.tasks 2 : Nat) + (cntS r.tasks 3 : Nat) + (cntS r.tasks 4 : Nat) + (cntS r.tasks 5 : Nat) + (cntS r.tasks 6 : Nat) = r.tasks.length := by have := HSum.out; omega
      generalize hc1 : ((cntS r.tasks 1 : Nat) : Int) = c1' at *
      generalize hc2 : ((cntS r.tasks 2 : Nat) : Int) = c2' at *
      generalize hc3 : ((cntS r.tasks 3 : Nat) : Int) = c3' at *
      generalize hc4 : ((cntS r.tasks 4 : Nat) : Int) = c4' at *
      generalize hc5 : ((cntS r.tasks 5 : Nat) : Int) = c5' at *
      generalize hc6 : ((cntS r.tasks 6 : Nat) : Int) = c6' at *
      have m1 : 0 ≤ c1' := by omega
      have m2 : 0 ≤ c2' := by omega
      have m3 : 0 ≤ c3' := by omega
      have m4 : 0 ≤ c4' ∧ c4' ≤ 2000000 := by omega
      have m5 : 0 ≤ c5' ∧ c5' ≤ 2000000 := by omega
      have m6 : 0 ≤ c6' ∧ c6' ≤ 2000000 := by omega
      clear hc1 hc2 hc3 hc4 hc5 hc6
      have HV : Hid (tf (runP r) = decide (r.state = stI c1' c2' c3' c4' c5' c6' r.tasks.length ∧ r.state ≠ 0)) := by
        show tf (runP r) = _
        rw [HF.out, HI.out]
      clear HF HI
      generalize r.state = rs at *
      by_cases q1 : c4' = (r.tasks.length : Int)
      · have H := Lib.hid (show tf (runP r) = (rs == 2) by rw [HV.out]; unfold stI; rw [if_pos q1]; exact fin_st _ _ (by omega))
        have q1' : (c4' == (r.tasks.length : Int)) = true := beq_iff_eq.2 q1
        clear q1 hsum
        go_wp2
        go_ret
        exact ⟨ret_bool H.out.symm, B7⟩
      have q1' : (c4' == (r.tasks.length : Int)) = false := beq_eq_false_iff_ne.2 q1
      by_cases q2 : c4' + c5' + c6' = (r.tasks.length : Int)
      · have q2' : (c4' + c5' + c6' == (r.tasks.length : Int)) = true := beq_iff_eq.2 q2
        have r0 : c1' + c2' + c3' = 0 := by omega
        by_cases q3 : c5' = 1
        · have q3' : (c5' == 1) = true := beq_iff_eq.2 q3
          have q4' : (c5' == 0) = false := beq_eq_false_iff_ne.2 (by omega)
          have H := Lib.hid (show tf (runP r) = (rs == 3) by rw [HV.out]; unfold stI; rw [if_neg q1, if_pos ⟨q3, r0⟩]; exact fin_st _ _ (by omega))
          clear q1 q2 q3 hsum r0
          go_wp2
          go_ret
          exact ⟨ret_bool H.out.symm, B7⟩
        have q3' : (c5' == 1) = false := beq_eq_false_iff_ne.2 q3
        by_cases q4 : c5' = 0
        · have q4' : (c5' == 0) = true := beq_iff_eq.2 q4
          by_cases q5 : c6' = 0
          · exact absurd (show c4' = (r.tasks.length : Int) by omega) q1
          · have q5' : (c6' == 0) = false := beq_eq_false_iff_ne.2 q5
            have q6 : 0 < c6' := by omega
            have q6' : decide (0 < c6') = true := decide_eq_true q6
            have H := Lib.hid (show tf (runP r) = (rs == 4) by rw [HV.out]; unfold stI; rw [if_neg q1, if_neg (fun h => q3 h.1), if_pos ⟨q4, q6, r0⟩]; exact fin_st _ _ (by omega))
            clear q1 q2 q3 q4 q5 q6 hsum r0
            go_wp2
            go_ret
            exact ⟨ret_bool H.out.symm, B7⟩
        · have q4' : (c5' == 0) = false := beq_eq_false_iff_ne.2 q4
          have H := Lib.hid (show tf (runP r) = false by rw [HV.out]; unfold stI; rw [if_neg q1, if_neg (fun h => q3 h.1), if_neg (fun h => q4 h.1), if_neg (fun h => q4 h.1)]; exact fin_st0 _)
          clear q1 q2 q3 q4 hsum r0
          cases q7 : (rs == 1)
          all_goals
            go_wp2
            go_ret
            exact ⟨ret_bool H.out.symm, B7⟩
      · have q2' : (c4' + c5' + c6' == (r.tasks.length : Int)) = false := beq_eq_false_iff_ne.2 q2
        have r0 : ¬ c1' + c2' + c3' = 0 := by omega
        by_cases q4 : c5' = 0
        · have q4' : (c5' == 0) = true := beq_iff_eq.2 q4
          have q3' : (c5' == 1) = false := beq_eq_false_iff_ne.2 (by omega)
          by_cases q5 : c6' = 0
          · have q5' : (c6' == 0) = true := beq_iff_eq.2 q5
            have q6' : decide (0 < c6') = false := decide_eq_false (by omega)
            have H := Lib.hid (show tf (runP r) = (rs == 1) by rw [HV.out]; unfold stI; rw [if_neg q1, if_neg (fun h => r0 h.2), if_neg (fun h => r0 h.2.2), if_pos ⟨q4, q5⟩]; exact fin_st _ _ (by omega))
            clear q1 q2 q4 q5 hsum r0
            cases q7 : (rs == 1)
            all_goals
              rw [q7] at H
              go_wp2
              go_ret
              exact ⟨ret_bool H.out.symm, B7⟩
          · have q5' : (c6' == 0) = false := beq_eq_false_iff_ne.2 q5
            have q6' : decide (0 < c6') = true := decide_eq_true (by omega)
            have H := Lib.hid (show tf (runP r) = false by rw [HV.out]; unfold stI; rw [if_neg q1, if_neg (fun h => r0 h.2), if_neg (fun h => r0 h.2.2), if_neg (fun h => q5 h.2)]; exact fin_st0 _)
            clear q1 q2 q4 q5 hsum r0
            cases q7 : (rs == 1)
            all_goals
              go_wp2
              go_ret
              exact ⟨ret_bool H.out.symm, B7⟩
        · have q4' : (c5' == 0) = false := beq_eq_false_iff_ne.2 q4
          have H := Lib.hid (show tf (runP r) = false by rw [HV.out]; unfold stI; rw [if_neg q1, if_neg (fun h => r0 h.2), if_neg (fun h => r0 h.2.2), if_neg (fun h => q4 h.1)]; exact fin_st0 _)
          clear q1 q2 q4 hsum r0
          cases q7 : (rs == 1) <;> cases q3' : (c5' == 1)
          all_goals
            go_wp2
            go_ret
            exact ⟨ret_bool H.out.symm, B7⟩

theorem specRunOk_any (r : Run) (s : Sl × Sl) (w : World) (hl : cntRun r ≤ 2000000) (h : runD.rd w w.heap.size r s) :
    Calls Tryz.prog 50 #[runW r s] w fun e w' => e = .returned (.bool (tf (runP r))) ∧ Below w.heap.size w w' := by
  have HR := Lib.hid (show ∀ W, Below w.heap.size w W → runD.rd W W.heap.size r s from fun W hW => runD.rd_more (runD.rd_below h hW) hW.size)
  obtain ⟨⟨A1, n1, c1⟩, ⟨A2, n2, c2⟩⟩ := s
  obtain rfl : n2 = r.tasks.length := RdL.at1 (s := ⟨A2, n2, c2⟩) h.2
  have h1 : Rd edgeE w w.heap.size (.slice A1 n1 c1) r.plan.edges := edge_rd h.1
  have h2 : RdL taskD w w.heap.size (.slice A2 r.tasks.length c2) r.tasks := h.2
  have hl1 : r.plan.edges.length ≤ 2000000 := Nat.le_trans (cntL_len cntEdge _) (by unfold cntRun cntPlan at hl; omega)
  have hl2 : r.tasks.length ≤ 2000000 := Nat.le_trans (cntL_len cntTask _) (by unfold cntRun at hl; omega)
  clear h hl
  have X := DBox.new 84 [.int .i64 r.id, .int .i64 r.plan.prio, .int .i64 r.plan.most, .int .i64 r.plan.wait, .int .i64 r.plan.tasks, .slice A1 n1 c1, .int .i64 r.state, .slice A2 r.tasks.length c2] w (b := w.heap.size) rfl
  have B0 : Below w.heap.size w (w.alloc (.cells #[.int .i64 r.id, .int .i64 r.plan.prio, .int .i64 r.plan.most, .int .i64 r.plan.wait, .int .i64 r.plan.tasks, .slice A1 n1 c1, .int .i64 r.state, .slice A2 r.tasks.length c2] 84)) := by repeat (first | exact Below.refl _ _ | refine Below.alloc ?_ (by simp <;> omega) _)
  have C1 := specPlanFault_any r.plan (.slice A1 n1 c1) (w.alloc (.cells #[.int .i64 r.id, .int .i64 r.plan.prio, .int .i64 r.plan.most, .int .i64 r.plan.wait, .int .i64 r.plan.tasks, .slice A1 n1 c1, .int .i64 r.state, .slice A2 r.tasks.length c2] 84)) hl1 ((h1.below B0).more B0.size)
  have X_l := X.lt
  cases a1 : inB r.id 1 9999
  case false =>
    have H := Lib.hid (show tf (runP r) = false from tf_false (fun h => by have := inB_iff.2 h.1; rw [a1] at this; cases this))
    go_enter Tryz.func50, Tryz.ntmps50
    go_wp2_with (go_at_call 26; refine (l01In_any _ _ _ _).mono ?_; rintro e w' ⟨rfl, rfl⟩)
    go_ret
    exact ⟨ret_bool H.out.symm, B0⟩
  by_cases e2 : planFault r.plan = 0
  case neg =>
    have a2 : (planFault r.plan != 0) = true := by simp [e2]
    have H := Lib.hid (show tf (runP r) = false from tf_false (fun h => e2 h.2.1))
    clear e2
    go_enter Tryz.func50, Tryz.ntmps50
    go_wp2_with (first | (go_at_call 26; refine (l01In_any _ _ _ _).mono ?_; rintro e w' ⟨rfl, rfl⟩) | (go_at_call 80; refine C1.mono ?_; rintro e w1 ⟨rfl, b1⟩; have q1 := fun j => (bcell b1).1 w.heap.size j X_l))
    go_ret
    exact ⟨ret_bool H.out.symm, bnext B0 b1⟩
  have E2 := Lib.hid e2
  rw [e2] at C1
  clear e2
  by_cases e3 : (r.tasks.length : Int) = r.plan.tasks
  case neg =>
    have a3 : ((r.tasks.length : Int) != r.plan.tasks) = true := by simp [e3]
    have H := Lib.hid (show tf (runP r) = false from tf_false (fun h => e3 h.2.2.1))
    clear e3
    go_enter Tryz.func50, Tryz.ntmps50
    go_wp2_with (first | (go_at_call 26; refine (l01In_any _ _ _ _).mono ?_; rintro e w' ⟨rfl, rfl⟩) | (go_at_call 80; refine C1.mono ?_; rintro e w1 ⟨rfl, b1⟩; have q1 := fun j => (bcell b1).1 w.heap.size j X_l))
    go_ret
    exact ⟨ret_bool H.out.symm, bnext B0 b1⟩
  have a3 : ((r.tasks.length : Int) != r.plan.tasks) = false := by simp [e3]
  have E3 := Lib.hid e3
  clear e3
  go_enter Tryz.func50, Tryz.ntmps50
  go_wp2_with (first | (go_at_call 26; refine (l01In_any _ _ _ _).mono ?_; rintro e w' ⟨rfl, rfl⟩) | (go_at_call 80; refine C1.mono ?_; rintro e w1 ⟨rfl, b1⟩; have q1 := fun j => (bcell b1).1 w.heap.size j X_l))
  clear q1
  replace X := X.below b1
  replace B0 := bnext B0 b1
  clear X_l C1 b1 a3
  have A1_ := Lib.hid a1
  clear a1
  have X_0 := X.cell 0 _ rfl
  have X_1 := X.cell 1 _ rfl
  have X_2 := X.cell 2 _ rfl
  have X_3 := X.cell 3 _ rfl
  have X_4 := X.cell 4 _ rfl
  have X_5 := X.cell 5 _ rfl
  have X_6 := X.cell 6 _ rfl
  have X_7 := X.cell 7 _ rfl
  have X_l := X.lt
  go_loop [3] (fun i => ∃ k : Nat, k ≤ r.tasks.length ∧ i = .int .i64 k ∧ Hid (∀ t (ht : t < r.tasks.length), t < k → 1 ≤ r.tasks[t].state ∧ r.tasks[t].state ≤ 6)) (fun i => r.tasks.length - (intOf i).toNat)
  case atStart => exact ⟨0, Nat.zero_le _, rfl, fun t _ ht => absurd ht (by omega)⟩
  case round =>
    obtain ⟨k, hk, rfl, hok⟩ := hrel
    by_cases hlt : k < r.tasks.length
    · have hltI : (k : Int) < (r.tasks.length : Int) := by omega
      obtain ⟨b, o, _, rfl, hbb, _, d0, d1, d2, d3⟩ := (h2.below B0).task hlt
      cases tk : inB r.tasks[k].state 1 6
      · have H := Lib.hid (show tf (runP r) = false from tf_false (fun h => by
          have h3 := (h.2.2.2.1 k hlt).1
          rw [taskAt_get hlt] at h3
          have := inB_iff.2 h3
          rw [tk] at this
          cases this))
        go_wp2_with (go_at_call 26; refine (l01In_any _ _ _ _).mono ?_; rintro e w' ⟨rfl, rfl⟩)
        go_ret
        exact ⟨ret_bool H.out.symm, B0⟩
      · have S : Hid (∀ t (ht : t < r.tasks.length), t < k + 1 → 1 ≤ r.tasks[t].state ∧ r.tasks[t].state ≤ 6) := by
          intro t ht htk
          by_cases e : t = k
          · subst e; exact inB_iff.1 tk
          · exact hok.out t ht (by omega)
        go_wp2_with (go_at_call 26; refine (l01In_any _ _ _ _).mono ?_; rintro e w' ⟨rfl, rfl⟩)
        exact ⟨⟨k + 1, by omega, by go_num, S⟩, by simp [intOf]; omega⟩
    · have hltI : ¬ (k : Int) < (r.tasks.length : Int) := by omega
      have hk' : k = r.tasks.length := by omega
      subst hk'
      have HT := hok
      go_wp2
      clear X_0 X_1 X_2 X_3 X_4 X_5 X_6 X_7 X_l hok hlt hk hltI
      go_loopw [4] (fun i wr => ∃ k : Nat, k ≤ r.tasks.length ∧ i = .int .i64 k ∧ Hid (∀ t, t < k → taskP r t) ∧ Below w1.heap.size w1 wr) (fun i _ => r.tasks.length - (intOf i).toNat)
      case atStart => exact ⟨0, Nat.zero_le _, rfl, fun t ht => absurd ht (by omega), Below.refl _ _⟩
      case round =>
        obtain ⟨k, hk, rfl, hok, hb⟩ := hrel
        replace X := X.below hb
        replace B0 := bnext B0 hb
        have X_0 := X.cell 0 _ rfl
        have X_1 := X.cell 1 _ rfl
        have X_2 := X.cell 2 _ rfl
        have X_3 := X.cell 3 _ rfl
        have X_4 := X.cell 4 _ rfl
        have X_5 := X.cell 5 _ rfl
        have X_6 := X.cell 6 _ rfl
        have X_7 := X.cell 7 _ rfl
        have X_l := X.lt
        by_cases hlt : k < r.tasks.length
        · have hltI : (k : Int) < (r.tasks.length : Int) := by omega
          have C := specTask_any r (⟨A1, n1, c1⟩, ⟨A2, r.tasks.length, c2⟩) k wr E2.out E3.out hlt (HT.out k hlt hlt) (HR.out _ B0)
          by_cases tk : taskP r k
          · have S : Hid (∀ t, t < k + 1 → taskP r t) := by
              intro t ht
              by_cases e : t = k
              · subst e; exact tk
              · exact hok.out t (by omega)
            rw [tf_true tk] at C
            clear tk
            go_wp2_with fail
            refine C.mono ?_
            rintro e w2 ⟨rfl, b2⟩
            go_wp2
            exact ⟨⟨k + 1, by omega, by go_num, S, bnext hb b2⟩, by simp [intOf]; omega⟩
          · have H := Lib.hid (show tf (runP r) = false from tf_false (fun h => tk (h.2.2.2.1 k hlt)))
            rw [tf_false tk] at C
            clear tk
            go_wp2_with fail
            refine C.mono ?_
            rintro e w2 ⟨rfl, b2⟩
            go_wp2
            go_ret
            exact ⟨ret_bool H.out.symm, bnext B0 b2⟩
        · have hltI : ¬ (k : Int) < (r.tasks.length : Int) := by omega
          have hk' : k = r.tasks.length := by omega
          subst hk'
          have HF := Lib.hid (runP_fin A1_.out E2.out E3.out hok.out)
          have hlc := later_cell wr
          have C := fun u : Later wr => specState_any r (⟨A1, n1, c1⟩, ⟨A2, r.tasks.length, c2⟩) u.1 hl2 (fun x hx => by
            obtain ⟨t, ht, rfl⟩ := List.getElem_of_mem hx
            exact HT.out t ht ht) (HR.out _ (bnext B0 u.2))
          have C2 := Lib.hid C
          clear C
          generalize stL r.tasks = S at *
          have HG : Hid (tf (runP r) = ((r.state == S) && (r.state != 0))) := by
            show tf (runP r) = _
            rw [HF.out, Bool.eq_iff_iff]
            simp
          clear HF
          cases q1 : (r.state == S) <;> cases q2 : (r.state != 0)
          all_goals
            rw [q1, q2] at HG
            go_wp2
            refine wp_region_pure (by kernel_rfl) (by kernel_rfl) ?_
            repeat (go_big_quiet_step ((go_at_call 82; (with_reducible exact pure_at C2.out))))
            refine wpQuiet_nil ?_
            rintro _ ⟨⟨w2, b2⟩, rfl⟩
            clear hlc
            go_wp2
            go_ret
            exact ⟨ret_bool HG.out.symm, bnext B0 b2⟩
end Go.Proofs.YtjobmbjadpldfaaGreat
end
section
namespace Go.Proofs.YtjobmbjadpldfaaGreat
open Go.RowKit
set_option maxRecDepth 100000
set_option maxHeartbeats 2000000
set_option linter.unusedVariables false
set_option linter.unusedSimpArgs false

theorem slotsR_bound {y : Yard} (hl : cntYard y ≤ 2000000) (k : Nat) : slotsR (y.runs.take k) + y.runs.length ≤ 2000000 ∧ slotsR (y.runs.take k) + (entriesOf y).length ≤ 2000000 := by
  have h1 := slotsR_le (y.runs.take k)
  have h2 : ((y.runs.take k).map fun r => r.tasks.length).sum ≤ (y.runs.map fun r => r.tasks.length).sum := by
    conv => rhs; rw [← List.take_append_drop k y.runs, List.map_append, List.sum_append]
    omega
  have h3 : (y.runs.map fun r => r.tasks.length).sum + y.runs.length ≤ cntL cntRun y.runs := by
    unfold cntL
    have : ∀ l : List Run, (l.map fun r => r.tasks.length).sum ≤ (l.map cntRun).sum := by
      intro l
      induction l with
      | nil => simp
      | cons r l ih =>
        simp only [List.map_cons, List.sum_cons]
        have : r.tasks.length ≤ cntRun r := by unfold cntRun; have := cntL_len cntTask r.tasks; omega
        omega
    have := this y.runs
    omega
  have h4 := flat_take_le y.shelf y.shelf.length
  rw [List.take_length] at h4
  unfold cntYard at hl
  unfold entriesOf
  omega
theorem slots_le {y : Yard} (hl : cntYard y ≤ 2000000) : slotsOf y ≤ 2000000 := by
  have h1 := (slotsR_bound hl y.runs.length).2
  rw [List.take_length] at h1
  have h2 := staleN_le y (entriesOf y)
  unfold slotsOf
  omega

theorem implSlots_any (y : Yard) (s : Sl × Sl) (w : World) (hl : cntYard y ≤ 2000000) (h : yardD.rd w w.heap.size y s) :
    Calls Tryz.prog 62 #[yardW y s] w fun e w' => e = .returned (.int .i64 (slotsOf y : Nat)) ∧ Below w.heap.size w w' := by
  have HR := Lib.hid (show ∀ W, Below w.heap.size w W → yardD.rd W W.heap.size y s from fun W hW => yardD.rd_more (yardD.rd_below h hW) hW.size)
  obtain ⟨⟨A1, n1, c1⟩, ⟨A2, n2, c2⟩⟩ := s
  obtain rfl : n2 = y.runs.length := RdL.at1 (s := ⟨A2, n2, c2⟩) h.2
  have h2 : RdL runD w w.heap.size (.slice A2 y.runs.length c2) y.runs := h.2
  have hll : y.runs.length ≤ 2000000 := Nat.le_trans (cntL_len cntRun _) (by unfold cntYard at hl; omega)
  have HB := Lib.hid (slotsR_bound hl)
  have HD := Lib.hid (show slotsOf y = slotsR y.runs + staleN y (entriesOf y) from rfl)
  clear h
  have X := DBox.new 34 [.int .i64 y.now, .int .i64 y.seq, .slice A1 n1 c1, .slice A2 y.runs.length c2] w (b := w.heap.size) rfl
  have B0 : Below w.heap.size w (w.alloc (.cells #[.int .i64 y.now, .int .i64 y.seq, .slice A1 n1 c1, .slice A2 y.runs.length c2] 34)) := by repeat (first | exact Below.refl _ _ | refine Below.alloc ?_ (by simp <;> omega) _)
  have X_l := X.lt
  go_enter Tryz.func62, Tryz.ntmps62
  go_wp2
  generalize (w.alloc (.cells #[.int .i64 y.now, .int .i64 y.seq, .slice A1 n1 c1, .slice A2 y.runs.length c2] 34)) = W at *
  go_loopw [3, 11] (fun n i wr => ∃ k : Nat, k ≤ y.runs.length ∧ i = .int .i64 k ∧ n = .int .i64 (slotsR (y.runs.take k) : Nat) ∧ Below W.heap.size W wr) (fun _ i _ => y.runs.length - (intOf i).toNat)
  case atStart => exact ⟨0, Nat.zero_le _, rfl, rfl, Below.refl _ _⟩
  case round =>
    obtain ⟨k, hk, rfl, rfl, hb⟩ := hrel
    have hbd := (HB.out k).1
    by_cases hlt : k < y.runs.length
    · have hltI : (k : Int) < (y.runs.length : Int) := by omega
      obtain ⟨b, o, ⟨s1, ⟨At, nt, ct⟩⟩, rfl, hbb, hrr, c0_, c1_, c2_, c3_, c4_, c5_, c6_, c7_⟩ := (h2.below (bnext B0 hb)).run hlt
      obtain rfl : nt = y.runs[k].tasks.length := RdL.at1 (s := ⟨At, nt, ct⟩) hrr.2
      have hrt := cnt_run_tasks hl hlt
      have hs1 : b < wr.heap.size := Nat.lt_of_lt_of_le hbb (bnext B0 hb).size
      by_cases q : y.runs[k].state = 1
      · have S := Lib.hid (slotsR_yes hlt q)
        have q' : (y.runs[k].state == 1) = true := beq_iff_eq.2 q
        clear q
        go_wp2
        refine ⟨⟨k + 1, by omega, by go_num, by rw [S.out]; go_num, ?_⟩, by simp [intOf]; omega⟩
        exact bnext hb (by repeat (first | exact Below.refl _ _ | refine Below.alloc ?_ (by simp <;> omega) _))
      · have S := Lib.hid (slotsR_no hlt q)
        have q' : (y.runs[k].state == 1) = false := beq_eq_false_iff_ne.2 q
        clear q
        go_wp2
        refine ⟨⟨k + 1, by omega, by go_num, by rw [S.out], ?_⟩, by simp [intOf]; omega⟩
        exact bnext hb (by repeat (first | exact Below.refl _ _ | refine Below.alloc ?_ (by simp <;> omega) _))
    · have hltI : ¬ (k : Int) < (y.runs.length : Int) := by omega
      have hk' : k = y.runs.length := by omega
      subst hk'
      have hbe := (HB.out y.runs.length).2
      rw [List.take_length] at hbe hbd
      replace X := X.below hb
      replace B0 := bnext B0 hb
      clear X_l
      have X_0 := X.cell 0 _ rfl
      have X_1 := X.cell 1 _ rfl
      have X_2 := X.cell 2 _ rfl
      have X_3 := X.cell 3 _ rfl
      have X_l := X.lt
      have C := implEntries_any y (⟨A1, n1, c1⟩, ⟨A2, y.runs.length, c2⟩) wr hl (HR.out _ B0)
      have HW := Lib.hid (staleN_le y)
      generalize entriesOf y = L at *
      go_wp2_with fail
      refine C.mono ?_
      rintro e w2 ⟨v, rfl, o2, b2⟩
      obtain ⟨A3, c3, rfl, -⟩ := id (Rd.of_own o2)
      replace X := X.below b2
      replace B0 := bnext B0 b2
      clear X_0 X_1 X_2 X_3 X_l
      go_wp2
      generalize slotsR y.runs = M at *
      go_loopw [3, 27] (fun n i wr => ∃ k : Nat, k ≤ L.length ∧ i = .int .i64 k ∧ n = .int .i64 ((M + staleN y (L.take k) : Nat)) ∧ Below w2.heap.size w2 wr) (fun _ i _ => L.length - (intOf i).toNat)
      case atStart => exact ⟨0, Nat.zero_le _, rfl, by simp [staleN], Below.refl _ _⟩
      case round =>
        obtain ⟨k, hk, rfl, rfl, hb2⟩ := hrel
        have hst := HW.out (L.take k)
        rw [List.length_take] at hst
        replace X := X.below hb2
        have X_0 := X.cell 0 _ rfl
        have X_1 := X.cell 1 _ rfl
        have X_2 := X.cell 2 _ rfl
        have X_3 := X.cell 3 _ rfl
        have X_l := X.lt
        by_cases hlt : k < L.length
        · have hltI : (k : Int) < (L.length : Int) := by omega
          obtain ⟨b, o, _, hA3, hbb, _, d0, d1, d2, d3⟩ := RdL.entry (ent_rdL (Rd.of_own (o2.below hb2))) hlt
          subst hA3
          have ha : Below wr.heap.size wr (wr.alloc (.cells #[.int .i64 L[k].prio, .int .i64 L[k].seq, .int .i64 L[k].run, .int .i64 L[k].task] 96)) := (Below.refl _ _).alloc (Nat.le_refl _) _
          have C := implFresh_any y (⟨A1, n1, c1⟩, ⟨A2, y.runs.length, c2⟩) L[k] _ hl (HR.out _ (bnext (bnext B0 hb2) ha))
          have HY := Lib.hid (staleN_yes (y := y) hlt)
          have HN := Lib.hid (staleN_no (y := y) hlt)
          cases q : freshB y L[k]
          · have S := Lib.hid (HY.out q)
            rw [q] at C
            go_wp2_with fail
            refine C.mono ?_
            rintro e w3 ⟨rfl, b3⟩
            go_wp2
            exact ⟨⟨k + 1, by omega, by go_num, by rw [S.out]; go_num, bnext (bnext hb2 ha) b3⟩, by simp [intOf]; omega⟩
          · have S := Lib.hid (HN.out q)
            rw [q] at C
            go_wp2_with fail
            refine C.mono ?_
            rintro e w3 ⟨rfl, b3⟩
            go_wp2
            exact ⟨⟨k + 1, by omega, by go_num, by rw [S.out]; go_num, bnext (bnext hb2 ha) b3⟩, by simp [intOf]; omega⟩
        · have hltI : ¬ (k : Int) < (L.length : Int) := by omega
          have hk' : k = L.length := by omega
          subst hk'
          go_wp2
          go_ret
          exact ⟨ret_int (by have := HD.out; omega), bnext B0 hb2⟩

theorem specSlots_any (y : Yard) (s : Sl × Sl) (w : World) (hl : cntYard y ≤ 2000000) (h : yardD.rd w w.heap.size y s) :
    Calls Tryz.prog 54 #[yardW y s] w fun e w' => e = .returned (.int .i64 (slotsOf y : Nat)) ∧ Below w.heap.size w w' := by
  have HR := Lib.hid (show ∀ W, Below w.heap.size w W → yardD.rd W W.heap.size y s from fun W hW => yardD.rd_more (yardD.rd_below h hW) hW.size)
  obtain ⟨⟨A1, n1, c1⟩, ⟨A2, n2, c2⟩⟩ := s
  obtain rfl : n1 = y.shelf.length := RdL.at1 (s := ⟨A1, n1, c1⟩) h.1
  obtain rfl : n2 = y.runs.length := RdL.at1 (s := ⟨A2, n2, c2⟩) h.2
  have h1 : RdL (Dt.list entryD) w w.heap.size (.slice A1 y.shelf.length c1) y.shelf := h.1
  have h2 : RdL runD w w.heap.size (.slice A2 y.runs.length c2) y.runs := h.2
  have hll : y.runs.length ≤ 2000000 := Nat.le_trans (cntL_len cntRun _) (by unfold cntYard at hl; omega)
  have hls : y.shelf.length ≤ 2000000 := Nat.le_trans (cntL_len cntEntryS _) (by unfold cntYard at hl; omega)
  have HE := Lib.hid (show ∀ k (hk : k < y.shelf.length), y.shelf[k].length ≤ 2000000 from fun k hk => by
    have := cntL_mem (cnt := cntEntryS) (List.getElem_mem hk)
    have h2 : y.shelf[k].length ≤ cntEntryS y.shelf[k] := cntL_len cntEntry _
    unfold cntYard at hl
    omega)
  have HB := Lib.hid (slotsR_bound hl)
  have HD := Lib.hid (show slotsOf y = slotsR y.runs + staleN y y.shelf.flatten from rfl)
  have HW := Lib.hid (show ∀ k, slotsR y.runs + staleN y (y.shelf.take k).flatten ≤ 4000000 from fun k => by
    have h3 := (slotsR_bound hl y.runs.length).2
    rw [List.take_length] at h3
    have h4 := flat_take_le y.shelf k
    have h5 := staleN_le y (y.shelf.take k).flatten
    unfold cntYard at hl
    omega)
  clear h
  have X := DBox.new 34 [.int .i64 y.now, .int .i64 y.seq, .slice A1 y.shelf.length c1, .slice A2 y.runs.length c2] w (b := w.heap.size) rfl
  have B0 : Below w.heap.size w (w.alloc (.cells #[.int .i64 y.now, .int .i64 y.seq, .slice A1 y.shelf.length c1, .slice A2 y.runs.length c2] 34)) := by repeat (first | exact Below.refl _ _ | refine Below.alloc ?_ (by simp <;> omega) _)
  go_enter Tryz.func54, Tryz.ntmps54
  go_wp2
  generalize (w.alloc (.cells #[.int .i64 y.now, .int .i64 y.seq, .slice A1 y.shelf.length c1, .slice A2 y.runs.length c2] 34)) = W at *
  have X_0 := X.cell 0 _ rfl
  have X_1 := X.cell 1 _ rfl
  have X_2 := X.cell 2 _ rfl
  have X_3 := X.cell 3 _ rfl
  have X_l := X.lt
  go_loop [3, 4] (fun n i => ∃ k : Nat, k ≤ y.runs.length ∧ i = .int .i64 k ∧ n = .int .i64 (slotsR (y.runs.take k) : Nat)) (fun _ i => y.runs.length - (intOf i).toNat)
  case atStart => exact ⟨0, Nat.zero_le _, rfl, rfl⟩
  case round =>
    obtain ⟨k, hk, rfl, rfl⟩ := hrel
    have hbd := (HB.out k).1
    by_cases hlt : k < y.runs.length
    · have hltI : (k : Int) < (y.runs.length : Int) := by omega
      obtain ⟨b, o, ⟨s1, ⟨At, nt, ct⟩⟩, rfl, hbb, hrr, c0_, c1_, c2_, c3_, c4_, c5_, c6_, c7_⟩ := (h2.below B0).run hlt
      obtain rfl : nt = y.runs[k].tasks.length := RdL.at1 (s := ⟨At, nt, ct⟩) hrr.2
      have hrt := cnt_run_tasks hl hlt
      by_cases q : y.runs[k].state = 1
      · have S := Lib.hid (slotsR_yes hlt q)
        have q' : (y.runs[k].state == 1) = true := beq_iff_eq.2 q
        clear q
        go_wp2
        exact ⟨⟨k + 1, by omega, by go_num, by rw [S.out]; go_num⟩, by simp [intOf]; omega⟩
      · have S := Lib.hid (slotsR_no hlt q)
        have q' : (y.runs[k].state == 1) = false := beq_eq_false_iff_ne.2 q
        clear q
        go_wp2
        exact ⟨⟨k + 1, by omega, by go_num, by rw [S.out]⟩, by simp [intOf]; omega⟩
    · have hltI : ¬ (k : Int) < (y.runs.length : Int) := by omega
      have hk' : k = y.runs.length := by omega
      subst hk'
      have HS := Lib.hid (show slotsR (y.runs.take y.runs.length) = slotsR y.runs by rw [List.take_length])
      go_wp2
      clear X_0 X_1 X_2 X_3 X_l hbd hlt hk hltI
      go_loopw [3, 5] (fun n i wr => ∃ k : Nat, k ≤ y.shelf.length ∧ i = .int .i64 k ∧ n = .int .i64 (slotsR y.runs + staleN y (y.shelf.take k).flatten : Nat) ∧ Below W.heap.size W wr) (fun _ i _ => y.shelf.length - (intOf i).toNat)
      case atStart => exact ⟨0, Nat.zero_le _, rfl, by simp [staleN], Below.refl _ _⟩
      case round =>
        obtain ⟨k, hk, rfl, rfl, hb⟩ := hrel
        have hwk := HW.out k
        by_cases hlt : k < y.shelf.length
        · have hltI : (k : Int) < (y.shelf.length : Int) := by omega
          have hez := HE.out k hlt
          have hfl := Lib.hid (flat_take_succ y.shelf k hlt)
          have hwk1 := HW.out (k + 1)
          rw [hfl.out, staleN_append] at hwk1
          have HWj := Lib.hid (show ∀ j, staleN y (y.shelf[k].take j) ≤ y.shelf[k].length from fun j => Nat.le_trans (staleN_le _ _) (by rw [List.length_take]; omega))
          have X1 := X.below hb
          have hx0 : wr.cell? ⟨w.heap.size, 2, none⟩ = some (.slice A1 y.shelf.length c1) := X1.cell 2 _ rfl
          have hx1 := X1.lt
          go_wp2
          clear hx0 hx1 X1
          go_loopw [3, 6] (fun n i wq => ∃ j : Nat, j ≤ y.shelf[k].length ∧ i = .int .i64 j ∧ n = .int .i64 (slotsR y.runs + staleN y (y.shelf.take k).flatten + staleN y (y.shelf[k].take j) : Nat) ∧ Below W.heap.size W wq) (fun _ i _ => y.shelf[k].length - (intOf i).toNat)
          case atStart => exact ⟨0, Nat.zero_le _, rfl, by simp [staleN], hb⟩
          case round =>
            clear hb
            obtain ⟨j, hj, rfl, rfl, hb⟩ := hrel
            have hsj := HWj.out j
            have X := X.below hb
            have X_0 := X.cell 0 _ rfl
            have X_1 := X.cell 1 _ rfl
            have X_2 := X.cell 2 _ rfl
            have X_3 := X.cell 3 _ rfl
            have X_l := X.lt
            obtain ⟨b, o, ⟨As, ns, cs⟩, hA1, hbb, hr, d0⟩ := (h1.below (bnext B0 hb)).entryS hlt
            obtain rfl : ns = y.shelf[k].length := RdL.at1 (s := ⟨As, ns, cs⟩) hr
            subst hA1
            have hs1 : b < wr.heap.size := Nat.lt_of_lt_of_le hbb (bnext B0 hb).size
            by_cases hjt : j < y.shelf[k].length
            · have hjI : (j : Int) < (y.shelf[k].length : Int) := by omega
              obtain ⟨b2, o2, _, hAs, hbb2, _, f0, f1, f2, f3⟩ := RdL.entry hr hjt
              subst hAs
              have hs2 : b2 < wr.heap.size := Nat.lt_of_lt_of_le hbb2 (bnext B0 hb).size
              have hlc := later_cell wr
              have C := Lib.hid (show ∀ u : Later wr, _ from fun u => specFresh_any y (⟨some ⟨b, o, none⟩, y.shelf.length, c1⟩, ⟨A2, y.runs.length, c2⟩) y.shelf[k][j] u.1 hl (HR.out _ (bnext (bnext B0 hb) u.2)))
              have HY := Lib.hid (staleN_yes (y := y) hjt)
              have HN := Lib.hid (staleN_no (y := y) hjt)
              cases q : freshB y y.shelf[k][j]
              · have S := Lib.hid (HY.out q)
                rw [q] at C
                go_wp2
                refine wp_region_pure (by kernel_rfl) (by kernel_rfl) ?_
                repeat (go_big_quiet_step ((go_at_call 83; (with_reducible exact pure_at C.out))))
                refine wpQuiet_nil ?_
                rintro _ ⟨⟨w3, b3⟩, rfl⟩
                clear hlc
                go_wp2
                exact ⟨⟨j + 1, by omega, by go_num, by rw [S.out]; go_num, bnext hb b3⟩, by simp [intOf]; omega⟩
              · have S := Lib.hid (HN.out q)
                rw [q] at C
                go_wp2
                refine wp_region_pure (by kernel_rfl) (by kernel_rfl) ?_
                repeat (go_big_quiet_step ((go_at_call 83; (with_reducible exact pure_at C.out))))
                refine wpQuiet_nil ?_
                rintro _ ⟨⟨w3, b3⟩, rfl⟩
                clear hlc
                go_wp2
                exact ⟨⟨j + 1, by omega, by go_num, by rw [S.out]; go_num, bnext hb b3⟩, by simp [intOf]; omega⟩
            · have hjI : ¬ (j : Int) < (y.shelf[k].length : Int) := by omega
              have hj' : j = y.shelf[k].length := by omega
              subst hj'
              have S := Lib.hid (show slotsR y.runs + staleN y (y.shelf.take (k + 1)).flatten = slotsR y.runs + staleN y (y.shelf.take k).flatten + staleN y (y.shelf[k].take y.shelf[k].length) by rw [hfl.out, staleN_append, List.take_length]; omega)
              go_wp2
              exact ⟨⟨k + 1, by omega, by go_num, by rw [S.out], hb⟩, by simp [intOf]; omega⟩
        · have hltI : ¬ (k : Int) < (y.shelf.length : Int) := by omega
          have hk' : k = y.shelf.length := by omega
          subst hk'
          have X1 := X.below hb
          have hx0 : wr.cell? ⟨w.heap.size, 2, none⟩ = some (.slice A1 y.shelf.length c1) := X1.cell 2 _ rfl
          have hx1 := X1.lt
          go_wp2
          go_ret
          exact ⟨ret_int (by have := HD.out; omega), bnext B0 hb⟩
end Go.Proofs.YtjobmbjadpldfaaGreat
end
section
namespace Go.Proofs.YtjobmbjadpldfaaGreat
open Go.RowKit
set_option maxRecDepth 100000
set_option maxHeartbeats 4000000
set_option linter.unusedVariables false
set_option linter.unusedSimpArgs false

theorem OwL.grown {α : Type} {d : Dt α} {w w' : World} {F : List Nat} {v : Value} {l : List α} {row : Option Nat} (h : OwL d w F v l) (hg : w.grownBy w' row) (hd : ∀ b ∈ F, row ≠ some b) : OwL d w' F v l :=
  h.keep hg.size fun b hb => hg.block b (h.lt b hb) (fun e => hd b hb e.symm)
theorem Bls.below {α : Type} {d : Dt α} {E : TypeId} {w w' : World} {base : Nat} {v : Value} {l : List α} (h : Bls d E w base v l) (hb : Below w.heap.size w w') : Bls d E w' base v l := by
  obtain ⟨rs, hm, hB⟩ := h
  exact ⟨rs, hm, hB.below hb⟩


theorem implCopyYard_own (y : Yard) (s : Sl × Sl) (w : World) (hl : cntYard y ≤ 2000000) (h : yardD.rd w w.heap.size y s) :
    Calls Tryz.prog 37 #[yardW y s] w (OwnPost yardD yardW y w) := by
  obtain ⟨⟨A1, n1, c1⟩, ⟨A2, n2, c2⟩⟩ := s
  obtain rfl : n1 = y.shelf.length := RdL.at1 (s := ⟨A1, n1, c1⟩) h.1
  obtain rfl : n2 = y.runs.length := RdL.at1 (s := ⟨A2, n2, c2⟩) h.2
  have h1 : RdL (Dt.list entryD) w w.heap.size (.slice A1 y.shelf.length c1) y.shelf := h.1
  have h2 : RdL runD w w.heap.size (.slice A2 y.runs.length c2) y.runs := h.2
  have hll : y.runs.length ≤ 2000000 := Nat.le_trans (cntL_len cntRun _) (by unfold cntYard at hl; omega)
  have hls : y.shelf.length ≤ 2000000 := Nat.le_trans (cntL_len cntEntryS _) (by unfold cntYard at hl; omega)
  have HE := Lib.hid (show ∀ k (hk : k < y.shelf.length), y.shelf[k].length ≤ 2000000 from fun k hk => by
    have := cntL_mem (cnt := cntEntryS) (List.getElem_mem hk)
    have h2 : y.shelf[k].length ≤ cntEntryS y.shelf[k] := cntL_len cntEntry _
    unfold cntYard at hl
    omega)
  have HC := Lib.hid (show ∀ k (hk : k < y.runs.length), cntRun y.runs[k] ≤ 2000000 from fun k hk => by
    have := cntL_mem (cnt := cntRun) (List.getElem_mem hk)
    unfold cntYard at hl
    omega)
  clear h
  have X := ((DBox.new 34 [.int .i64 y.now, .int .i64 y.seq, .slice A1 y.shelf.length c1, .slice A2 y.runs.length c2] w (b := w.heap.size) rfl).below ((Below.refl _ _).alloc (Nat.le_refl _) (.cells #[.int .i64 0, .int .i64 0, .slice none 0 0, .slice none 0 0] 34))).below ((Below.refl _ _).alloc (Nat.le_refl _) (.cells #[.int .i64 y.now, .int .i64 y.seq, .slice none 0 0, .slice none 0 0] 34))
  have Z := (DBox.new 34 [.int .i64 0, .int .i64 0, .slice none 0 0, .slice none 0 0] (w.alloc (.cells #[.int .i64 y.now, .int .i64 y.seq, .slice A1 y.shelf.length c1, .slice A2 y.runs.length c2] 34)) (b := w.heap.size + 1) (by simp)).below ((Below.refl _ _).alloc (Nat.le_refl _) (.cells #[.int .i64 y.now, .int .i64 y.seq, .slice none 0 0, .slice none 0 0] 34))
  have O := DBox.new 34 [.int .i64 y.now, .int .i64 y.seq, .slice none 0 0, .slice none 0 0] ((w.alloc (.cells #[.int .i64 y.now, .int .i64 y.seq, .slice A1 y.shelf.length c1, .slice A2 y.runs.length c2] 34)).alloc (.cells #[.int .i64 0, .int .i64 0, .slice none 0 0, .slice none 0 0] 34)) (b := w.heap.size + 1 + 1) (by simp)
  have B0 : Below w.heap.size w (((w.alloc (.cells #[.int .i64 y.now, .int .i64 y.seq, .slice A1 y.shelf.length c1, .slice A2 y.runs.length c2] 34)).alloc (.cells #[.int .i64 0, .int .i64 0, .slice none 0 0, .slice none 0 0] 34)).alloc (.cells #[.int .i64 y.now, .int .i64 y.seq, .slice none 0 0, .slice none 0 0] 34)) := by repeat (first | exact Below.refl _ _ | refine Below.alloc ?_ (by simp <;> omega) _)
  obtain ⟨i0, hi0, hz0, hz1, hz2⟩ := info_parts entryS_infoD
  obtain ⟨e0, he0, ez0, ez1, ez2⟩ := info_parts entE_info
  obtain ⟨j0, hj0, jz0, jz1, jz2⟩ := info_parts run_infoD
  go_enter Tryz.func37, Tryz.ntmps37
  go_wp2
  generalize (((w.alloc (.cells #[.int .i64 y.now, .int .i64 y.seq, .slice A1 y.shelf.length c1, .slice A2 y.runs.length c2] 34)).alloc (.cells #[.int .i64 0, .int .i64 0, .slice none 0 0, .slice none 0 0] 34)).alloc (.cells #[.int .i64 y.now, .int .i64 y.seq, .slice none 0 0, .slice none 0 0] 34)) = W at *
  have hW3 : w.heap.size + 3 ≤ W.heap.size := O.lt
  go_loopw [16] (fun i wr => ∃ (k : Nat) (v : Value), k ≤ y.shelf.length ∧ i = .int .i64 k ∧ Hid (Bls (Dt.list entryD) 85 wr (w.heap.size + 3) v (y.shelf.take k)) ∧ DBox w.heap.size [.int .i64 y.now, .int .i64 y.seq, .slice A1 y.shelf.length c1, .slice A2 y.runs.length c2] wr ∧ DBox (w.heap.size + 1) [.int .i64 0, .int .i64 0, .slice none 0 0, .slice none 0 0] wr ∧ DBox (w.heap.size + 1 + 1) [.int .i64 y.now, .int .i64 y.seq, v, .slice none 0 0] wr ∧ Below w.heap.size w wr ∧ w.heap.size + 3 ≤ wr.heap.size) (fun i _ => y.shelf.length - (intOf i).toNat)
  case atStart => exact ⟨0, _, Nat.zero_le _, rfl, ⟨[], rfl, Bld.nil _ _ _ _⟩, X, Z, O, B0, hW3⟩
  case round =>
    clear X Z O B0 hW3
    obtain ⟨k, v, hk, rfl, hB0, X, Z, O, hb, hsz⟩ := hrel
    have X_0 := X.cell 0 _ rfl
    have X_1 := X.cell 1 _ rfl
    have X_2 := X.cell 2 _ rfl
    have X_3 := X.cell 3 _ rfl
    have X_l := X.lt
    have O_0 := O.cell 0 _ rfl
    have O_1 := O.cell 1 _ rfl
    have O_2 := O.cell 2 _ rfl
    have O_3 := O.cell 3 _ rfl
    have O_l := O.lt
    have O_f := O.free
    by_cases hlt : k < y.shelf.length
    · have hltI : (k : Int) < (y.shelf.length : Int) := by omega
      obtain ⟨b, o, ⟨As, ns, cs⟩, hA1, hbb, hr, d0⟩ := (h1.below hb).entryS hlt
      obtain rfl : ns = y.shelf[k].length := RdL.at1 (s := ⟨As, ns, cs⟩) hr
      subst hA1
      have hs1 : b < wr.heap.size := Nat.lt_of_lt_of_le hbb hb.size
      have hez := HE.out k hlt
      obtain ⟨rs, hm, hB⟩ := hB0.out
      have hrl : rs.length = k := by have := congrArg List.length hm; simpa [Nat.min_eq_left hk] using this
      have hrl' : rs.length ≤ 2000000 := by omega
      have Hrl := Lib.hid hrl
      clear hrl
      have hO := hB.ow
      have hne : v.ownBlock ≠ some (w.heap.size + 1 + 1) := fun e => by have := hO.within _ e; omega
      have hrr := Lib.hid (show ∀ W, Below wr.heap.size wr W → RdL entryD W W.heap.size (Sl.v ⟨As, y.shelf[k].length, cs⟩) y.shelf[k] from fun W hW => RdL.more (RdL.below (RdL.more hr hb.size) hW) hW.size)
      go_wp2
      refine wp_region_last (fun w' => w'.cell? ⟨w.heap.size + 1 + 1, 2, none⟩ = some v) 7 (by kernel_rfl) ?_ (fun hHeld => ?_)
      · simpa [go_sem] using O_2
      refine wpAnyL_take (i := 0) (oi := _) (v := ?_) rfl (by kernel_rfl) (by kernel_rfl) (by kernel_rfl) (by kernel_rfl) (fun _ _ _ h => h) hHeld (Or.inl ⟨by rfl, ?_⟩) ?_
      rotate_left
      · intro w hSw
        (try dsimp only at hSw)
        go_simp
        all_goals with_reducible rfl
      try simp only [Act.put, List.setIfInBounds_toArray, List.set_cons_zero, List.set_cons_succ]
      refine wpAnyL_take (i := 1) (oi := _) (v := ?_) rfl (by kernel_rfl) (by kernel_rfl) (by kernel_rfl) (by kernel_rfl) (fun _ _ _ h => h) hHeld (Or.inl ⟨by rfl, ?_⟩) ?_
      rotate_left
      · intro w hSw
        (try dsimp only at hSw)
        go_simp
        all_goals with_reducible rfl
      try simp only [Act.put, List.setIfInBounds_toArray, List.set_cons_zero, List.set_cons_succ]
      refine wpAnyL_take (i := 2) (oi := _) (v := ?_) rfl (by kernel_rfl) (by kernel_rfl) (by kernel_rfl) (by kernel_rfl) (fun _ _ _ h => h) hHeld (Or.inl ⟨by rfl, ?_⟩) ?_
      rotate_left
      · intro w hSw
        (try dsimp only at hSw)
        go_simp
        all_goals with_reducible rfl
      try simp only [Act.put, List.setIfInBounds_toArray, List.set_cons_zero, List.set_cons_succ]
      refine wpAnyL_one (i := 3) (o := _) rfl (by kernel_rfl) (fun K hK => ?_)
      (go_simp; refine (implCopyEntries_own y.shelf[k] ⟨As, y.shelf[k].length, cs⟩ _ hez (hrr.out _ (Below.refl _ _).drew)).mono ?_; rintro e w2 ⟨s2, F2, rfl, o2, n2, b2⟩; (try dsimp only [slV]); have B12 := bnext ((Below.refl wr.heap.size wr).drew) b2; have z2 := B12.size; simp only [World.size_drew] at n2; have O2 := O.below B12; have X2 := X.below B12; have k0 : w2.cell? ⟨w.heap.size + 1 + 1, 2, none⟩ = some v := O2.cell 2 _ rfl; have d2f := O2.free; have d2l := O2.lt; go_simp)
      refine hK.out _ _ (fun _ => ?_) ?_
      · exact k0
      clear hK K
      try simp only [Act.put, List.setIfInBounds_toArray, List.set_cons_zero, List.set_cons_succ]
      refine wpAnyL_one (i := 4) (o := _) rfl (by kernel_rfl) (fun K hK => ?_)
      go_simp
      refine hK.out _ _ (fun _ => ?_) ?_
      · (first | assumption | go_keep)
      clear hK K
      try simp only [Act.put, List.setIfInBounds_toArray, List.set_cons_zero, List.set_cons_succ]
      refine wpAnyL_one (i := 5) (o := _) rfl (by kernel_rfl) (fun K hK => ?_)
      (refine step_push_all _ (Dt.list entryD).enc (by decide) (by rfl) (.tmp 21) (.tmp 24) (by rfl) Tryz.underlying31 hi0 hz0 hz1 hz2 (by rfl) (v := v) (l := rs) (by rfl) (hO.below (B12.alloc (by omega) _)) (by rfl) (Rd.one (Dt.list entryD).enc _ _ (y.shelf[k], s2) (by simp) rfl 1 (Nat.le_refl _) (Nat.lt_succ_self _)) (by omega) (by simp) (by decide) (by (try simp only [World.size_alloc]); omega) ?_; intro v5 w5 o5 g5 f5; obtain ⟨A5, c5, rfl, -⟩ := id (Rd.of_own o5); simp only [List.length_append, List.length_singleton] at o5 f5; have ha5 := (Below.refl w2.heap.size w2).alloc (Nat.le_refl _) (.cells #[.slice s2.a s2.n s2.c] 85); have O5 := (O2.below ha5).off g5 (fun e => hne e.symm); have m0 : w5.cell? ⟨w.heap.size + 1 + 1, 2, none⟩ = some v := O5.cell 2 _ rfl; have X5 := (X2.below ha5).off g5 (fun e => by have := hO.within _ e.symm; omega); have fO := O5.free; have lO := O5.lt)
      refine hK.out _ _ (fun _ => ?_) ?_
      · exact m0
      clear hK K
      try simp only [Act.put, List.setIfInBounds_toArray, List.set_cons_zero, List.set_cons_succ]
      refine wpAnyL_one (i := 6) (o := _) rfl (by kernel_rfl) (fun K hK => ?_)
      go_simp
      refine hK.out _ _ (fun _ => ?_) ?_
      · exact m0
      clear hK K
      try simp only [Act.put, List.setIfInBounds_toArray, List.set_cons_zero, List.set_cons_succ]
      refine wpAnyL_one (i := 7) (o := _) rfl (by kernel_rfl) (fun K hK => ?_)
      go_simp
      refine hK.out _ _ (fun hne => absurd rfl hne) ?_
      clear hK K
      try simp only [Act.put, List.setIfInBounds_toArray, List.set_cons_zero, List.set_cons_succ]
      refine wpAnyL_done (by kernel_rfl) ?_ _

      go_wp2
      have Z5 := ((Z.below B12).below ha5).off g5 (fun e => by have := hO.within _ e.symm; omega)
      have hP := Bld.push1 (d := Dt.list entryD) hB B12 o2 (fun b hb' => by have := n2 b hb'; omega) hsz ha5 o5 g5 f5
      have W5 := ((hb.trans (B12.mono hb.size)).alloc (by omega) (.cells #[.slice s2.a s2.n s2.c] 85)).grown g5 (by (try simp only [World.size_alloc]); omega) (fun g hg => by have := hO.within g hg; omega)
      have S : Hid (Bls (Dt.list entryD) 85 (w5.setCell ⟨w.heap.size + 1 + 1, 2, none⟩ (.slice A5 (rs.length + 1) c5)) (w.heap.size + 3) (.slice A5 (rs.length + 1) c5) (y.shelf.take (k + 1))) := ⟨rs ++ [(y.shelf[k], s2)], by rw [List.map_append, hm, take_snoc y.shelf k hlt]; rfl, hP.setOther (a := ⟨w.heap.size + 1 + 1, 2, none⟩) (by show w.heap.size + 1 + 1 < _; omega) _⟩
      have g5s := g5.size
      simp only [World.size_alloc] at g5s
      have SX := X5.setOther (a := ⟨w.heap.size + 1 + 1, 2, none⟩) (by show w.heap.size ≠ w.heap.size + 1 + 1; omega) (.slice A5 (rs.length + 1) c5)
      have SZ := Z5.setOther (a := ⟨w.heap.size + 1 + 1, 2, none⟩) (by show w.heap.size + 1 ≠ w.heap.size + 1 + 1; omega) (.slice A5 (rs.length + 1) c5)
      have SO : DBox (w.heap.size + 1 + 1) [.int .i64 y.now, .int .i64 y.seq, .slice A5 (rs.length + 1) c5, .slice none 0 0] (w5.setCell ⟨w.heap.size + 1 + 1, 2, none⟩ (.slice A5 (rs.length + 1) c5)) := O5.set 2 (by simp) _
      have SW : Below w.heap.size w (w5.setCell ⟨w.heap.size + 1 + 1, 2, none⟩ (.slice A5 (rs.length + 1) c5)) := W5.setCell (by show w.heap.size ≤ w.heap.size + 1 + 1; omega) _
      have SS : w.heap.size + 3 ≤ (w5.setCell ⟨w.heap.size + 1 + 1, 2, none⟩ (.slice A5 (rs.length + 1) c5)).heap.size := by simp [World.setCell]; omega
      first
        | exact ⟨⟨k + 1, by omega, by simp, .slice A5 (rs.length + 1) c5, S, SX, SZ, SO, SW, by simpa using SS⟩, by simp [intOf]; omega⟩
        | exact ⟨⟨k + 1, .slice A5 (rs.length + 1) c5, by omega, by go_num, S, SX, SZ, SO, SW, SS⟩, by simp [intOf]; omega⟩
        | (refine ⟨?_, by simp [intOf]; omega⟩; (repeat apply Exists.intro); first | exact ⟨⟨k + 1, .slice A5 (rs.length + 1) c5, by omega, by go_num, S, SX, SZ, SO, SW, SS⟩, rfl⟩ | exact ⟨⟨k + 1, .slice A5 (rs.length + 1) c5, by omega, by go_num, S, SX, SZ, SO, SW, SS⟩, rfl, rfl⟩ | exact ⟨⟨k + 1, .slice A5 (rs.length + 1) c5, by omega, by go_num, S, SX, SZ, SO, SW, SS⟩, rfl, rfl, rfl⟩ | exact ⟨⟨k + 1, .slice A5 (rs.length + 1) c5, by omega, by go_num, S, SX, SZ, SO, SW, SS⟩, rfl, rfl, rfl, rfl⟩ | exact ⟨⟨k + 1, .slice A5 (rs.length + 1) c5, by omega, by go_num, S, SX, SZ, SO, SW, SS⟩, rfl, rfl, rfl, rfl, rfl⟩ | exact ⟨⟨k + 1, .slice A5 (rs.length + 1) c5, by omega, by go_num, S, SX, SZ, SO, SW, SS⟩, rfl, rfl, rfl, rfl, rfl, rfl⟩ | exact ⟨⟨k + 1, .slice A5 (rs.length + 1) c5, by omega, by go_num, S, SX, SZ, SO, SW, SS⟩, rfl, rfl, rfl, rfl, rfl, rfl, rfl⟩ | exact ⟨⟨k + 1, .slice A5 (rs.length + 1) c5, by omega, by go_num, S, SX, SZ, SO, SW, SS⟩, rfl, rfl, rfl, rfl, rfl, rfl, rfl, rfl⟩ | exact ⟨⟨k + 1, .slice A5 (rs.length + 1) c5, by omega, by go_num, S, SX, SZ, SO, SW, SS⟩, rfl, rfl, rfl, rfl, rfl, rfl, rfl, rfl, rfl⟩ | exact ⟨⟨k + 1, .slice A5 (rs.length + 1) c5, by omega, by go_num, S, SX, SZ, SO, SW, SS⟩, rfl, rfl, rfl, rfl, rfl, rfl, rfl, rfl, rfl, rfl⟩ | exact ⟨⟨k + 1, .slice A5 (rs.length + 1) c5, by omega, by go_num, S, SX, SZ, SO, SW, SS⟩, rfl, rfl, rfl, rfl, rfl, rfl, rfl, rfl, rfl, rfl, rfl⟩ | exact ⟨⟨k + 1, .slice A5 (rs.length + 1) c5, by omega, by go_num, S, SX, SZ, SO, SW, SS⟩, rfl, rfl, rfl, rfl, rfl, rfl, rfl, rfl, rfl, rfl, rfl, rfl⟩ | exact ⟨⟨k + 1, .slice A5 (rs.length + 1) c5, by omega, by go_num, S, SX, SZ, SO, SW, SS⟩, rfl, rfl, rfl, rfl, rfl, rfl, rfl, rfl, rfl, rfl, rfl, rfl, rfl⟩)
    · have hltI : ¬ (k : Int) < (y.shelf.length : Int) := by omega
      have hk' : k = y.shelf.length := by omega
      obtain ⟨F1, ⟨⟨A9, n9, c9⟩, rfl, OS⟩, nS⟩ : ∃ F1, (∃ s : Sl, v = .slice s.a s.n s.c ∧ OwL (Dt.list entryD) wr F1 s.v y.shelf) ∧ ∀ b ∈ F1, w.heap.size + 3 ≤ b := by
        obtain ⟨rs, hm, hB⟩ := hB0.out
        rw [hk', List.take_length] at hm
        obtain ⟨F, h1, h2⟩ := hB.owl hm
        obtain ⟨A, c, rfl, _⟩ := h1.form
        exact ⟨F, ⟨⟨A, y.shelf.length, c⟩, rfl, h1⟩, h2⟩
      go_wp2
      clear X_0 X_1 X_2 X_3 X_l O_0 O_1 O_2 O_3 O_l O_f hlt hltI hk' hk hB0
      obtain ⟨ws, hws⟩ : ∃ ws, ws = wr := ⟨_, rfl⟩
      rw [← hws] at hb X Z O OS hsz ⊢
      clear hws
      have lS : ∀ b ∈ F1, b < ws.heap.size := OS.lt
      go_loopw [31] (fun i wr => ∃ (k : Nat) (v : Value), k ≤ y.runs.length ∧ i = .int .i64 k ∧ Hid (Bls runD 84 wr ws.heap.size v (y.runs.take k)) ∧ Hid (OwL (Dt.list entryD) wr F1 (.slice A9 n9 c9) y.shelf) ∧ DBox w.heap.size [.int .i64 y.now, .int .i64 y.seq, .slice A1 y.shelf.length c1, .slice A2 y.runs.length c2] wr ∧ DBox (w.heap.size + 1) [.int .i64 0, .int .i64 0, .slice none 0 0, .slice none 0 0] wr ∧ DBox (w.heap.size + 1 + 1) [.int .i64 y.now, .int .i64 y.seq, .slice A9 n9 c9, v] wr ∧ Below w.heap.size w wr ∧ ws.heap.size ≤ wr.heap.size) (fun i _ => y.runs.length - (intOf i).toNat)
      case atStart => exact ⟨0, _, Nat.zero_le _, rfl, ⟨[], rfl, Bld.nil _ _ _ _⟩, OS, X, Z, O, hb, Nat.le_refl _⟩
      case round =>
        clear X Z O hb OS
        obtain ⟨k, v, hk, rfl, hB0, OS, X, Z, O, hb, hsw⟩ := hrel
        have X_0 := X.cell 0 _ rfl
        have X_1 := X.cell 1 _ rfl
        have X_2 := X.cell 2 _ rfl
        have X_3 := X.cell 3 _ rfl
        have X_l := X.lt
        have O_0 := O.cell 0 _ rfl
        have O_1 := O.cell 1 _ rfl
        have O_2 := O.cell 2 _ rfl
        have O_3 := O.cell 3 _ rfl
        have O_l := O.lt
        have O_f := O.free
        by_cases hlt : k < y.runs.length
        · have hltI : (k : Int) < (y.runs.length : Int) := by omega
          obtain ⟨b, o, ⟨⟨A8, n8, c8⟩, ⟨At, nt, ct⟩⟩, hA2, hbb, hrr, e0, e1, e2, e3, e4, e5, e6, e7⟩ := (h2.below hb).run hlt
          subst hA2
          have hs1 : b < wr.heap.size := Nat.lt_of_lt_of_le hbb hb.size
          have HRr := Lib.hid (show ∀ W, Below wr.heap.size wr W → runD.rd W W.heap.size y.runs[k] (⟨A8, n8, c8⟩, ⟨At, nt, ct⟩) from fun W hW => runD.rd_more (runD.rd_below (runD.rd_more hrr hb.size) hW) hW.size)
          have hcr := HC.out k hlt
          obtain ⟨rs, hm, hB⟩ := hB0.out
          have hrl : rs.length = k := by have := congrArg List.length hm; simpa [Nat.min_eq_left hk] using this
          have hrl' : rs.length ≤ 2000000 := by omega
          have Hrl := Lib.hid hrl
          clear hrl
          have hO := hB.ow
          have hne : v.ownBlock ≠ some (w.heap.size + 1 + 1) := fun e => by have := hO.within _ e; omega
          have T := DBox.new 84 [.int .i64 y.runs[k].id, .int .i64 y.runs[k].plan.prio, .int .i64 y.runs[k].plan.most, .int .i64 y.runs[k].plan.wait, .int .i64 y.runs[k].plan.tasks, .slice A8 n8 c8, .int .i64 y.runs[k].state, .slice At nt ct] wr rfl
          have ha := (Below.refl wr.heap.size wr).alloc (Nat.le_refl _) (.cells #[.int .i64 y.runs[k].id, .int .i64 y.runs[k].plan.prio, .int .i64 y.runs[k].plan.most, .int .i64 y.runs[k].plan.wait, .int .i64 y.runs[k].plan.tasks, .slice A8 n8 c8, .int .i64 y.runs[k].state, .slice At nt ct] 84)
          go_wp2
          generalize hW1 : wr.alloc (.cells #[.int .i64 y.runs[k].id, .int .i64 y.runs[k].plan.prio, .int .i64 y.runs[k].plan.most, .int .i64 y.runs[k].plan.wait, .int .i64 y.runs[k].plan.tasks, .slice A8 n8 c8, .int .i64 y.runs[k].state, .slice At nt ct] 84) = w1 at *
          clear hW1 X_0 X_1 X_2 X_3 X_l O_0 O_1 O_2 O_3 O_l O_f e0 e1 e2 e3 e4 e5 e6 e7
          have X1 := X.below ha
          have O1 := O.below ha
          have sa := ha.size
          have Tl := T.lt
          refine wp_region_last (fun w' => w'.cell? ⟨w.heap.size + 1 + 1, 3, none⟩ = some v ∧ w'.cell? ⟨wr.heap.size, 0, none⟩ = some (.int .i64 y.runs[k].id) ∧ w'.cell? ⟨wr.heap.size, 1, none⟩ = some (.int .i64 y.runs[k].plan.prio) ∧ w'.cell? ⟨wr.heap.size, 2, none⟩ = some (.int .i64 y.runs[k].plan.most) ∧ w'.cell? ⟨wr.heap.size, 3, none⟩ = some (.int .i64 y.runs[k].plan.wait) ∧ w'.cell? ⟨wr.heap.size, 4, none⟩ = some (.int .i64 y.runs[k].plan.tasks) ∧ w'.cell? ⟨wr.heap.size, 5, none⟩ = some (.slice A8 n8 c8) ∧ w'.cell? ⟨wr.heap.size, 6, none⟩ = some (.int .i64 y.runs[k].state) ∧ w'.cell? ⟨wr.heap.size, 7, none⟩ = some (.slice At nt ct)) 7 (by kernel_rfl) ?_ (fun hHeld => ?_)
          · exact ⟨by simpa [go_sem] using O1.cell 3 _ rfl, by simpa [go_sem] using T.cell 0 _ rfl, by simpa [go_sem] using T.cell 1 _ rfl, by simpa [go_sem] using T.cell 2 _ rfl, by simpa [go_sem] using T.cell 3 _ rfl, by simpa [go_sem] using T.cell 4 _ rfl, by simpa [go_sem] using T.cell 5 _ rfl, by simpa [go_sem] using T.cell 6 _ rfl, by simpa [go_sem] using T.cell 7 _ rfl⟩
          refine wpAnyL_take (i := 0) (oi := _) (v := ?_) rfl (by kernel_rfl) (by kernel_rfl) (by kernel_rfl) (by kernel_rfl) (fun _ _ _ h => h) hHeld (Or.inl ⟨by rfl, ?_⟩) ?_
          rotate_left
          · intro w hSw
            (try dsimp only at hSw)
            go_simp
            all_goals with_reducible rfl
          try simp only [Act.put, List.setIfInBounds_toArray, List.set_cons_zero, List.set_cons_succ]
          refine wpAnyL_take (i := 1) (oi := _) (v := ?_) rfl (by kernel_rfl) (by kernel_rfl) (by kernel_rfl) (by kernel_rfl) (fun _ _ _ h => h) hHeld (Or.inl ⟨by rfl, ?_⟩) ?_
          rotate_left
          · intro w hSw
            (try dsimp only at hSw)
            go_simp
            all_goals with_reducible rfl
          try simp only [Act.put, List.setIfInBounds_toArray, List.set_cons_zero, List.set_cons_succ]
          refine wpAnyL_take (i := 2) (oi := _) (v := ?_) rfl (by kernel_rfl) (by kernel_rfl) (by kernel_rfl) (by kernel_rfl) (fun _ _ _ h => h) hHeld (Or.inl ⟨by rfl, ?_⟩) ?_
          rotate_left
          · intro w hSw
            (try dsimp only at hSw)
            go_simp
            all_goals with_reducible rfl
          try simp only [Act.put, List.setIfInBounds_toArray, List.set_cons_zero, List.set_cons_succ]
          refine wpAnyL_one (i := 3) (o := _) rfl (by kernel_rfl) (fun K hK => ?_)
          (go_simp; refine (implCopyRun_own y.runs[k] (⟨A8, n8, c8⟩, ⟨At, nt, ct⟩) _ hcr (HRr.out _ ha.drew)).mono ?_; rintro e w2 ⟨s2, F2, rfl, o2, n2, b2⟩; have B12 := bnext ha (bnext ((Below.refl w1.heap.size w1).drew) b2); have z2 := B12.size; simp only [World.size_drew] at n2; have O2 := O.below B12; have k0 : w2.cell? ⟨w.heap.size + 1 + 1, 3, none⟩ = some v := O2.cell 3 _ rfl; have X2 := X.below B12; have T2 := T.below (bnext ((Below.refl w1.heap.size w1).drew) b2); have q0 : w2.cell? ⟨wr.heap.size, 0, none⟩ = some (.int .i64 y.runs[k].id) := T2.cell 0 _ rfl; have q1 : w2.cell? ⟨wr.heap.size, 1, none⟩ = some (.int .i64 y.runs[k].plan.prio) := T2.cell 1 _ rfl; have q2 : w2.cell? ⟨wr.heap.size, 2, none⟩ = some (.int .i64 y.runs[k].plan.most) := T2.cell 2 _ rfl; have q3 : w2.cell? ⟨wr.heap.size, 3, none⟩ = some (.int .i64 y.runs[k].plan.wait) := T2.cell 3 _ rfl; have q4 : w2.cell? ⟨wr.heap.size, 4, none⟩ = some (.int .i64 y.runs[k].plan.tasks) := T2.cell 4 _ rfl; have q5 : w2.cell? ⟨wr.heap.size, 5, none⟩ = some (.slice A8 n8 c8) := T2.cell 5 _ rfl; have q6 : w2.cell? ⟨wr.heap.size, 6, none⟩ = some (.int .i64 y.runs[k].state) := T2.cell 6 _ rfl; have q7 : w2.cell? ⟨wr.heap.size, 7, none⟩ = some (.slice At nt ct) := T2.cell 7 _ rfl; have d2f := O2.free; have d2l := O2.lt; go_simp)
          refine hK.out _ _ (fun _ => ?_) ?_
          · exact ⟨k0, q0, q1, q2, q3, q4, q5, q6, q7⟩
          clear hK K
          try simp only [Act.put, List.setIfInBounds_toArray, List.set_cons_zero, List.set_cons_succ]
          refine wpAnyL_one (i := 4) (o := _) rfl (by kernel_rfl) (fun K hK => ?_)
          go_simp
          refine hK.out _ _ (fun _ => ?_) ?_
          · (refine ⟨?_, ?_, ?_, ?_, ?_, ?_, ?_, ?_, ?_⟩ <;> first | assumption | go_keep)
          clear hK K
          try simp only [Act.put, List.setIfInBounds_toArray, List.set_cons_zero, List.set_cons_succ]
          refine wpAnyL_one (i := 5) (o := _) rfl (by kernel_rfl) (fun K hK => ?_)
          (refine step_push_all _ runD.enc (by decide) (by rfl) (.tmp 36) (.tmp 39) (by rfl) Tryz.underlying32 hj0 jz0 jz1 jz2 (by rfl) (v := v) (l := rs) (by rfl) (hO.below (B12.alloc (by omega) _)) (by rfl) (Rd.one runD.enc _ _ (y.runs[k], s2) (by simp) rfl 1 (Nat.le_refl _) (Nat.lt_succ_self _)) (by omega) (by simp) (by decide) (by (try simp only [World.size_alloc]); omega) ?_; intro v5 w5 o5 g5 f5; obtain ⟨A5, c5, rfl, -⟩ := id (Rd.of_own o5); simp only [List.length_append, List.length_singleton] at o5 f5; have ha5 := (Below.refl w2.heap.size w2).alloc (Nat.le_refl _) (.cells #[.int .i64 y.runs[k].id, .int .i64 y.runs[k].plan.prio, .int .i64 y.runs[k].plan.most, .int .i64 y.runs[k].plan.wait, .int .i64 y.runs[k].plan.tasks, .slice s2.1.a s2.1.n s2.1.c, .int .i64 y.runs[k].state, .slice s2.2.a s2.2.n s2.2.c] 84); have O5 := (O2.below ha5).off g5 (fun e => hne e.symm); have m0 : w5.cell? ⟨w.heap.size + 1 + 1, 3, none⟩ = some v := O5.cell 3 _ rfl; have X5 := (X2.below ha5).off g5 (fun e => by have := hO.within _ e.symm; omega); have T5 := (T2.below ha5).off g5 (fun e => by have := hO.within _ e.symm; omega); have r0 : w5.cell? ⟨wr.heap.size, 0, none⟩ = some (.int .i64 y.runs[k].id) := T5.cell 0 _ rfl; have r1 : w5.cell? ⟨wr.heap.size, 1, none⟩ = some (.int .i64 y.runs[k].plan.prio) := T5.cell 1 _ rfl; have r2 : w5.cell? ⟨wr.heap.size, 2, none⟩ = some (.int .i64 y.runs[k].plan.most) := T5.cell 2 _ rfl; have r3 : w5.cell? ⟨wr.heap.size, 3, none⟩ = some (.int .i64 y.runs[k].plan.wait) := T5.cell 3 _ rfl; have r4 : w5.cell? ⟨wr.heap.size, 4, none⟩ = some (.int .i64 y.runs[k].plan.tasks) := T5.cell 4 _ rfl; have r5 : w5.cell? ⟨wr.heap.size, 5, none⟩ = some (.slice A8 n8 c8) := T5.cell 5 _ rfl; have r6 : w5.cell? ⟨wr.heap.size, 6, none⟩ = some (.int .i64 y.runs[k].state) := T5.cell 6 _ rfl; have r7 : w5.cell? ⟨wr.heap.size, 7, none⟩ = some (.slice At nt ct) := T5.cell 7 _ rfl; have fO := O5.free; have lO := O5.lt)
          refine hK.out _ _ (fun _ => ?_) ?_
          · exact ⟨m0, r0, r1, r2, r3, r4, r5, r6, r7⟩
          clear hK K
          try simp only [Act.put, List.setIfInBounds_toArray, List.set_cons_zero, List.set_cons_succ]
          refine wpAnyL_one (i := 6) (o := _) rfl (by kernel_rfl) (fun K hK => ?_)
          go_simp
          refine hK.out _ _ (fun _ => ?_) ?_
          · exact ⟨m0, r0, r1, r2, r3, r4, r5, r6, r7⟩
          clear hK K
          try simp only [Act.put, List.setIfInBounds_toArray, List.set_cons_zero, List.set_cons_succ]
          refine wpAnyL_one (i := 7) (o := _) rfl (by kernel_rfl) (fun K hK => ?_)
          go_simp
          refine hK.out _ _ (fun hne => absurd rfl hne) ?_
          clear hK K
          try simp only [Act.put, List.setIfInBounds_toArray, List.set_cons_zero, List.set_cons_succ]
          refine wpAnyL_done (by kernel_rfl) ?_ _

          go_wp2
          have Z5 := ((Z.below B12).below ha5).off g5 (fun e => by have := hO.within _ e.symm; omega)
          have OS5 := ((OS.out.below B12).below ha5).grown g5 (fun b hb' e => by have := hO.within _ e; have := lS b hb'; omega)
          have hP := Bld.push1 (d := runD) hB B12 o2 (fun b hb' => by have := n2 b hb'; omega) hsw ha5 o5 g5 f5
          have W5 := ((hb.trans (B12.mono hb.size)).alloc (by omega) (.cells #[.int .i64 y.runs[k].id, .int .i64 y.runs[k].plan.prio, .int .i64 y.runs[k].plan.most, .int .i64 y.runs[k].plan.wait, .int .i64 y.runs[k].plan.tasks, .slice s2.1.a s2.1.n s2.1.c, .int .i64 y.runs[k].state, .slice s2.2.a s2.2.n s2.2.c] 84)).grown g5 (by (try simp only [World.size_alloc]); omega) (fun g hg => by have := hO.within g hg; omega)
          have S : Hid (Bls runD 84 (w5.setCell ⟨w.heap.size + 1 + 1, 3, none⟩ (.slice A5 (rs.length + 1) c5)) ws.heap.size (.slice A5 (rs.length + 1) c5) (y.runs.take (k + 1))) := ⟨rs ++ [(y.runs[k], s2)], by rw [List.map_append, hm, take_snoc y.runs k hlt]; rfl, hP.setOther (a := ⟨w.heap.size + 1 + 1, 3, none⟩) (by show w.heap.size + 1 + 1 < _; omega) _⟩
          have S2 : Hid (OwL (Dt.list entryD) (w5.setCell ⟨w.heap.size + 1 + 1, 3, none⟩ (.slice A5 (rs.length + 1) c5)) F1 (.slice A9 n9 c9) y.shelf) := OwL.set OS5 (fun hm => by have : _ ≤ w.heap.size + 1 + 1 := nS _ hm; omega) _
          have g5s := g5.size
          simp only [World.size_alloc] at g5s
          have SX := X5.setOther (a := ⟨w.heap.size + 1 + 1, 3, none⟩) (by show w.heap.size ≠ w.heap.size + 1 + 1; omega) (.slice A5 (rs.length + 1) c5)
          have SZ := Z5.setOther (a := ⟨w.heap.size + 1 + 1, 3, none⟩) (by show w.heap.size + 1 ≠ w.heap.size + 1 + 1; omega) (.slice A5 (rs.length + 1) c5)
          have SO : DBox (w.heap.size + 1 + 1) [.int .i64 y.now, .int .i64 y.seq, .slice A9 n9 c9, .slice A5 (rs.length + 1) c5] (w5.setCell ⟨w.heap.size + 1 + 1, 3, none⟩ (.slice A5 (rs.length + 1) c5)) := O5.set 3 (by simp) _
          have SW : Below w.heap.size w (w5.setCell ⟨w.heap.size + 1 + 1, 3, none⟩ (.slice A5 (rs.length + 1) c5)) := W5.setCell (by show w.heap.size ≤ w.heap.size + 1 + 1; omega) _
          have SS : ws.heap.size ≤ (w5.setCell ⟨w.heap.size + 1 + 1, 3, none⟩ (.slice A5 (rs.length + 1) c5)).heap.size := by simp [World.setCell]; omega
          first
            | exact ⟨⟨k + 1, by omega, by simp, .slice A5 (rs.length + 1) c5, S, S2, SX, SZ, SO, SW, by simpa using SS⟩, by simp [intOf]; omega⟩
            | exact ⟨⟨k + 1, .slice A5 (rs.length + 1) c5, by omega, by go_num, S, S2, SX, SZ, SO, SW, SS⟩, by simp [intOf]; omega⟩
            | (refine ⟨?_, by simp [intOf]; omega⟩; (repeat apply Exists.intro); first | exact ⟨⟨k + 1, .slice A5 (rs.length + 1) c5, by omega, by go_num, S, S2, SX, SZ, SO, SW, SS⟩, rfl⟩ | exact ⟨⟨k + 1, .slice A5 (rs.length + 1) c5, by omega, by go_num, S, S2, SX, SZ, SO, SW, SS⟩, rfl, rfl⟩ | exact ⟨⟨k + 1, .slice A5 (rs.length + 1) c5, by omega, by go_num, S, S2, SX, SZ, SO, SW, SS⟩, rfl, rfl, rfl⟩ | exact ⟨⟨k + 1, .slice A5 (rs.length + 1) c5, by omega, by go_num, S, S2, SX, SZ, SO, SW, SS⟩, rfl, rfl, rfl, rfl⟩ | exact ⟨⟨k + 1, .slice A5 (rs.length + 1) c5, by omega, by go_num, S, S2, SX, SZ, SO, SW, SS⟩, rfl, rfl, rfl, rfl, rfl⟩ | exact ⟨⟨k + 1, .slice A5 (rs.length + 1) c5, by omega, by go_num, S, S2, SX, SZ, SO, SW, SS⟩, rfl, rfl, rfl, rfl, rfl, rfl⟩ | exact ⟨⟨k + 1, .slice A5 (rs.length + 1) c5, by omega, by go_num, S, S2, SX, SZ, SO, SW, SS⟩, rfl, rfl, rfl, rfl, rfl, rfl, rfl⟩ | exact ⟨⟨k + 1, .slice A5 (rs.length + 1) c5, by omega, by go_num, S, S2, SX, SZ, SO, SW, SS⟩, rfl, rfl, rfl, rfl, rfl, rfl, rfl, rfl⟩ | exact ⟨⟨k + 1, .slice A5 (rs.length + 1) c5, by omega, by go_num, S, S2, SX, SZ, SO, SW, SS⟩, rfl, rfl, rfl, rfl, rfl, rfl, rfl, rfl, rfl⟩ | exact ⟨⟨k + 1, .slice A5 (rs.length + 1) c5, by omega, by go_num, S, S2, SX, SZ, SO, SW, SS⟩, rfl, rfl, rfl, rfl, rfl, rfl, rfl, rfl, rfl, rfl⟩ | exact ⟨⟨k + 1, .slice A5 (rs.length + 1) c5, by omega, by go_num, S, S2, SX, SZ, SO, SW, SS⟩, rfl, rfl, rfl, rfl, rfl, rfl, rfl, rfl, rfl, rfl, rfl⟩ | exact ⟨⟨k + 1, .slice A5 (rs.length + 1) c5, by omega, by go_num, S, S2, SX, SZ, SO, SW, SS⟩, rfl, rfl, rfl, rfl, rfl, rfl, rfl, rfl, rfl, rfl, rfl, rfl⟩ | exact ⟨⟨k + 1, .slice A5 (rs.length + 1) c5, by omega, by go_num, S, S2, SX, SZ, SO, SW, SS⟩, rfl, rfl, rfl, rfl, rfl, rfl, rfl, rfl, rfl, rfl, rfl, rfl, rfl⟩)
        · have hltI : ¬ (k : Int) < (y.runs.length : Int) := by omega
          have hk' : k = y.runs.length := by omega
          obtain ⟨F2, ⟨⟨A10, n10, c10⟩, rfl, OR⟩, nR⟩ : ∃ F2, (∃ s : Sl, v = .slice s.a s.n s.c ∧ OwL runD wr F2 s.v y.runs) ∧ ∀ b ∈ F2, ws.heap.size ≤ b := by
            obtain ⟨rs, hm, hB⟩ := hB0.out
            rw [hk', List.take_length] at hm
            obtain ⟨F, h1, h2⟩ := hB.owl hm
            obtain ⟨A, c, rfl, _⟩ := h1.form
            exact ⟨F, ⟨⟨A, y.runs.length, c⟩, rfl, h1⟩, h2⟩
          have Z_f := Z.free
          have Z_0 := Z.cell 0 _ rfl
          have Z_1 := Z.cell 1 _ rfl
          have Z_2 := Z.cell 2 _ rfl
          have Z_3 := Z.cell 3 _ rfl
          have Z_l := Z.lt
          go_wp2
          refine bodyPost_ret (v := yardW y (⟨A9, n9, c9⟩, ⟨A10, n10, c10⟩)) ?_ rfl ?_
          · simp [yardW, results, Tryz.results37, go_sem, Z_0, Z_1, Z_2, Z_3]
          · have OS1 := OS.out
            refine ⟨(⟨A9, n9, c9⟩, ⟨A10, n10, c10⟩), F1 ++ F2, rfl, ⟨F1, F2, rfl, ?_, ?_, ?_⟩, ?_, ?_⟩
            · rw [List.nodup_append]
              refine ⟨OS1.nodup, OR.nodup, fun u hu u' hu' e => ?_⟩
              have := lS u hu
              have := nR u' hu'
              omega
            · have hn : w.heap.size + 1 ∉ F1 := fun hm => by have := nS _ hm; omega
              show OwL (Dt.list entryD) _ F1 (.slice A9 n9 c9) y.shelf
              repeat (first | (with_reducible exact OS1) | refine OwL.set ?_ hn _)
            · have hn : w.heap.size + 1 ∉ F2 := fun hm => by have := nR _ hm; omega
              show OwL runD _ F2 (.slice A10 n10 c10) y.runs
              repeat (first | (with_reducible exact OR) | refine OwL.set ?_ hn _)
            · intro b hb'
              rcases List.mem_append.1 hb' with hb' | hb'
              · have := nS b hb'; omega
              · have := nR b hb'; omega
            · repeat (first | (with_reducible exact hb) | refine Below.setCell ?_ (by first | (simp; done) | (simp; omega)) _)


theorem specCopyYard_own (y : Yard) (s : Sl × Sl) (w : World) (hl : cntYard y ≤ 2000000) (h : yardD.rd w w.heap.size y s) :
    Calls Tryz.prog 34 #[yardW y s] w (OwnPost yardD yardW y w) := by
  obtain ⟨⟨A1, n1, c1⟩, ⟨A2, n2, c2⟩⟩ := s
  obtain rfl : n1 = y.shelf.length := RdL.at1 (s := ⟨A1, n1, c1⟩) h.1
  obtain rfl : n2 = y.runs.length := RdL.at1 (s := ⟨A2, n2, c2⟩) h.2
  have h1 : RdL (Dt.list entryD) w w.heap.size (.slice A1 y.shelf.length c1) y.shelf := h.1
  have h2 : RdL runD w w.heap.size (.slice A2 y.runs.length c2) y.runs := h.2
  have hll : y.runs.length ≤ 2000000 := Nat.le_trans (cntL_len cntRun _) (by unfold cntYard at hl; omega)
  have hls : y.shelf.length ≤ 2000000 := Nat.le_trans (cntL_len cntEntryS _) (by unfold cntYard at hl; omega)
  have HE := Lib.hid (show ∀ k (hk : k < y.shelf.length), y.shelf[k].length ≤ 2000000 from fun k hk => by
    have := cntL_mem (cnt := cntEntryS) (List.getElem_mem hk)
    have h2 : y.shelf[k].length ≤ cntEntryS y.shelf[k] := cntL_len cntEntry _
    unfold cntYard at hl
    omega)
  have HC := Lib.hid (show ∀ k (hk : k < y.runs.length), cntRun y.runs[k] ≤ 2000000 from fun k hk => by
    have := cntL_mem (cnt := cntRun) (List.getElem_mem hk)
    unfold cntYard at hl
    omega)
  clear h
  have X := ((DBox.new 34 [.int .i64 y.now, .int .i64 y.seq, .slice A1 y.shelf.length c1, .slice A2 y.runs.length c2] w (b := w.heap.size) rfl).below ((Below.refl _ _).alloc (Nat.le_refl _) (.cells #[.int .i64 0, .int .i64 0, .slice none 0 0, .slice none 0 0] 34))).below ((Below.refl _ _).alloc (Nat.le_refl _) (.cells #[.int .i64 y.now, .int .i64 y.seq, .slice none 0 0, .slice none 0 0] 34))
  have Z := (DBox.new 34 [.int .i64 0, .int .i64 0, .slice none 0 0, .slice none 0 0] (w.alloc (.cells #[.int .i64 y.now, .int .i64 y.seq, .slice A1 y.shelf.length c1, .slice A2 y.runs.length c2] 34)) (b := w.heap.size + 1) (by simp)).below ((Below.refl _ _).alloc (Nat.le_refl _) (.cells #[.int .i64 y.now, .int .i64 y.seq, .slice none 0 0, .slice none 0 0] 34))
  have O := DBox.new 34 [.int .i64 y.now, .int .i64 y.seq, .slice none 0 0, .slice none 0 0] ((w.alloc (.cells #[.int .i64 y.now, .int .i64 y.seq, .slice A1 y.shelf.length c1, .slice A2 y.runs.length c2] 34)).alloc (.cells #[.int .i64 0, .int .i64 0, .slice none 0 0, .slice none 0 0] 34)) (b := w.heap.size + 1 + 1) (by simp)
  have B0 : Below w.heap.size w (((w.alloc (.cells #[.int .i64 y.now, .int .i64 y.seq, .slice A1 y.shelf.length c1, .slice A2 y.runs.length c2] 34)).alloc (.cells #[.int .i64 0, .int .i64 0, .slice none 0 0, .slice none 0 0] 34)).alloc (.cells #[.int .i64 y.now, .int .i64 y.seq, .slice none 0 0, .slice none 0 0] 34)) := by repeat (first | exact Below.refl _ _ | refine Below.alloc ?_ (by simp <;> omega) _)
  obtain ⟨i0, hi0, hz0, hz1, hz2⟩ := info_parts entryS_infoD
  obtain ⟨e0, he0, ez0, ez1, ez2⟩ := info_parts entE_info
  obtain ⟨j0, hj0, jz0, jz1, jz2⟩ := info_parts run_infoD
  go_enter Tryz.func34, Tryz.ntmps34
  go_wp2
  generalize (((w.alloc (.cells #[.int .i64 y.now, .int .i64 y.seq, .slice A1 y.shelf.length c1, .slice A2 y.runs.length c2] 34)).alloc (.cells #[.int .i64 0, .int .i64 0, .slice none 0 0, .slice none 0 0] 34)).alloc (.cells #[.int .i64 y.now, .int .i64 y.seq, .slice none 0 0, .slice none 0 0] 34)) = W at *
  have hW3 : w.heap.size + 3 ≤ W.heap.size := O.lt
  go_loopw [4] (fun i wr => ∃ (k : Nat) (v : Value), k ≤ y.shelf.length ∧ i = .int .i64 k ∧ Hid (Bls (Dt.list entryD) 85 wr (w.heap.size + 3) v (y.shelf.take k)) ∧ DBox w.heap.size [.int .i64 y.now, .int .i64 y.seq, .slice A1 y.shelf.length c1, .slice A2 y.runs.length c2] wr ∧ DBox (w.heap.size + 1) [.int .i64 0, .int .i64 0, .slice none 0 0, .slice none 0 0] wr ∧ DBox (w.heap.size + 1 + 1) [.int .i64 y.now, .int .i64 y.seq, v, .slice none 0 0] wr ∧ Below w.heap.size w wr ∧ w.heap.size + 3 ≤ wr.heap.size) (fun i _ => y.shelf.length - (intOf i).toNat)
  case atStart => exact ⟨0, _, Nat.zero_le _, rfl, ⟨[], rfl, Bld.nil _ _ _ _⟩, X, Z, O, B0, hW3⟩
  case round =>
    clear X Z O B0 hW3
    obtain ⟨k, v, hk, rfl, hB0, X, Z, O, hb, hsz⟩ := hrel
    have X_0 := X.cell 0 _ rfl
    have X_1 := X.cell 1 _ rfl
    have X_2 := X.cell 2 _ rfl
    have X_3 := X.cell 3 _ rfl
    have X_l := X.lt
    have O_0 := O.cell 0 _ rfl
    have O_1 := O.cell 1 _ rfl
    have O_2 := O.cell 2 _ rfl
    have O_3 := O.cell 3 _ rfl
    have O_l := O.lt
    have O_f := O.free
    by_cases hlt : k < y.shelf.length
    · have hltI : (k : Int) < (y.shelf.length : Int) := by omega
      obtain ⟨b, o, ⟨As, ns, cs⟩, hA1, hbb, hr, d0⟩ := (h1.below hb).entryS hlt
      obtain rfl : ns = y.shelf[k].length := RdL.at1 (s := ⟨As, ns, cs⟩) hr
      subst hA1
      have hs1 : b < wr.heap.size := Nat.lt_of_lt_of_le hbb hb.size
      have hez := HE.out k hlt
      obtain ⟨rs, hm, hB⟩ := hB0.out
      have hrl : rs.length = k := by have := congrArg List.length hm; simpa [Nat.min_eq_left hk] using this
      have hrl' : rs.length ≤ 2000000 := by omega
      have Hrl := Lib.hid hrl
      clear hrl
      have hO := hB.ow
      have hne : v.ownBlock ≠ some (w.heap.size + 1 + 1) := fun e => by have := hO.within _ e; omega
      have hrr := Lib.hid (show ∀ W, Below wr.heap.size wr W → RdL entryD W W.heap.size (Sl.v ⟨As, y.shelf[k].length, cs⟩) y.shelf[k] from fun W hW => RdL.more (RdL.below (RdL.more hr hb.size) hW) hW.size)
      go_wp2
      refine wp_region_last (fun w' => w'.cell? ⟨w.heap.size + 1 + 1, 2, none⟩ = some v ∧ w'.cell? ⟨w.heap.size, 2, none⟩ = some (.slice (some ⟨b, o, none⟩) y.shelf.length c1) ∧ w'.cell? ⟨b, o + k, none⟩ = some (.slice As y.shelf[k].length cs)) 12 (by kernel_rfl) ?_ (fun hHeld => ?_)
      · exact ⟨by simpa [go_sem] using O_2, by simpa [go_sem] using X_2, by simpa [go_sem] using d0⟩
      refine wpAnyL_take (i := 0) (oi := _) (v := ?_) rfl (by kernel_rfl) (by kernel_rfl) (by kernel_rfl) (by kernel_rfl) (fun _ _ _ h => h) hHeld (Or.inl ⟨by rfl, ?_⟩) ?_
      rotate_left
      · intro w hSw
        (try dsimp only at hSw)
        go_simp
        all_goals with_reducible rfl
      try simp only [Act.put, List.setIfInBounds_toArray, List.set_cons_zero, List.set_cons_succ]
      refine wpAnyL_take (i := 1) (oi := _) (v := ?_) rfl (by kernel_rfl) (by kernel_rfl) (by kernel_rfl) (by kernel_rfl) (fun _ _ _ h => h) hHeld (Or.inl ⟨by rfl, ?_⟩) ?_
      rotate_left
      · intro w hSw
        (try dsimp only at hSw)
        go_simp
        all_goals with_reducible rfl
      try simp only [Act.put, List.setIfInBounds_toArray, List.set_cons_zero, List.set_cons_succ]
      refine wpAnyL_take (i := 3) (oi := _) (v := ?_) rfl (by kernel_rfl) (by kernel_rfl) (by kernel_rfl) (by kernel_rfl) (fun _ _ _ h => h) hHeld (Or.inl ⟨by rfl, ?_⟩) ?_
      rotate_left
      · intro w hSw
        (try dsimp only at hSw)
        go_simp
        all_goals with_reducible rfl
      try simp only [Act.put, List.setIfInBounds_toArray, List.set_cons_zero, List.set_cons_succ]
      refine wpAnyL_take (i := 4) (oi := _) (v := ?_) rfl (by kernel_rfl) (by kernel_rfl) (by kernel_rfl) (by kernel_rfl) (fun _ _ _ h => h) hHeld (Or.inl ⟨by rfl, ?_⟩) ?_
      rotate_left
      · intro w hSw
        (try dsimp only at hSw)
        go_simp
        all_goals with_reducible rfl
      try simp only [Act.put, List.setIfInBounds_toArray, List.set_cons_zero, List.set_cons_succ]
      refine wpAnyL_take (i := 5) (oi := _) (v := ?_) rfl (by kernel_rfl) (by kernel_rfl) (by kernel_rfl) (by kernel_rfl) (fun _ _ _ h => h) hHeld (Or.inl ⟨by rfl, ?_⟩) ?_
      rotate_left
      · intro w hSw
        (try dsimp only at hSw)
        go_simp
        all_goals with_reducible rfl
      try simp only [Act.put, List.setIfInBounds_toArray, List.set_cons_zero, List.set_cons_succ]
      refine wpAnyL_take (i := 6) (oi := _) (v := ?_) rfl (by kernel_rfl) (by kernel_rfl) (by kernel_rfl) (by kernel_rfl) (fun _ _ _ h => h) hHeld (Or.inl ⟨by rfl, ?_⟩) ?_
      rotate_left
      · intro w hSw
        (try dsimp only at hSw)
        go_simp
        all_goals with_reducible rfl
      try simp only [Act.put, List.setIfInBounds_toArray, List.set_cons_zero, List.set_cons_succ]
      refine wpAnyL_take (i := 7) (oi := _) (v := ?_) rfl (by kernel_rfl) (by kernel_rfl) (by kernel_rfl) (by kernel_rfl) (fun _ _ _ h => h) hHeld (Or.inl ⟨by rfl, ?_⟩) ?_
      rotate_left
      · intro w hSw
        (try dsimp only at hSw)
        go_simp
        all_goals with_reducible rfl
      try simp only [Act.put, List.setIfInBounds_toArray, List.set_cons_zero, List.set_cons_succ]
      refine wpAnyL_one (i := 2) (o := _) rfl (by kernel_rfl) (fun K hK => ?_)
      go_simp
      refine hK.out _ _ (fun _ => ?_) ?_
      · (refine ⟨?_, ?_, ?_⟩ <;> first | assumption | go_keep)
      clear hK K
      try simp only [Act.put, List.setIfInBounds_toArray, List.set_cons_zero, List.set_cons_succ]
      refine wpAnyL_one (i := 8) (o := _) rfl (by kernel_rfl) (fun K hK => ?_)
      (refine step_push_all _ entE (by decide) (by rfl) (.tmp 20) (.tmp 25) (by rfl) Tryz.underlying85 he0 ez0 ez1 ez2 (by rfl) (v := .slice (some ⟨wr.heap.size, 0, none⟩) 0 0) (l := []) (by rfl) (Ow.empty entE 96 wr.drew (g := wr.heap.size) (by simp)) (by rfl) (ent_rd (hrr.out _ ((Below.refl wr.heap.size wr).drew.alloc (by simp) _))) (by simp) (by omega) (by decide) (by simp) ?_; intro v2 w2 o2' g2 f2; rw [List.nil_append] at o2'; have B12 : Below wr.heap.size wr w2 := (((Below.refl wr.heap.size wr).drew.alloc (by simp) _).grown g2 (by simp) (fun g hg => by simp [Value.ownBlock] at hg; omega)); obtain ⟨s2, F2, rfl, o2, n2⟩ := entry_ow o2'; have O2 := O.below B12; have X2 := X.below B12; have k0 : w2.cell? ⟨w.heap.size + 1 + 1, 2, none⟩ = some v := O2.cell 2 _ rfl; have k1 : w2.cell? ⟨w.heap.size, 2, none⟩ = some (.slice (some ⟨b, o, none⟩) y.shelf.length c1) := X2.cell 2 _ rfl; have k2 : w2.cell? ⟨b, o + k, none⟩ = some (.slice As y.shelf[k].length cs) := (B12.cell (p := ⟨b, o + k, none⟩) hs1).trans d0; have z2 := B12.size; have d2f := O2.free; have d2l := O2.lt)
      refine hK.out _ _ (fun _ => ?_) ?_
      · exact ⟨k0, k1, k2⟩
      clear hK K
      try simp only [Act.put, List.setIfInBounds_toArray, List.set_cons_zero, List.set_cons_succ]
      refine wpAnyL_one (i := 9) (o := _) rfl (by kernel_rfl) (fun K hK => ?_)
      go_simp
      refine hK.out _ _ (fun _ => ?_) ?_
      · (refine ⟨?_, ?_, ?_⟩ <;> first | assumption | go_keep)
      clear hK K
      try simp only [Act.put, List.setIfInBounds_toArray, List.set_cons_zero, List.set_cons_succ]
      refine wpAnyL_one (i := 10) (o := _) rfl (by kernel_rfl) (fun K hK => ?_)
      (refine step_push_all _ (Dt.list entryD).enc (by decide) (by rfl) (.tmp 19) (.tmp 27) (by rfl) Tryz.underlying31 hi0 hz0 hz1 hz2 (by rfl) (v := v) (l := rs) (by rfl) (hO.below (B12.alloc (by omega) _)) (by rfl) (Rd.one (Dt.list entryD).enc _ _ (y.shelf[k], s2) (by simp) rfl 1 (Nat.le_refl _) (Nat.lt_succ_self _)) (by omega) (by simp) (by decide) (by (try simp only [World.size_alloc]); omega) ?_; intro v5 w5 o5 g5 f5; obtain ⟨A5, c5, rfl, -⟩ := id (Rd.of_own o5); simp only [List.length_append, List.length_singleton] at o5 f5; have ha5 := (Below.refl w2.heap.size w2).alloc (Nat.le_refl _) (.cells #[.slice s2.a s2.n s2.c] 85); have O5 := (O2.below ha5).off g5 (fun e => hne e.symm); have m0 : w5.cell? ⟨w.heap.size + 1 + 1, 2, none⟩ = some v := O5.cell 2 _ rfl; have X5 := (X2.below ha5).off g5 (fun e => by have := hO.within _ e.symm; omega); have m1 : w5.cell? ⟨w.heap.size, 2, none⟩ = some (.slice (some ⟨b, o, none⟩) y.shelf.length c1) := X5.cell 2 _ rfl; have m2 : w5.cell? ⟨b, o + k, none⟩ = some (.slice As y.shelf[k].length cs) := (g5.cell_far ⟨b, o + k, none⟩ (by simp; omega) (fun e => by have : _ ≤ b ∧ b < _ := hO.within _ e.symm; omega)).trans ((ha5.cell (p := ⟨b, o + k, none⟩) (by show b < _; omega)).trans k2); have fO := O5.free; have lO := O5.lt)
      refine hK.out _ _ (fun _ => ?_) ?_
      · exact ⟨m0, m1, m2⟩
      clear hK K
      try simp only [Act.put, List.setIfInBounds_toArray, List.set_cons_zero, List.set_cons_succ]
      refine wpAnyL_one (i := 11) (o := _) rfl (by kernel_rfl) (fun K hK => ?_)
      go_simp
      refine hK.out _ _ (fun _ => ?_) ?_
      · exact ⟨m0, m1, m2⟩
      clear hK K
      try simp only [Act.put, List.setIfInBounds_toArray, List.set_cons_zero, List.set_cons_succ]
      refine wpAnyL_one (i := 12) (o := _) rfl (by kernel_rfl) (fun K hK => ?_)
      go_simp
      refine hK.out _ _ (fun hne => absurd rfl hne) ?_
      clear hK K
      try simp only [Act.put, List.setIfInBounds_toArray, List.set_cons_zero, List.set_cons_succ]
      refine wpAnyL_done (by kernel_rfl) ?_ _

      go_wp2
      have Z5 := ((Z.below B12).below ha5).off g5 (fun e => by have := hO.within _ e.symm; omega)
      have hP := Bld.push1 (d := Dt.list entryD) hB B12 o2 (fun b hb' => by have := n2 b hb'; omega) hsz ha5 o5 g5 f5
      have W5 := ((hb.trans (B12.mono hb.size)).alloc (by omega) (.cells #[.slice s2.a s2.n s2.c] 85)).grown g5 (by (try simp only [World.size_alloc]); omega) (fun g hg => by have := hO.within g hg; omega)
      have S : Hid (Bls (Dt.list entryD) 85 (w5.setCell ⟨w.heap.size + 1 + 1, 2, none⟩ (.slice A5 (rs.length + 1) c5)) (w.heap.size + 3) (.slice A5 (rs.length + 1) c5) (y.shelf.take (k + 1))) := ⟨rs ++ [(y.shelf[k], s2)], by rw [List.map_append, hm, take_snoc y.shelf k hlt]; rfl, hP.setOther (a := ⟨w.heap.size + 1 + 1, 2, none⟩) (by show w.heap.size + 1 + 1 < _; omega) _⟩
      have g5s := g5.size
      simp only [World.size_alloc] at g5s
      have SX := X5.setOther (a := ⟨w.heap.size + 1 + 1, 2, none⟩) (by show w.heap.size ≠ w.heap.size + 1 + 1; omega) (.slice A5 (rs.length + 1) c5)
      have SZ := Z5.setOther (a := ⟨w.heap.size + 1 + 1, 2, none⟩) (by show w.heap.size + 1 ≠ w.heap.size + 1 + 1; omega) (.slice A5 (rs.length + 1) c5)
      have SO : DBox (w.heap.size + 1 + 1) [.int .i64 y.now, .int .i64 y.seq, .slice A5 (rs.length + 1) c5, .slice none 0 0] (w5.setCell ⟨w.heap.size + 1 + 1, 2, none⟩ (.slice A5 (rs.length + 1) c5)) := O5.set 2 (by simp) _
      have SW : Below w.heap.size w (w5.setCell ⟨w.heap.size + 1 + 1, 2, none⟩ (.slice A5 (rs.length + 1) c5)) := W5.setCell (by show w.heap.size ≤ w.heap.size + 1 + 1; omega) _
      have SS : w.heap.size + 3 ≤ (w5.setCell ⟨w.heap.size + 1 + 1, 2, none⟩ (.slice A5 (rs.length + 1) c5)).heap.size := by simp [World.setCell]; omega
      first
        | exact ⟨⟨k + 1, by omega, by simp, .slice A5 (rs.length + 1) c5, S, SX, SZ, SO, SW, by simpa using SS⟩, by simp [intOf]; omega⟩
        | exact ⟨⟨k + 1, .slice A5 (rs.length + 1) c5, by omega, by go_num, S, SX, SZ, SO, SW, SS⟩, by simp [intOf]; omega⟩
        | (refine ⟨?_, by simp [intOf]; omega⟩; (repeat apply Exists.intro); first | exact ⟨⟨k + 1, .slice A5 (rs.length + 1) c5, by omega, by go_num, S, SX, SZ, SO, SW, SS⟩, rfl⟩ | exact ⟨⟨k + 1, .slice A5 (rs.length + 1) c5, by omega, by go_num, S, SX, SZ, SO, SW, SS⟩, rfl, rfl⟩ | exact ⟨⟨k + 1, .slice A5 (rs.length + 1) c5, by omega, by go_num, S, SX, SZ, SO, SW, SS⟩, rfl, rfl, rfl⟩ | exact ⟨⟨k + 1, .slice A5 (rs.length + 1) c5, by omega, by go_num, S, SX, SZ, SO, SW, SS⟩, rfl, rfl, rfl, rfl⟩ | exact ⟨⟨k + 1, .slice A5 (rs.length + 1) c5, by omega, by go_num, S, SX, SZ, SO, SW, SS⟩, rfl, rfl, rfl, rfl, rfl⟩ | exact ⟨⟨k + 1, .slice A5 (rs.length + 1) c5, by omega, by go_num, S, SX, SZ, SO, SW, SS⟩, rfl, rfl, rfl, rfl, rfl, rfl⟩ | exact ⟨⟨k + 1, .slice A5 (rs.length + 1) c5, by omega, by go_num, S, SX, SZ, SO, SW, SS⟩, rfl, rfl, rfl, rfl, rfl, rfl, rfl⟩ | exact ⟨⟨k + 1, .slice A5 (rs.length + 1) c5, by omega, by go_num, S, SX, SZ, SO, SW, SS⟩, rfl, rfl, rfl, rfl, rfl, rfl, rfl, rfl⟩ | exact ⟨⟨k + 1, .slice A5 (rs.length + 1) c5, by omega, by go_num, S, SX, SZ, SO, SW, SS⟩, rfl, rfl, rfl, rfl, rfl, rfl, rfl, rfl, rfl⟩ | exact ⟨⟨k + 1, .slice A5 (rs.length + 1) c5, by omega, by go_num, S, SX, SZ, SO, SW, SS⟩, rfl, rfl, rfl, rfl, rfl, rfl, rfl, rfl, rfl, rfl⟩ | exact ⟨⟨k + 1, .slice A5 (rs.length + 1) c5, by omega, by go_num, S, SX, SZ, SO, SW, SS⟩, rfl, rfl, rfl, rfl, rfl, rfl, rfl, rfl, rfl, rfl, rfl⟩ | exact ⟨⟨k + 1, .slice A5 (rs.length + 1) c5, by omega, by go_num, S, SX, SZ, SO, SW, SS⟩, rfl, rfl, rfl, rfl, rfl, rfl, rfl, rfl, rfl, rfl, rfl, rfl⟩ | exact ⟨⟨k + 1, .slice A5 (rs.length + 1) c5, by omega, by go_num, S, SX, SZ, SO, SW, SS⟩, rfl, rfl, rfl, rfl, rfl, rfl, rfl, rfl, rfl, rfl, rfl, rfl, rfl⟩)
    · have hltI : ¬ (k : Int) < (y.shelf.length : Int) := by omega
      have hk' : k = y.shelf.length := by omega
      obtain ⟨F1, ⟨⟨A9, n9, c9⟩, rfl, OS⟩, nS⟩ : ∃ F1, (∃ s : Sl, v = .slice s.a s.n s.c ∧ OwL (Dt.list entryD) wr F1 s.v y.shelf) ∧ ∀ b ∈ F1, w.heap.size + 3 ≤ b := by
        obtain ⟨rs, hm, hB⟩ := hB0.out
        rw [hk', List.take_length] at hm
        obtain ⟨F, h1, h2⟩ := hB.owl hm
        obtain ⟨A, c, rfl, _⟩ := h1.form
        exact ⟨F, ⟨⟨A, y.shelf.length, c⟩, rfl, h1⟩, h2⟩
      go_wp2
      clear X_0 X_1 X_2 X_3 X_l O_0 O_1 O_2 O_3 O_l O_f hlt hltI hk' hk hB0
      obtain ⟨ws, hws⟩ : ∃ ws, ws = wr := ⟨_, rfl⟩
      rw [← hws] at hb X Z O OS hsz ⊢
      clear hws
      have lS : ∀ b ∈ F1, b < ws.heap.size := OS.lt
      go_loopw [5] (fun i wr => ∃ (k : Nat) (v : Value), k ≤ y.runs.length ∧ i = .int .i64 k ∧ Hid (Bls runD 84 wr ws.heap.size v (y.runs.take k)) ∧ Hid (OwL (Dt.list entryD) wr F1 (.slice A9 n9 c9) y.shelf) ∧ DBox w.heap.size [.int .i64 y.now, .int .i64 y.seq, .slice A1 y.shelf.length c1, .slice A2 y.runs.length c2] wr ∧ DBox (w.heap.size + 1) [.int .i64 0, .int .i64 0, .slice none 0 0, .slice none 0 0] wr ∧ DBox (w.heap.size + 1 + 1) [.int .i64 y.now, .int .i64 y.seq, .slice A9 n9 c9, v] wr ∧ Below w.heap.size w wr ∧ ws.heap.size ≤ wr.heap.size) (fun i _ => y.runs.length - (intOf i).toNat)
      case atStart => exact ⟨0, _, Nat.zero_le _, rfl, ⟨[], rfl, Bld.nil _ _ _ _⟩, OS, X, Z, O, hb, Nat.le_refl _⟩
      case round =>
        clear X Z O hb OS
        obtain ⟨k, v, hk, rfl, hB0, OS, X, Z, O, hb, hsw⟩ := hrel
        have X_0 := X.cell 0 _ rfl
        have X_1 := X.cell 1 _ rfl
        have X_2 := X.cell 2 _ rfl
        have X_3 := X.cell 3 _ rfl
        have X_l := X.lt
        have O_0 := O.cell 0 _ rfl
        have O_1 := O.cell 1 _ rfl
        have O_2 := O.cell 2 _ rfl
        have O_3 := O.cell 3 _ rfl
        have O_l := O.lt
        have O_f := O.free
        by_cases hlt : k < y.runs.length
        · have hltI : (k : Int) < (y.runs.length : Int) := by omega
          obtain ⟨b, o, ⟨⟨A8, n8, c8⟩, ⟨At, nt, ct⟩⟩, hA2, hbb, hrr, e0, e1, e2, e3, e4, e5, e6, e7⟩ := (h2.below hb).run hlt
          subst hA2
          have hs1 : b < wr.heap.size := Nat.lt_of_lt_of_le hbb hb.size
          have HRr := Lib.hid (show ∀ W, Below wr.heap.size wr W → runD.rd W W.heap.size y.runs[k] (⟨A8, n8, c8⟩, ⟨At, nt, ct⟩) from fun W hW => runD.rd_more (runD.rd_below (runD.rd_more hrr hb.size) hW) hW.size)
          have hcr := HC.out k hlt
          obtain ⟨rs, hm, hB⟩ := hB0.out
          have hrl : rs.length = k := by have := congrArg List.length hm; simpa [Nat.min_eq_left hk] using this
          have hrl' : rs.length ≤ 2000000 := by omega
          have Hrl := Lib.hid hrl
          clear hrl
          have hO := hB.ow
          have hne : v.ownBlock ≠ some (w.heap.size + 1 + 1) := fun e => by have := hO.within _ e; omega
          go_wp2
          refine wp_region_last (fun w' => w'.cell? ⟨w.heap.size + 1 + 1, 3, none⟩ = some v ∧ w'.cell? ⟨w.heap.size, 3, none⟩ = some (.slice (some ⟨b, o, none⟩) y.runs.length c2) ∧ w'.cell? ⟨b, o + k * 8, none⟩ = some (.int .i64 y.runs[k].id) ∧ w'.cell? ⟨b, o + k * 8 + 1, none⟩ = some (.int .i64 y.runs[k].plan.prio) ∧ w'.cell? ⟨b, o + k * 8 + 2, none⟩ = some (.int .i64 y.runs[k].plan.most) ∧ w'.cell? ⟨b, o + k * 8 + 3, none⟩ = some (.int .i64 y.runs[k].plan.wait) ∧ w'.cell? ⟨b, o + k * 8 + 4, none⟩ = some (.int .i64 y.runs[k].plan.tasks) ∧ w'.cell? ⟨b, o + k * 8 + 5, none⟩ = some (.slice A8 n8 c8) ∧ w'.cell? ⟨b, o + k * 8 + 6, none⟩ = some (.int .i64 y.runs[k].state) ∧ w'.cell? ⟨b, o + k * 8 + 7, none⟩ = some (.slice At nt ct)) 11 (by kernel_rfl) ?_ (fun hHeld => ?_)
          · exact ⟨by simpa [go_sem] using O_3, by simpa [go_sem] using X_3, by simpa [go_sem] using e0, by simpa [go_sem] using e1, by simpa [go_sem] using e2, by simpa [go_sem] using e3, by simpa [go_sem] using e4, by simpa [go_sem] using e5, by simpa [go_sem] using e6, by simpa [go_sem] using e7⟩
          refine wpAnyL_take (i := 0) (oi := _) (v := ?_) rfl (by kernel_rfl) (by kernel_rfl) (by kernel_rfl) (by kernel_rfl) (fun _ _ _ h => h) hHeld (Or.inl ⟨by rfl, ?_⟩) ?_
          rotate_left
          · intro w hSw
            (try dsimp only at hSw)
            go_simp
            all_goals with_reducible rfl
          try simp only [Act.put, List.setIfInBounds_toArray, List.set_cons_zero, List.set_cons_succ]
          refine wpAnyL_take (i := 1) (oi := _) (v := ?_) rfl (by kernel_rfl) (by kernel_rfl) (by kernel_rfl) (by kernel_rfl) (fun _ _ _ h => h) hHeld (Or.inl ⟨by rfl, ?_⟩) ?_
          rotate_left
          · intro w hSw
            (try dsimp only at hSw)
            go_simp
            all_goals with_reducible rfl
          try simp only [Act.put, List.setIfInBounds_toArray, List.set_cons_zero, List.set_cons_succ]
          refine wpAnyL_take (i := 2) (oi := _) (v := ?_) rfl (by kernel_rfl) (by kernel_rfl) (by kernel_rfl) (by kernel_rfl) (fun _ _ _ h => h) hHeld (Or.inl ⟨by rfl, ?_⟩) ?_
          rotate_left
          · intro w hSw
            (try dsimp only at hSw)
            go_simp
            all_goals with_reducible rfl
          try simp only [Act.put, List.setIfInBounds_toArray, List.set_cons_zero, List.set_cons_succ]
          refine wpAnyL_take (i := 3) (oi := _) (v := ?_) rfl (by kernel_rfl) (by kernel_rfl) (by kernel_rfl) (by kernel_rfl) (fun _ _ _ h => h) hHeld (Or.inl ⟨by rfl, ?_⟩) ?_
          rotate_left
          · intro w hSw
            (try dsimp only at hSw)
            go_simp
            all_goals with_reducible rfl
          try simp only [Act.put, List.setIfInBounds_toArray, List.set_cons_zero, List.set_cons_succ]
          refine wpAnyL_take (i := 4) (oi := _) (v := ?_) rfl (by kernel_rfl) (by kernel_rfl) (by kernel_rfl) (by kernel_rfl) (fun _ _ _ h => h) hHeld (Or.inl ⟨by rfl, ?_⟩) ?_
          rotate_left
          · intro w hSw
            (try dsimp only at hSw)
            go_simp
            all_goals with_reducible rfl
          try simp only [Act.put, List.setIfInBounds_toArray, List.set_cons_zero, List.set_cons_succ]
          refine wpAnyL_take (i := 5) (oi := _) (v := ?_) rfl (by kernel_rfl) (by kernel_rfl) (by kernel_rfl) (by kernel_rfl) (fun _ _ _ h => h) hHeld (Or.inl ⟨by rfl, ?_⟩) ?_
          rotate_left
          · intro w hSw
            (try dsimp only at hSw)
            go_simp
            all_goals with_reducible rfl
          try simp only [Act.put, List.setIfInBounds_toArray, List.set_cons_zero, List.set_cons_succ]
          refine wpAnyL_take (i := 6) (oi := _) (v := ?_) rfl (by kernel_rfl) (by kernel_rfl) (by kernel_rfl) (by kernel_rfl) (fun _ _ _ h => h) hHeld (Or.inl ⟨by rfl, ?_⟩) ?_
          rotate_left
          · intro w hSw
            (try dsimp only at hSw)
            go_simp
            all_goals with_reducible rfl
          try simp only [Act.put, List.setIfInBounds_toArray, List.set_cons_zero, List.set_cons_succ]
          refine wpAnyL_one (i := 7) (o := _) rfl (by kernel_rfl) (fun K hK => ?_)
          (go_simp; refine (specCopyRun_own y.runs[k] (⟨A8, n8, c8⟩, ⟨At, nt, ct⟩) _ hcr (HRr.out _ (Below.refl _ _).drew)).mono ?_; rintro e w2 ⟨s2, F2, rfl, o2, n2, b2⟩; have B12 := bnext ((Below.refl wr.heap.size wr).drew) b2; have z2 := B12.size; simp only [World.size_drew] at n2; have O2 := O.below B12; have k0 : w2.cell? ⟨w.heap.size + 1 + 1, 3, none⟩ = some v := O2.cell 3 _ rfl; have X2 := X.below B12; have k1 : w2.cell? ⟨w.heap.size, 3, none⟩ = some (.slice (some ⟨b, o, none⟩) y.runs.length c2) := X2.cell 3 _ rfl; have q0 : w2.cell? ⟨b, o + k * 8, none⟩ = some (.int .i64 y.runs[k].id) := (B12.cell (p := ⟨b, o + k * 8, none⟩) hs1).trans e0; have q1 : w2.cell? ⟨b, o + k * 8 + 1, none⟩ = some (.int .i64 y.runs[k].plan.prio) := (B12.cell (p := ⟨b, o + k * 8 + 1, none⟩) hs1).trans e1; have q2 : w2.cell? ⟨b, o + k * 8 + 2, none⟩ = some (.int .i64 y.runs[k].plan.most) := (B12.cell (p := ⟨b, o + k * 8 + 2, none⟩) hs1).trans e2; have q3 : w2.cell? ⟨b, o + k * 8 + 3, none⟩ = some (.int .i64 y.runs[k].plan.wait) := (B12.cell (p := ⟨b, o + k * 8 + 3, none⟩) hs1).trans e3; have q4 : w2.cell? ⟨b, o + k * 8 + 4, none⟩ = some (.int .i64 y.runs[k].plan.tasks) := (B12.cell (p := ⟨b, o + k * 8 + 4, none⟩) hs1).trans e4; have q5 : w2.cell? ⟨b, o + k * 8 + 5, none⟩ = some (.slice A8 n8 c8) := (B12.cell (p := ⟨b, o + k * 8 + 5, none⟩) hs1).trans e5; have q6 : w2.cell? ⟨b, o + k * 8 + 6, none⟩ = some (.int .i64 y.runs[k].state) := (B12.cell (p := ⟨b, o + k * 8 + 6, none⟩) hs1).trans e6; have q7 : w2.cell? ⟨b, o + k * 8 + 7, none⟩ = some (.slice At nt ct) := (B12.cell (p := ⟨b, o + k * 8 + 7, none⟩) hs1).trans e7; have d2f := O2.free; have d2l := O2.lt; go_simp)
          refine hK.out _ _ (fun _ => ?_) ?_
          · exact ⟨k0, k1, q0, q1, q2, q3, q4, q5, q6, q7⟩
          clear hK K
          try simp only [Act.put, List.setIfInBounds_toArray, List.set_cons_zero, List.set_cons_succ]
          refine wpAnyL_one (i := 8) (o := _) rfl (by kernel_rfl) (fun K hK => ?_)
          go_simp
          refine hK.out _ _ (fun _ => ?_) ?_
          · (refine ⟨?_, ?_, ?_, ?_, ?_, ?_, ?_, ?_, ?_, ?_⟩ <;> first | assumption | go_keep)
          clear hK K
          try simp only [Act.put, List.setIfInBounds_toArray, List.set_cons_zero, List.set_cons_succ]
          refine wpAnyL_one (i := 9) (o := _) rfl (by kernel_rfl) (fun K hK => ?_)
          (refine step_push_all _ runD.enc (by decide) (by rfl) (.tmp 38) (.tmp 45) (by rfl) Tryz.underlying32 hj0 jz0 jz1 jz2 (by rfl) (v := v) (l := rs) (by rfl) (hO.below (B12.alloc (by omega) _)) (by rfl) (Rd.one runD.enc _ _ (y.runs[k], s2) (by simp) rfl 1 (Nat.le_refl _) (Nat.lt_succ_self _)) (by omega) (by simp) (by decide) (by (try simp only [World.size_alloc]); omega) ?_; intro v5 w5 o5 g5 f5; obtain ⟨A5, c5, rfl, -⟩ := id (Rd.of_own o5); simp only [List.length_append, List.length_singleton] at o5 f5; have ha5 := (Below.refl w2.heap.size w2).alloc (Nat.le_refl _) (.cells #[.int .i64 y.runs[k].id, .int .i64 y.runs[k].plan.prio, .int .i64 y.runs[k].plan.most, .int .i64 y.runs[k].plan.wait, .int .i64 y.runs[k].plan.tasks, .slice s2.1.a s2.1.n s2.1.c, .int .i64 y.runs[k].state, .slice s2.2.a s2.2.n s2.2.c] 84); have O5 := (O2.below ha5).off g5 (fun e => hne e.symm); have m0 : w5.cell? ⟨w.heap.size + 1 + 1, 3, none⟩ = some v := O5.cell 3 _ rfl; have X5 := (X2.below ha5).off g5 (fun e => by have := hO.within _ e.symm; omega); have m1 : w5.cell? ⟨w.heap.size, 3, none⟩ = some (.slice (some ⟨b, o, none⟩) y.runs.length c2) := X5.cell 3 _ rfl; have r0 : w5.cell? ⟨b, o + k * 8, none⟩ = some (.int .i64 y.runs[k].id) := (g5.cell_far ⟨b, o + k * 8, none⟩ (by simp; omega) (fun e => by have : _ ≤ b ∧ b < _ := hO.within _ e.symm; omega)).trans ((ha5.cell (p := ⟨b, o + k * 8, none⟩) (by show b < _; omega)).trans q0); have r1 : w5.cell? ⟨b, o + k * 8 + 1, none⟩ = some (.int .i64 y.runs[k].plan.prio) := (g5.cell_far ⟨b, o + k * 8 + 1, none⟩ (by simp; omega) (fun e => by have : _ ≤ b ∧ b < _ := hO.within _ e.symm; omega)).trans ((ha5.cell (p := ⟨b, o + k * 8 + 1, none⟩) (by show b < _; omega)).trans q1); have r2 : w5.cell? ⟨b, o + k * 8 + 2, none⟩ = some (.int .i64 y.runs[k].plan.most) := (g5.cell_far ⟨b, o + k * 8 + 2, none⟩ (by simp; omega) (fun e => by have : _ ≤ b ∧ b < _ := hO.within _ e.symm; omega)).trans ((ha5.cell (p := ⟨b, o + k * 8 + 2, none⟩) (by show b < _; omega)).trans q2); have r3 : w5.cell? ⟨b, o + k * 8 + 3, none⟩ = some (.int .i64 y.runs[k].plan.wait) := (g5.cell_far ⟨b, o + k * 8 + 3, none⟩ (by simp; omega) (fun e => by have : _ ≤ b ∧ b < _ := hO.within _ e.symm; omega)).trans ((ha5.cell (p := ⟨b, o + k * 8 + 3, none⟩) (by show b < _; omega)).trans q3); have r4 : w5.cell? ⟨b, o + k * 8 + 4, none⟩ = some (.int .i64 y.runs[k].plan.tasks) := (g5.cell_far ⟨b, o + k * 8 + 4, none⟩ (by simp; omega) (fun e => by have : _ ≤ b ∧ b < _ := hO.within _ e.symm; omega)).trans ((ha5.cell (p := ⟨b, o + k * 8 + 4, none⟩) (by show b < _; omega)).trans q4); have r5 : w5.cell? ⟨b, o + k * 8 + 5, none⟩ = some (.slice A8 n8 c8) := (g5.cell_far ⟨b, o + k * 8 + 5, none⟩ (by simp; omega) (fun e => by have : _ ≤ b ∧ b < _ := hO.within _ e.symm; omega)).trans ((ha5.cell (p := ⟨b, o + k * 8 + 5, none⟩) (by show b < _; omega)).trans q5); have r6 : w5.cell? ⟨b, o + k * 8 + 6, none⟩ = some (.int .i64 y.runs[k].state) := (g5.cell_far ⟨b, o + k * 8 + 6, none⟩ (by simp; omega) (fun e => by have : _ ≤ b ∧ b < _ := hO.within _ e.symm; omega)).trans ((ha5.cell (p := ⟨b, o + k * 8 + 6, none⟩) (by show b < _; omega)).trans q6); have r7 : w5.cell? ⟨b, o + k * 8 + 7, none⟩ = some (.slice At nt ct) := (g5.cell_far ⟨b, o + k * 8 + 7, none⟩ (by simp; omega) (fun e => by have : _ ≤ b ∧ b < _ := hO.within _ e.symm; omega)).trans ((ha5.cell (p := ⟨b, o + k * 8 + 7, none⟩) (by show b < _; omega)).trans q7); have fO := O5.free; have lO := O5.lt)
          refine hK.out _ _ (fun _ => ?_) ?_
          · exact ⟨m0, m1, r0, r1, r2, r3, r4, r5, r6, r7⟩
          clear hK K
          try simp only [Act.put, List.setIfInBounds_toArray, List.set_cons_zero, List.set_cons_succ]
          refine wpAnyL_one (i := 10) (o := _) rfl (by kernel_rfl) (fun K hK => ?_)
          go_simp
          refine hK.out _ _ (fun _ => ?_) ?_
          · exact ⟨m0, m1, r0, r1, r2, r3, r4, r5, r6, r7⟩
          clear hK K
          try simp only [Act.put, List.setIfInBounds_toArray, List.set_cons_zero, List.set_cons_succ]
          refine wpAnyL_one (i := 11) (o := _) rfl (by kernel_rfl) (fun K hK => ?_)
          go_simp
          refine hK.out _ _ (fun hne => absurd rfl hne) ?_
          clear hK K
          try simp only [Act.put, List.setIfInBounds_toArray, List.set_cons_zero, List.set_cons_succ]
          refine wpAnyL_done (by kernel_rfl) ?_ _

          go_wp2
          have Z5 := ((Z.below B12).below ha5).off g5 (fun e => by have := hO.within _ e.symm; omega)
          have OS5 := ((OS.out.below B12).below ha5).grown g5 (fun b hb' e => by have := hO.within _ e; have := lS b hb'; omega)
          have hP := Bld.push1 (d := runD) hB B12 o2 (fun b hb' => by have := n2 b hb'; omega) hsw ha5 o5 g5 f5
          have W5 := ((hb.trans (B12.mono hb.size)).alloc (by omega) (.cells #[.int .i64 y.runs[k].id, .int .i64 y.runs[k].plan.prio, .int .i64 y.runs[k].plan.most, .int .i64 y.runs[k].plan.wait, .int .i64 y.runs[k].plan.tasks, .slice s2.1.a s2.1.n s2.1.c, .int .i64 y.runs[k].state, .slice s2.2.a s2.2.n s2.2.c] 84)).grown g5 (by (try simp only [World.size_alloc]); omega) (fun g hg => by have := hO.within g hg; omega)
          have S : Hid (Bls runD 84 (w5.setCell ⟨w.heap.size + 1 + 1, 3, none⟩ (.slice A5 (rs.length + 1) c5)) ws.heap.size (.slice A5 (rs.length + 1) c5) (y.runs.take (k + 1))) := ⟨rs ++ [(y.runs[k], s2)], by rw [List.map_append, hm, take_snoc y.runs k hlt]; rfl, hP.setOther (a := ⟨w.heap.size + 1 + 1, 3, none⟩) (by show w.heap.size + 1 + 1 < _; omega) _⟩
          have S2 : Hid (OwL (Dt.list entryD) (w5.setCell ⟨w.heap.size + 1 + 1, 3, none⟩ (.slice A5 (rs.length + 1) c5)) F1 (.slice A9 n9 c9) y.shelf) := OwL.set OS5 (fun hm => by have : _ ≤ w.heap.size + 1 + 1 := nS _ hm; omega) _
          have g5s := g5.size
          simp only [World.size_alloc] at g5s
          have SX := X5.setOther (a := ⟨w.heap.size + 1 + 1, 3, none⟩) (by show w.heap.size ≠ w.heap.size + 1 + 1; omega) (.slice A5 (rs.length + 1) c5)
          have SZ := Z5.setOther (a := ⟨w.heap.size + 1 + 1, 3, none⟩) (by show w.heap.size + 1 ≠ w.heap.size + 1 + 1; omega) (.slice A5 (rs.length + 1) c5)
          have SO : DBox (w.heap.size + 1 + 1) [.int .i64 y.now, .int .i64 y.seq, .slice A9 n9 c9, .slice A5 (rs.length + 1) c5] (w5.setCell ⟨w.heap.size + 1 + 1, 3, none⟩ (.slice A5 (rs.length + 1) c5)) := O5.set 3 (by simp) _
          have SW : Below w.heap.size w (w5.setCell ⟨w.heap.size + 1 + 1, 3, none⟩ (.slice A5 (rs.length + 1) c5)) := W5.setCell (by show w.heap.size ≤ w.heap.size + 1 + 1; omega) _
          have SS : ws.heap.size ≤ (w5.setCell ⟨w.heap.size + 1 + 1, 3, none⟩ (.slice A5 (rs.length + 1) c5)).heap.size := by simp [World.setCell]; omega
          first
            | exact ⟨⟨k + 1, by omega, by simp, .slice A5 (rs.length + 1) c5, S, S2, SX, SZ, SO, SW, by simpa using SS⟩, by simp [intOf]; omega⟩
            | exact ⟨⟨k + 1, .slice A5 (rs.length + 1) c5, by omega, by go_num, S, S2, SX, SZ, SO, SW, SS⟩, by simp [intOf]; omega⟩
            | (refine ⟨?_, by simp [intOf]; omega⟩; (repeat apply Exists.intro); first | exact ⟨⟨k + 1, .slice A5 (rs.length + 1) c5, by omega, by go_num, S, S2, SX, SZ, SO, SW, SS⟩, rfl⟩ | exact ⟨⟨k + 1, .slice A5 (rs.length + 1) c5, by omega, by go_num, S, S2, SX, SZ, SO, SW, SS⟩, rfl, rfl⟩ | exact ⟨⟨k + 1, .slice A5 (rs.length + 1) c5, by omega, by go_num, S, S2, SX, SZ, SO, SW, SS⟩, rfl, rfl, rfl⟩ | exact ⟨⟨k + 1, .slice A5 (rs.length + 1) c5, by omega, by go_num, S, S2, SX, SZ, SO, SW, SS⟩, rfl, rfl, rfl, rfl⟩ | exact ⟨⟨k + 1, .slice A5 (rs.length + 1) c5, by omega, by go_num, S, S2, SX, SZ, SO, SW, SS⟩, rfl, rfl, rfl, rfl, rfl⟩ | exact ⟨⟨k + 1, .slice A5 (rs.length + 1) c5, by omega, by go_num, S, S2, SX, SZ, SO, SW, SS⟩, rfl, rfl, rfl, rfl, rfl, rfl⟩ | exact ⟨⟨k + 1, .slice A5 (rs.length + 1) c5, by omega, by go_num, S, S2, SX, SZ, SO, SW, SS⟩, rfl, rfl, rfl, rfl, rfl, rfl, rfl⟩ | exact ⟨⟨k + 1, .slice A5 (rs.length + 1) c5, by omega, by go_num, S, S2, SX, SZ, SO, SW, SS⟩, rfl, rfl, rfl, rfl, rfl, rfl, rfl, rfl⟩ | exact ⟨⟨k + 1, .slice A5 (rs.length + 1) c5, by omega, by go_num, S, S2, SX, SZ, SO, SW, SS⟩, rfl, rfl, rfl, rfl, rfl, rfl, rfl, rfl, rfl⟩ | exact ⟨⟨k + 1, .slice A5 (rs.length + 1) c5, by omega, by go_num, S, S2, SX, SZ, SO, SW, SS⟩, rfl, rfl, rfl, rfl, rfl, rfl, rfl, rfl, rfl, rfl⟩ | exact ⟨⟨k + 1, .slice A5 (rs.length + 1) c5, by omega, by go_num, S, S2, SX, SZ, SO, SW, SS⟩, rfl, rfl, rfl, rfl, rfl, rfl, rfl, rfl, rfl, rfl, rfl⟩ | exact ⟨⟨k + 1, .slice A5 (rs.length + 1) c5, by omega, by go_num, S, S2, SX, SZ, SO, SW, SS⟩, rfl, rfl, rfl, rfl, rfl, rfl, rfl, rfl, rfl, rfl, rfl, rfl⟩ | exact ⟨⟨k + 1, .slice A5 (rs.length + 1) c5, by omega, by go_num, S, S2, SX, SZ, SO, SW, SS⟩, rfl, rfl, rfl, rfl, rfl, rfl, rfl, rfl, rfl, rfl, rfl, rfl, rfl⟩)
        · have hltI : ¬ (k : Int) < (y.runs.length : Int) := by omega
          have hk' : k = y.runs.length := by omega
          obtain ⟨F2, ⟨⟨A10, n10, c10⟩, rfl, OR⟩, nR⟩ : ∃ F2, (∃ s : Sl, v = .slice s.a s.n s.c ∧ OwL runD wr F2 s.v y.runs) ∧ ∀ b ∈ F2, ws.heap.size ≤ b := by
            obtain ⟨rs, hm, hB⟩ := hB0.out
            rw [hk', List.take_length] at hm
            obtain ⟨F, h1, h2⟩ := hB.owl hm
            obtain ⟨A, c, rfl, _⟩ := h1.form
            exact ⟨F, ⟨⟨A, y.runs.length, c⟩, rfl, h1⟩, h2⟩
          have Z_f := Z.free
          have Z_0 := Z.cell 0 _ rfl
          have Z_1 := Z.cell 1 _ rfl
          have Z_2 := Z.cell 2 _ rfl
          have Z_3 := Z.cell 3 _ rfl
          have Z_l := Z.lt
          go_wp2
          refine bodyPost_ret (v := yardW y (⟨A9, n9, c9⟩, ⟨A10, n10, c10⟩)) ?_ rfl ?_
          · simp [yardW, results, Tryz.results34, go_sem, Z_0, Z_1, Z_2, Z_3]
          · have OS1 := OS.out
            refine ⟨(⟨A9, n9, c9⟩, ⟨A10, n10, c10⟩), F1 ++ F2, rfl, ⟨F1, F2, rfl, ?_, ?_, ?_⟩, ?_, ?_⟩
            · rw [List.nodup_append]
              refine ⟨OS1.nodup, OR.nodup, fun u hu u' hu' e => ?_⟩
              have := lS u hu
              have := nR u' hu'
              omega
            · have hn : w.heap.size + 1 ∉ F1 := fun hm => by have := nS _ hm; omega
              show OwL (Dt.list entryD) _ F1 (.slice A9 n9 c9) y.shelf
              repeat (first | (with_reducible exact OS1) | refine OwL.set ?_ hn _)
            · have hn : w.heap.size + 1 ∉ F2 := fun hm => by have := nR _ hm; omega
              show OwL runD _ F2 (.slice A10 n10 c10) y.runs
              repeat (first | (with_reducible exact OR) | refine OwL.set ?_ hn _)
            · intro b hb'
              rcases List.mem_append.1 hb' with hb' | hb'
              · have := nS b hb'; omega
              · have := nR b hb'; omega
            · repeat (first | (with_reducible exact hb) | refine Below.setCell ?_ (by first | (simp; done) | (simp; omega)) _)

end Go.Proofs.YtjobmbjadpldfaaGreat
end
