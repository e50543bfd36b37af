/-
  Entries whose task stands ready: the program's walk and the reference's. Runs that stand in a yard as they should: the program's walk and the reference's. Runs that are right: the program's walk and the reference's. The slots that a yard takes: the program's walk and the reference's.
-/
import Derived.Test.YtjobmbjadpldfaaGreatZDeskOk4
section
namespace Go.Proofs.YtjobmbjadpldfaaGreat
open Go.RowKit
set_option maxRecDepth 100000
set_option maxHeartbeats 2000000
set_option linter.unusedVariables false
set_option linter.unusedSimpArgs false

theorem fresh_no {y : Yard} {e : Entry} (h : runAt y e.run = -1) : freshB y e = false := tf_false (fun hh => by have := hh.1; omega)
theorem fresh_out {y : Yard} {e : Entry} {k : Nat} (hk : k < y.runs.length) (h : runAt y e.run = k) (hq : inB e.task 0 ((y.runs[k].tasks.length : Int) - 1) = false) : freshB y e = false :=
  tf_false (fun hh => by
    have h2 := hh.2.1
    rw [runK_get hk h] at h2
    have := inB_iff.2 (show 0 ≤ e.task ∧ e.task ≤ (y.runs[k].tasks.length : Int) - 1 by omega)
    rw [hq] at this
    cases this)
theorem fresh_st {y : Yard} {e : Entry} {k t : Nat} (hk : k < y.runs.length) (h : runAt y e.run = k) (ht : t < y.runs[k].tasks.length) (he : e.task = t) : freshB y e = (y.runs[k].tasks[t].state == 2) := by
  unfold freshB
  rw [Bool.eq_iff_iff, tf_iff, beq_iff_eq]
  unfold freshP
  rw [runK_get hk h, he, Int.toNat_natCast, taskAt_get ht]
  constructor
  · intro hh; exact hh.2.2
  · intro hh; exact ⟨by omega, by omega, hh⟩
theorem cnt_run_tasks {y : Yard} {k : Nat} (hl : cntYard y ≤ 2000000) (hk : k < y.runs.length) : y.runs[k].tasks.length ≤ 2000000 := by
  have h1 := cntL_mem (cnt := cntRun) (List.getElem_mem hk)
  have h2 : y.runs[k].tasks.length ≤ cntL cntTask y.runs[k].tasks := cntL_len _ _
  unfold cntYard at hl
  unfold cntRun at h1
  unfold cntRun at hl
  omega
 

theorem implFresh_any (y : Yard) (s : Sl × Sl) (e : Entry) (w : World) (hl : cntYard y ≤ 2000000) (h : yardD.rd w w.heap.size y s) :
    Calls Tryz.prog 92 #[yardW y s, entryW e ()] w fun e' w' => e' = .returned (.bool (freshB y e)) ∧ Below w.heap.size w w' := by
  have HR := Lib.hid (show ∀ W, Below w.heap.size w W → yardD.rd W W.heap.size y s from fun W hW => yardD.rd_more (yardD.rd_below h hW) hW.size)
  obtain ⟨⟨A1, n1, c1⟩, ⟨A2, n2, c2⟩⟩ := s
  obtain rfl : n2 = y.runs.length := RdL.at1 (s := ⟨A2, n2, c2⟩) h.2
  have h2 : RdL runD w w.heap.size (.slice A2 y.runs.length c2) y.runs := h.2
  have hll : y.runs.length ≤ 2000000 := Nat.le_trans (cntL_len cntRun _) (by unfold cntYard at hl; omega)
  obtain ⟨pr, sq, rn, tk⟩ := e
  have X := (DBox.new 34 [.int .i64 y.now, .int .i64 y.seq, .slice A1 n1 c1, .slice A2 y.runs.length c2] w (b := w.heap.size) rfl).below ((Below.refl _ _).alloc (Nat.le_refl _) (.cells #[.int .i64 (⟨pr, sq, rn, tk⟩ : Entry).prio, .int .i64 (⟨pr, sq, rn, tk⟩ : Entry).seq, .int .i64 (⟨pr, sq, rn, tk⟩ : Entry).run, .int .i64 (⟨pr, sq, rn, tk⟩ : Entry).task] 96))
  have E := DBox.new 96 [.int .i64 (⟨pr, sq, rn, tk⟩ : Entry).prio, .int .i64 (⟨pr, sq, rn, tk⟩ : Entry).seq, .int .i64 (⟨pr, sq, rn, tk⟩ : Entry).run, .int .i64 (⟨pr, sq, rn, tk⟩ : Entry).task] (w.alloc (.cells #[.int .i64 y.now, .int .i64 y.seq, .slice A1 n1 c1, .slice A2 y.runs.length c2] 34)) (b := w.heap.size + 1) (by simp)
  have B0 : Below w.heap.size w ((w.alloc (.cells #[.int .i64 y.now, .int .i64 y.seq, .slice A1 n1 c1, .slice A2 y.runs.length c2] 34)).alloc (.cells #[.int .i64 (⟨pr, sq, rn, tk⟩ : Entry).prio, .int .i64 (⟨pr, sq, rn, tk⟩ : Entry).seq, .int .i64 (⟨pr, sq, rn, tk⟩ : Entry).run, .int .i64 (⟨pr, sq, rn, tk⟩ : Entry).task] 96)) := by repeat (first | exact Below.refl _ _ | refine Below.alloc ?_ (by simp <;> omega) _)
  have C := implRunAt_own y (⟨A1, n1, c1⟩, ⟨A2, y.runs.length, c2⟩) rn ((w.alloc (.cells #[.int .i64 y.now, .int .i64 y.seq, .slice A1 n1 c1, .slice A2 y.runs.length c2] 34)).alloc (.cells #[.int .i64 (⟨pr, sq, rn, tk⟩ : Entry).prio, .int .i64 (⟨pr, sq, rn, tk⟩ : Entry).seq, .int .i64 (⟨pr, sq, rn, tk⟩ : Entry).run, .int .i64 (⟨pr, sq, rn, tk⟩ : Entry).task] 96)) hl (HR.out _ B0)
  clear h
  rcases runAt_range y rn with hr | ⟨k, hk, hr⟩
  · have H := Lib.hid (fresh_no (e := ⟨pr, sq, rn, tk⟩) hr)
    rw [hr] at C
    clear hr
    go_enter Tryz.func92, Tryz.ntmps92
    go_wp2_with fail
    generalize ((w.alloc (.cells #[.int .i64 y.now, .int .i64 y.seq, .slice A1 n1 c1, .slice A2 y.runs.length c2] 34)).alloc (.cells #[.int .i64 (⟨pr, sq, rn, tk⟩ : Entry).prio, .int .i64 (⟨pr, sq, rn, tk⟩ : Entry).seq, .int .i64 (⟨pr, sq, rn, tk⟩ : Entry).run, .int .i64 (⟨pr, sq, rn, tk⟩ : Entry).task] 96)) = W at *
    refine C.mono ?_
    rintro e1 w1 ⟨rfl, b1⟩
    replace X := X.below b1
    replace E := E.below b1
    have X_0 := X.cell 0 _ rfl
    have X_1 := X.cell 1 _ rfl
    have X_2 := X.cell 2 _ rfl
    have X_3 := X.cell 3 _ rfl
    have X_l := X.lt
    have E_0 := E.cell 0 _ rfl
    have E_1 := E.cell 1 _ rfl
    have E_2 := E.cell 2 _ rfl
    have E_3 := E.cell 3 _ rfl
    have E_l := E.lt
    have hlc := later_cell w1
    go_wp2
    refine wp_region_pure (by kernel_rfl) (by kernel_rfl) ?_
    repeat (go_big_quiet_step (fail))
    refine wpQuiet_nil ?_
    rintro _ ⟨⟨w2, b2⟩, rfl⟩
    clear hlc
    go_wp2
    go_ret
    exact ⟨ret_bool H.out.symm, bnext (bnext B0 b1) b2⟩
  · have hrt := cnt_run_tasks hl hk
    have HR2 := Lib.hid hr
    rw [hr] at C
    clear hr
    go_enter Tryz.func92, Tryz.ntmps92
    go_wp2_with fail
    generalize ((w.alloc (.cells #[.int .i64 y.now, .int .i64 y.seq, .slice A1 n1 c1, .slice A2 y.runs.length c2] 34)).alloc (.cells #[.int .i64 (⟨pr, sq, rn, tk⟩ : Entry).prio, .int .i64 (⟨pr, sq, rn, tk⟩ : Entry).seq, .int .i64 (⟨pr, sq, rn, tk⟩ : Entry).run, .int .i64 (⟨pr, sq, rn, tk⟩ : Entry).task] 96)) = W at *
    refine C.mono ?_
    rintro e1 w1 ⟨rfl, b1⟩
    replace X := X.below b1
    replace E := E.below b1
    have X_0 := X.cell 0 _ rfl
    have X_1 := X.cell 1 _ rfl
    have X_2 := X.cell 2 _ rfl
    have X_3 := X.cell 3 _ rfl
    have X_l := X.lt
    have E_0 := E.cell 0 _ rfl
    have E_1 := E.cell 1 _ rfl
    have E_2 := E.cell 2 _ rfl
    have E_3 := E.cell 3 _ rfl
    have E_l := E.lt
    replace B0 := bnext B0 b1
    obtain ⟨b, o, ⟨s1, ⟨At, nt, ct⟩⟩, hA2, hbb, hrr, c0_, c1_, c2_, c3_, c4_, c5_, c6_, c7_⟩ := (h2.below B0).run hk
    subst hA2
    obtain rfl : nt = y.runs[k].tasks.length := RdL.at1 (s := ⟨At, nt, ct⟩) hrr.2
    have h3 : RdL taskD w1 w.heap.size (.slice At y.runs[k].tasks.length ct) y.runs[k].tasks := hrr.2
    have hkI : (k : Int) < (y.runs.length : Int) := by omega
    have hk0 : decide ((0 : Int) ≤ (k : Int)) = true := decide_eq_true (by omega)
    have hlc := later_cell w1
    have hs1 : b < w1.heap.size := Nat.lt_of_lt_of_le hbb B0.size
    have wr1 : IntKind.i64.wrap ((y.runs[k].tasks.length : Int) - 1) = (y.runs[k].tasks.length : Int) - 1 := IntWalk.i64_in _ (by omega)
    cases q : inB tk 0 ((y.runs[k].tasks.length : Int) - 1)
    · have H := Lib.hid (fresh_out (e := ⟨pr, sq, rn, tk⟩) hk HR2.out q)
      go_wp2
      refine wp_region_pure (by kernel_rfl) (by kernel_rfl) ?_
      repeat (go_big_quiet_step ((go_at_call 29; exact pure_same (fun u => within_any _ _ _ u.1))))
      refine wpQuiet_nil ?_
      rintro _ ⟨⟨w2, b2⟩, rfl⟩
      clear hlc
      go_wp2
      go_ret
      exact ⟨ret_bool H.out.symm, bnext B0 b2⟩
    · have qq := inB_iff.1 q
      obtain ⟨t, rfl⟩ := Int.eq_ofNat_of_zero_le qq.1
      have ht : t < y.runs[k].tasks.length := by omega
      obtain ⟨b', o', _, hAt, hbb', _, d0, d1, d2, d3⟩ := h3.task ht
      subst hAt
      have hs2 : b' < w1.heap.size := Nat.lt_of_lt_of_le hbb' B0.size
      have htI : (t : Int) < (y.runs[k].tasks.length : Int) := by omega
      have H := Lib.hid (fresh_st (e := ⟨pr, sq, rn, (t : Int)⟩) hk HR2.out ht rfl)
      clear qq
      generalize y.runs[k].tasks[t].state = st at *
      cases q2 : (st == 2)
      all_goals
        rw [q2] at H
        go_wp2
        refine wp_region_pure (by kernel_rfl) (by kernel_rfl) ?_
        repeat (go_big_quiet_step ((go_at_call 29; exact pure_same (fun u => within_any _ _ _ u.1))))
        refine wpQuiet_nil ?_
        rintro _ ⟨⟨w2, b2⟩, rfl⟩
        clear hlc
        go_wp2
        go_ret
        exact ⟨ret_bool H.out.symm, bnext B0 b2⟩

theorem specFresh_any (y : Yard) (s : Sl × Sl) (e : Entry) (w : World) (hl : cntYard y ≤ 2000000) (h : yardD.rd w w.heap.size y s) :
    Calls Tryz.prog 83 #[yardW y s, entryW e ()] w fun e' w' => e' = .returned (.bool (freshB y e)) ∧ Below w.heap.size w w' := by
  have HR := Lib.hid (show ∀ W, Below w.heap.size w W → yardD.rd W W.heap.size y s from fun W hW => yardD.rd_more (yardD.rd_below h hW) hW.size)
  obtain ⟨⟨A1, n1, c1⟩, ⟨A2, n2, c2⟩⟩ := s
  obtain rfl : n2 = y.runs.length := RdL.at1 (s := ⟨A2, n2, c2⟩) h.2
  have h2 : RdL runD w w.heap.size (.slice A2 y.runs.length c2) y.runs := h.2
  have hll : y.runs.length ≤ 2000000 := Nat.le_trans (cntL_len cntRun _) (by unfold cntYard at hl; omega)
  obtain ⟨pr, sq, rn, tk⟩ := e
  have X := (DBox.new 34 [.int .i64 y.now, .int .i64 y.seq, .slice A1 n1 c1, .slice A2 y.runs.length c2] w (b := w.heap.size) rfl).below ((Below.refl _ _).alloc (Nat.le_refl _) (.cells #[.int .i64 (⟨pr, sq, rn, tk⟩ : Entry).prio, .int .i64 (⟨pr, sq, rn, tk⟩ : Entry).seq, .int .i64 (⟨pr, sq, rn, tk⟩ : Entry).run, .int .i64 (⟨pr, sq, rn, tk⟩ : Entry).task] 96))
  have E := DBox.new 96 [.int .i64 (⟨pr, sq, rn, tk⟩ : Entry).prio, .int .i64 (⟨pr, sq, rn, tk⟩ : Entry).seq, .int .i64 (⟨pr, sq, rn, tk⟩ : Entry).run, .int .i64 (⟨pr, sq, rn, tk⟩ : Entry).task] (w.alloc (.cells #[.int .i64 y.now, .int .i64 y.seq, .slice A1 n1 c1, .slice A2 y.runs.length c2] 34)) (b := w.heap.size + 1) (by simp)
  have B0 : Below w.heap.size w ((w.alloc (.cells #[.int .i64 y.now, .int .i64 y.seq, .slice A1 n1 c1, .slice A2 y.runs.length c2] 34)).alloc (.cells #[.int .i64 (⟨pr, sq, rn, tk⟩ : Entry).prio, .int .i64 (⟨pr, sq, rn, tk⟩ : Entry).seq, .int .i64 (⟨pr, sq, rn, tk⟩ : Entry).run, .int .i64 (⟨pr, sq, rn, tk⟩ : Entry).task] 96)) := by repeat (first | exact Below.refl _ _ | refine Below.alloc ?_ (by simp <;> omega) _)
  have C := specRunAt_own y (⟨A1, n1, c1⟩, ⟨A2, y.runs.length, c2⟩) rn ((w.alloc (.cells #[.int .i64 y.now, .int .i64 y.seq, .slice A1 n1 c1, .slice A2 y.runs.length c2] 34)).alloc (.cells #[.int .i64 (⟨pr, sq, rn, tk⟩ : Entry).prio, .int .i64 (⟨pr, sq, rn, tk⟩ : Entry).seq, .int .i64 (⟨pr, sq, rn, tk⟩ : Entry).run, .int .i64 (⟨pr, sq, rn, tk⟩ : Entry).task] 96)) hl (HR.out _ B0)
  clear h
  rcases runAt_range y rn with hr | ⟨k, hk, hr⟩
  · have H := Lib.hid (fresh_no (e := ⟨pr, sq, rn, tk⟩) hr)
    rw [hr] at C
    clear hr
    go_enter Tryz.func83, Tryz.ntmps83
    go_wp2_with fail
    generalize ((w.alloc (.cells #[.int .i64 y.now, .int .i64 y.seq, .slice A1 n1 c1, .slice A2 y.runs.length c2] 34)).alloc (.cells #[.int .i64 (⟨pr, sq, rn, tk⟩ : Entry).prio, .int .i64 (⟨pr, sq, rn, tk⟩ : Entry).seq, .int .i64 (⟨pr, sq, rn, tk⟩ : Entry).run, .int .i64 (⟨pr, sq, rn, tk⟩ : Entry).task] 96)) = W at *
    refine C.mono ?_
    rintro e1 w1 ⟨rfl, b1⟩
    replace X := X.below b1
    replace E := E.below b1
    have X_0 := X.cell 0 _ rfl
    have X_1 := X.cell 1 _ rfl
    have X_2 := X.cell 2 _ rfl
    have X_3 := X.cell 3 _ rfl
    have X_l := X.lt
    have E_0 := E.cell 0 _ rfl
    have E_1 := E.cell 1 _ rfl
    have E_2 := E.cell 2 _ rfl
    have E_3 := E.cell 3 _ rfl
    have E_l := E.lt
    have hlc := later_cell w1
    go_wp2
    refine wp_region_pure (by kernel_rfl) (by kernel_rfl) ?_
    repeat (go_big_quiet_step (fail))
    refine wpQuiet_nil ?_
    rintro _ ⟨⟨w2, b2⟩, rfl⟩
    clear hlc
    go_wp2
    go_ret
    exact ⟨ret_bool H.out.symm, bnext (bnext B0 b1) b2⟩
  · have hrt := cnt_run_tasks hl hk
    have HR2 := Lib.hid hr
    rw [hr] at C
    clear hr
    go_enter Tryz.func83, Tryz.ntmps83
    go_wp2_with fail
    generalize ((w.alloc (.cells #[.int .i64 y.now, .int .i64 y.seq, .slice A1 n1 c1, .slice A2 y.runs.length c2] 34)).alloc (.cells #[.int .i64 (⟨pr, sq, rn, tk⟩ : Entry).prio, .int .i64 (⟨pr, sq, rn, tk⟩ : Entry).seq, .int .i64 (⟨pr, sq, rn, tk⟩ : Entry).run, .int .i64 (⟨pr, sq, rn, tk⟩ : Entry).task] 96)) = W at *
    refine C.mono ?_
    rintro e1 w1 ⟨rfl, b1⟩
    replace X := X.below b1
    replace E := E.below b1
    have X_0 := X.cell 0 _ rfl
    have X_1 := X.cell 1 _ rfl
    have X_2 := X.cell 2 _ rfl
    have X_3 := X.cell 3 _ rfl
    have X_l := X.lt
    have E_0 := E.cell 0 _ rfl
    have E_1 := E.cell 1 _ rfl
    have E_2 := E.cell 2 _ rfl
    have E_3 := E.cell 3 _ rfl
    have E_l := E.lt
    replace B0 := bnext B0 b1
    obtain ⟨b, o, ⟨s1, ⟨At, nt, ct⟩⟩, hA2, hbb, hrr, c0_, c1_, c2_, c3_, c4_, c5_, c6_, c7_⟩ := (h2.below B0).run hk
    subst hA2
    obtain rfl : nt = y.runs[k].tasks.length := RdL.at1 (s := ⟨At, nt, ct⟩) hrr.2
    have h3 : RdL taskD w1 w.heap.size (.slice At y.runs[k].tasks.length ct) y.runs[k].tasks := hrr.2
    have hkI : (k : Int) < (y.runs.length : Int) := by omega
    have hk0 : decide ((0 : Int) ≤ (k : Int)) = true := decide_eq_true (by omega)
    have hlc := later_cell w1
    have hs1 : b < w1.heap.size := Nat.lt_of_lt_of_le hbb B0.size
    have wr1 : IntKind.i64.wrap ((y.runs[k].tasks.length : Int) - 1) = (y.runs[k].tasks.length : Int) - 1 := IntWalk.i64_in _ (by omega)
    cases q : inB tk 0 ((y.runs[k].tasks.length : Int) - 1)
    · have H := Lib.hid (fresh_out (e := ⟨pr, sq, rn, tk⟩) hk HR2.out q)
      go_wp2
      refine wp_region_pure (by kernel_rfl) (by kernel_rfl) ?_
      repeat (go_big_quiet_step ((go_at_call 26; exact pure_same (fun u => l01In_any _ _ _ u.1))))
      refine wpQuiet_nil ?_
      rintro _ ⟨⟨w2, b2⟩, rfl⟩
      clear hlc
      go_wp2
      go_ret
      exact ⟨ret_bool H.out.symm, bnext B0 b2⟩
    · have qq := inB_iff.1 q
      obtain ⟨t, rfl⟩ := Int.eq_ofNat_of_zero_le qq.1
      have ht : t < y.runs[k].tasks.length := by omega
      obtain ⟨b', o', _, hAt, hbb', _, d0, d1, d2, d3⟩ := h3.task ht
      subst hAt
      have hs2 : b' < w1.heap.size := Nat.lt_of_lt_of_le hbb' B0.size
      have htI : (t : Int) < (y.runs[k].tasks.length : Int) := by omega
      have H := Lib.hid (fresh_st (e := ⟨pr, sq, rn, (t : Int)⟩) hk HR2.out ht rfl)
      clear qq
      generalize y.runs[k].tasks[t].state = st at *
      cases q2 : (st == 2)
      all_goals
        rw [q2] at H
        go_wp2
        refine wp_region_pure (by kernel_rfl) (by kernel_rfl) ?_
        repeat (go_big_quiet_step ((go_at_call 26; exact pure_same (fun u => l01In_any _ _ _ u.1))))
        refine wpQuiet_nil ?_
        rintro _ ⟨⟨w2, b2⟩, rfl⟩
        clear hlc
        go_wp2
        go_ret
        exact ⟨ret_bool H.out.symm, bnext B0 b2⟩
end Go.Proofs.YtjobmbjadpldfaaGreat
end
section
namespace Go.Proofs.YtjobmbjadpldfaaGreat
open Go.RowKit
set_option maxRecDepth 100000
set_option maxHeartbeats 4000000
set_option linter.unusedVariables false
set_option linter.unusedSimpArgs false

theorem stand_bad1 {now : Int} {r : Run} {es : List Entry} {t k : Nat} (ht : t < r.tasks.length) (h2 : r.tasks[t].state = 2) (hk : k < es.length) (hm : mineE r.id t es[k] = true) (hp : ¬ es[k].prio = r.plan.prio) : ¬ standP now r es := by
  intro h
  have h3 := (h t ht).1
  rw [taskAt_get ht] at h3
  exact hp ((h3 h2).1 _ (List.getElem_mem hk) hm)
theorem stand_bad2 {now : Int} {r : Run} {es : List Entry} {t : Nat} (ht : t < r.tasks.length) (h2 : r.tasks[t].state = 2) (hm : ¬ mineN r.id t es = 1) : ¬ standP now r es := by
  intro h
  have h3 := (h t ht).1
  rw [taskAt_get ht] at h3
  exact hm (h3 h2).2
theorem stand_bad3 {now : Int} {r : Run} {es : List Entry} {t : Nat} (ht : t < r.tasks.length) (h2 : r.tasks[t].state = 3) (hm : inB r.tasks[t].until_ (now + 1) (now + r.plan.wait) = false) : ¬ standP now r es := by
  intro h
  have h3 := (h t ht).2
  rw [taskAt_get ht] at h3
  have := inB_iff.2 (h3 h2)
  rw [hm] at this
  cases this
theorem laid_ok {now : Int} {r : Run} {es : List Entry} {t : Nat} (ht : t < r.tasks.length) (h1 : r.tasks[t].state = 2 → (∀ j (hj : j < es.length), mineE r.id t es[j] = true → es[j].prio = r.plan.prio) ∧ mineN r.id t es = 1)
    (h2 : r.tasks[t].state = 3 → inB r.tasks[t].until_ (now + 1) (now + r.plan.wait) = true) : laidP now r es t := by
  unfold laidP
  rw [taskAt_get ht]
  refine ⟨fun h => ⟨fun e he hm => ?_, (h1 h).2⟩, fun h => inB_iff.1 (h2 h)⟩
  obtain ⟨j, hj, rfl⟩ := List.getElem_of_mem he
  exact (h1 h).1 j hj hm
/-- the entries of a task up to a place have the run's prio -/
def priosOk (r : Run) (t : Nat) (es : List Entry) (k : Nat) : Prop := ∀ j (hj : j < es.length), j < k → mineE r.id t es[j] = true → es[j].prio = r.plan.prio
theorem prios_step {r : Run} {t : Nat} {es : List Entry} {k : Nat} (h : priosOk r t es k) (hk : k < es.length) (hp : mineE r.id t es[k] = true → es[k].prio = r.plan.prio) : priosOk r t es (k + 1) := by
  intro j hj hjk hm
  by_cases e : j = k
  · subst e; exact hp hm
  · exact h j hj (by omega) hm

theorem implStand_any (y : Yard) (s : Sl × Sl) (r : Run) (s2 : Sl × Sl) (es : List Entry) (s3 : Sl) (w : World) (hl2 : r.tasks.length ≤ 2000000) (hl3 : es.length ≤ 2000000) (hn : 0 ≤ y.now ∧ y.now ≤ 999999980) (hw : 1 ≤ r.plan.wait ∧ r.plan.wait ≤ 20)
    (h' : runD.rd w w.heap.size r s2) (h3 : Rd entE w w.heap.size s3.v es) :
    Calls Tryz.prog 61 #[yardW y s, runW r s2, .slice s3.a s3.n s3.c] w fun e w' => e = .returned (.bool (tf (standP y.now r es))) ∧ Below w.heap.size w w' := by
  obtain ⟨⟨A1, n1, c1⟩, ⟨A2, n2, c2⟩⟩ := s
  obtain ⟨⟨A4, n4, c4⟩, ⟨A5, n5, c5⟩⟩ := s2
  obtain ⟨A6, n6, c6⟩ := s3
  obtain rfl : n5 = r.tasks.length := RdL.at1 (s := ⟨A5, n5, c5⟩) h'.2
  obtain rfl : n6 = es.length := RdL.at1 (s := ⟨A6, n6, c6⟩) (ent_rdL h3)
  have h2 : RdL taskD w w.heap.size (.slice A5 r.tasks.length c5) r.tasks := h'.2
  have h3 : RdL entryD w w.heap.size (.slice A6 es.length c6) es := ent_rdL h3
  clear h'
  have X := (DBox.new 34 [.int .i64 y.now, .int .i64 y.seq, .slice A1 n1 c1, .slice A2 n2 c2] w (b := w.heap.size) rfl).below ((Below.refl _ _).alloc (Nat.le_refl _) (.cells #[.int .i64 r.id, .int .i64 r.plan.prio, .int .i64 r.plan.most, .int .i64 r.plan.wait, .int .i64 r.plan.tasks, .slice A4 n4 c4, .int .i64 r.state, .slice A5 r.tasks.length c5] 84))
  have R := DBox.new 84 [.int .i64 r.id, .int .i64 r.plan.prio, .int .i64 r.plan.most, .int .i64 r.plan.wait, .int .i64 r.plan.tasks, .slice A4 n4 c4, .int .i64 r.state, .slice A5 r.tasks.length c5] (w.alloc (.cells #[.int .i64 y.now, .int .i64 y.seq, .slice A1 n1 c1, .slice A2 n2 c2] 34)) (b := w.heap.size + 1) (by simp)
  have B0 : Below w.heap.size w ((w.alloc (.cells #[.int .i64 y.now, .int .i64 y.seq, .slice A1 n1 c1, .slice A2 n2 c2] 34)).alloc (.cells #[.int .i64 r.id, .int .i64 r.plan.prio, .int .i64 r.plan.most, .int .i64 r.plan.wait, .int .i64 r.plan.tasks, .slice A4 n4 c4, .int .i64 r.state, .slice A5 r.tasks.length c5] 84)) := by repeat (first | exact Below.refl _ _ | refine Below.alloc ?_ (by simp <;> omega) _)
  have R_l := R.lt
  go_enter Tryz.func61, Tryz.ntmps61
  go_wp2
  generalize ((w.alloc (.cells #[.int .i64 y.now, .int .i64 y.seq, .slice A1 n1 c1, .slice A2 n2 c2] 34)).alloc (.cells #[.int .i64 r.id, .int .i64 r.plan.prio, .int .i64 r.plan.most, .int .i64 r.plan.wait, .int .i64 r.plan.tasks, .slice A4 n4 c4, .int .i64 r.state, .slice A5 r.tasks.length c5] 84)) = W at *
  go_loopw [15] (fun i wr => ∃ k : Nat, k ≤ r.tasks.length ∧ i = .int .i64 k ∧ Hid (∀ t, t < k → laidP y.now r es t) ∧ Below W.heap.size W wr) (fun i _ => r.tasks.length - (intOf i).toNat)
  case atStart => exact ⟨0, Nat.zero_le _, rfl, fun t ht => absurd ht (by omega), Below.refl _ _⟩
  case round =>
    obtain ⟨t, hk, rfl, hok, hb⟩ := hrel
    by_cases hlt : t < r.tasks.length
    · have hltI : (t : Int) < (r.tasks.length : Int) := by omega
      obtain ⟨b, o, _, hA5, hbb, _, d0, d1, d2, d3⟩ := (h2.below (bnext B0 hb)).task hlt
      subst hA5
      have hs1 : b < wr.heap.size := Nat.lt_of_lt_of_le hbb (bnext B0 hb).size
      have T := DBox.new 120 [.int .i64 r.tasks[t].state, .int .i64 r.tasks[t].need, .int .i64 r.tasks[t].try_, .int .i64 r.tasks[t].until_] wr rfl
      have ha : Below wr.heap.size wr (wr.alloc (.cells #[.int .i64 r.tasks[t].state, .int .i64 r.tasks[t].need, .int .i64 r.tasks[t].try_, .int .i64 r.tasks[t].until_] 120)) := (Below.refl _ _).alloc (Nat.le_refl _) _
      go_wp2
      generalize wr.alloc (.cells #[.int .i64 r.tasks[t].state, .int .i64 r.tasks[t].need, .int .i64 r.tasks[t].try_, .int .i64 r.tasks[t].until_] 120) = W2 at *
      have Hb2 := bnext hb ha
      clear d0 d1 d2 d3 hs1
      go_loopw [9, 22] (fun n i wq => ∃ j : Nat, j ≤ es.length ∧ i = .int .i64 j ∧ n = .int .i64 (mineN r.id t (es.take j) : Nat) ∧ Hid (r.tasks[t].state = 2 → priosOk r t es j) ∧ Below W2.heap.size W2 wq) (fun _ i _ => es.length - (intOf i).toNat)
      case atStart => exact ⟨0, Nat.zero_le _, rfl, rfl, fun _ j hj h0 => absurd h0 (by omega), Below.refl _ _⟩
      case round =>
        obtain ⟨j, hj, rfl, rfl, hpo, hb2⟩ := hrel
        have hmn := mineN_le r.id t (es.take j)
        rw [List.length_take] at hmn
        have X := (X.below Hb2).below hb2
        have R := (R.below Hb2).below hb2
        replace T := T.below hb2
        have X_0 := X.cell 0 _ rfl
        have X_1 := X.cell 1 _ rfl
        have X_2 := X.cell 2 _ rfl
        have X_3 := X.cell 3 _ rfl
        have X_l := X.lt
        have R_0 := R.cell 0 _ rfl
        have R_1 := R.cell 1 _ rfl
        have R_2 := R.cell 2 _ rfl
        have R_3 := R.cell 3 _ rfl
        have R_4 := R.cell 4 _ rfl
        have R_5 := R.cell 5 _ rfl
        have R_6 := R.cell 6 _ rfl
        have R_7 := R.cell 7 _ rfl
        have R_l := R.lt
        have T_0 := T.cell 0 _ rfl
        have T_1 := T.cell 1 _ rfl
        have T_2 := T.cell 2 _ rfl
        have T_3 := T.cell 3 _ rfl
        have T_l := T.lt
        have B1 := bnext (bnext B0 Hb2) hb2
        by_cases hjt : j < es.length
        · have hjI : (j : Int) < (es.length : Int) := by omega
          obtain ⟨b6, o6, _, hA6, hbb6, _, f0, f1, f2, f3⟩ := (h3.below B1).entry hjt
          subst hA6
          have hs6 : b6 < wr.heap.size := Nat.lt_of_lt_of_le hbb6 B1.size
          have hE : Below wr.heap.size wr (wr.alloc (.cells #[.int .i64 es[j].prio, .int .i64 es[j].seq, .int .i64 es[j].run, .int .i64 es[j].task] 96)) := (Below.refl _ _).alloc (Nat.le_refl _) _
          have HM : Hid (mineE r.id t es[j] = ((es[j].run == r.id) && (es[j].task == (t : Int)))) := rfl
          have HY := Lib.hid (mineN_yes (id := r.id) (t := t) hjt)
          have HN := Lib.hid (mineN_no (id := r.id) (t := t) hjt)
          cases q1 : (es[j].run == r.id)
          · have hm : mineE r.id t es[j] = false := by rw [HM.out, q1]; rfl
            have S := Lib.hid (HN.out hm)
            have S2 : Hid (r.tasks[t].state = 2 → priosOk r t es (j + 1)) := fun h2 => prios_step (hpo.out h2) hjt (fun hh => by rw [hm] at hh; cases hh)
            clear hm
            go_wp2
            first
              | exact ⟨⟨j + 1, by omega, by go_num, by rw [S.out], S2, bnext hb2 hE⟩, by simp [intOf]; omega⟩
              | (refine ⟨?_, by simp [intOf]; omega⟩; (repeat apply Exists.intro); first | exact ⟨⟨j + 1, by omega, by go_num, by rw [S.out], S2, bnext hb2 hE⟩, rfl⟩ | exact ⟨⟨j + 1, by omega, by go_num, by rw [S.out], S2, bnext hb2 hE⟩, rfl, rfl⟩ | exact ⟨⟨j + 1, by omega, by go_num, by rw [S.out], S2, bnext hb2 hE⟩, rfl, rfl, rfl⟩ | exact ⟨⟨j + 1, by omega, by go_num, by rw [S.out], S2, bnext hb2 hE⟩, rfl, rfl, rfl, rfl⟩ | exact ⟨⟨j + 1, by omega, by go_num, by rw [S.out], S2, bnext hb2 hE⟩, rfl, rfl, rfl, rfl, rfl⟩ | exact ⟨⟨j + 1, by omega, by go_num, by rw [S.out], S2, bnext hb2 hE⟩, rfl, rfl, rfl, rfl, rfl, rfl⟩ | exact ⟨⟨j + 1, by omega, by go_num, by rw [S.out], S2, bnext hb2 hE⟩, rfl, rfl, rfl, rfl, rfl, rfl, rfl⟩ | exact ⟨⟨j + 1, by omega, by go_num, by rw [S.out], S2, bnext hb2 hE⟩, rfl, rfl, rfl, rfl, rfl, rfl, rfl, rfl⟩ | exact ⟨⟨j + 1, by omega, by go_num, by rw [S.out], S2, bnext hb2 hE⟩, rfl, rfl, rfl, rfl, rfl, rfl, rfl, rfl, rfl⟩ | exact ⟨⟨j + 1, by omega, by go_num, by rw [S.out], S2, bnext hb2 hE⟩, rfl, rfl, rfl, rfl, rfl, rfl, rfl, rfl, rfl, rfl⟩ | exact ⟨⟨j + 1, by omega, by go_num, by rw [S.out], S2, bnext hb2 hE⟩, rfl, rfl, rfl, rfl, rfl, rfl, rfl, rfl, rfl, rfl, rfl⟩ | exact ⟨⟨j + 1, by omega, by go_num, by rw [S.out], S2, bnext hb2 hE⟩, rfl, rfl, rfl, rfl, rfl, rfl, rfl, rfl, rfl, rfl, rfl, rfl⟩ | exact ⟨⟨j + 1, by omega, by go_num, by rw [S.out], S2, bnext hb2 hE⟩, rfl, rfl, rfl, rfl, rfl, rfl, rfl, rfl, rfl, rfl, rfl, rfl, rfl⟩ | exact ⟨⟨j + 1, by omega, by go_num, by rw [S.out], S2, bnext hb2 hE⟩, rfl, rfl, rfl, rfl, rfl, rfl, rfl, rfl, rfl, rfl, rfl, rfl, rfl, rfl⟩ | exact ⟨⟨j + 1, by omega, by go_num, by rw [S.out], S2, bnext hb2 hE⟩, rfl, rfl, rfl, rfl, rfl, rfl, rfl, rfl, rfl, rfl, rfl, rfl, rfl, rfl, rfl⟩)
          cases q2 : (es[j].task == (t : Int))
          · have hm : mineE r.id t es[j] = false := by rw [HM.out, q1, q2]; rfl
            have S := Lib.hid (HN.out hm)
            have S2 : Hid (r.tasks[t].state = 2 → priosOk r t es (j + 1)) := fun h2 => prios_step (hpo.out h2) hjt (fun hh => by rw [hm] at hh; cases hh)
            clear hm
            go_wp2
            first
              | exact ⟨⟨j + 1, by omega, by go_num, by rw [S.out], S2, bnext hb2 hE⟩, by simp [intOf]; omega⟩
              | (refine ⟨?_, by simp [intOf]; omega⟩; (repeat apply Exists.intro); first | exact ⟨⟨j + 1, by omega, by go_num, by rw [S.out], S2, bnext hb2 hE⟩, rfl⟩ | exact ⟨⟨j + 1, by omega, by go_num, by rw [S.out], S2, bnext hb2 hE⟩, rfl, rfl⟩ | exact ⟨⟨j + 1, by omega, by go_num, by rw [S.out], S2, bnext hb2 hE⟩, rfl, rfl, rfl⟩ | exact ⟨⟨j + 1, by omega, by go_num, by rw [S.out], S2, bnext hb2 hE⟩, rfl, rfl, rfl, rfl⟩ | exact ⟨⟨j + 1, by omega, by go_num, by rw [S.out], S2, bnext hb2 hE⟩, rfl, rfl, rfl, rfl, rfl⟩ | exact ⟨⟨j + 1, by omega, by go_num, by rw [S.out], S2, bnext hb2 hE⟩, rfl, rfl, rfl, rfl, rfl, rfl⟩ | exact ⟨⟨j + 1, by omega, by go_num, by rw [S.out], S2, bnext hb2 hE⟩, rfl, rfl, rfl, rfl, rfl, rfl, rfl⟩ | exact ⟨⟨j + 1, by omega, by go_num, by rw [S.out], S2, bnext hb2 hE⟩, rfl, rfl, rfl, rfl, rfl, rfl, rfl, rfl⟩ | exact ⟨⟨j + 1, by omega, by go_num, by rw [S.out], S2, bnext hb2 hE⟩, rfl, rfl, rfl, rfl, rfl, rfl, rfl, rfl, rfl⟩ | exact ⟨⟨j + 1, by omega, by go_num, by rw [S.out], S2, bnext hb2 hE⟩, rfl, rfl, rfl, rfl, rfl, rfl, rfl, rfl, rfl, rfl⟩ | exact ⟨⟨j + 1, by omega, by go_num, by rw [S.out], S2, bnext hb2 hE⟩, rfl, rfl, rfl, rfl, rfl, rfl, rfl, rfl, rfl, rfl, rfl⟩ | exact ⟨⟨j + 1, by omega, by go_num, by rw [S.out], S2, bnext hb2 hE⟩, rfl, rfl, rfl, rfl, rfl, rfl, rfl, rfl, rfl, rfl, rfl, rfl⟩ | exact ⟨⟨j + 1, by omega, by go_num, by rw [S.out], S2, bnext hb2 hE⟩, rfl, rfl, rfl, rfl, rfl, rfl, rfl, rfl, rfl, rfl, rfl, rfl, rfl⟩ | exact ⟨⟨j + 1, by omega, by go_num, by rw [S.out], S2, bnext hb2 hE⟩, rfl, rfl, rfl, rfl, rfl, rfl, rfl, rfl, rfl, rfl, rfl, rfl, rfl, rfl⟩ | exact ⟨⟨j + 1, by omega, by go_num, by rw [S.out], S2, bnext hb2 hE⟩, rfl, rfl, rfl, rfl, rfl, rfl, rfl, rfl, rfl, rfl, rfl, rfl, rfl, rfl, rfl⟩)
          have hm : mineE r.id t es[j] = true := by rw [HM.out, q1, q2]; rfl
          have S := Lib.hid (HY.out hm)
          have HM2 := Lib.hid hm
          clear hm
          by_cases q3 : r.tasks[t].state = 2
          · have q3' : (r.tasks[t].state == 2) = true := beq_iff_eq.2 q3
            by_cases q4 : es[j].prio = r.plan.prio
            · have q4' : (es[j].prio != r.plan.prio) = false := by simp [q4]
              have S2 : Hid (r.tasks[t].state = 2 → priosOk r t es (j + 1)) := fun h2 => prios_step (hpo.out h2) hjt (fun _ => q4)
              clear q3 q4
              go_wp2
              first
                | exact ⟨⟨j + 1, by omega, by go_num, by rw [S.out]; go_num, S2, bnext hb2 hE⟩, by simp [intOf]; omega⟩
                | (refine ⟨?_, by simp [intOf]; omega⟩; (repeat apply Exists.intro); first | exact ⟨⟨j + 1, by omega, by go_num, by rw [S.out]; go_num, S2, bnext hb2 hE⟩, rfl⟩ | exact ⟨⟨j + 1, by omega, by go_num, by rw [S.out]; go_num, S2, bnext hb2 hE⟩, rfl, rfl⟩ | exact ⟨⟨j + 1, by omega, by go_num, by rw [S.out]; go_num, S2, bnext hb2 hE⟩, rfl, rfl, rfl⟩ | exact ⟨⟨j + 1, by omega, by go_num, by rw [S.out]; go_num, S2, bnext hb2 hE⟩, rfl, rfl, rfl, rfl⟩ | exact ⟨⟨j + 1, by omega, by go_num, by rw [S.out]; go_num, S2, bnext hb2 hE⟩, rfl, rfl, rfl, rfl, rfl⟩ | exact ⟨⟨j + 1, by omega, by go_num, by rw [S.out]; go_num, S2, bnext hb2 hE⟩, rfl, rfl, rfl, rfl, rfl, rfl⟩ | exact ⟨⟨j + 1, by omega, by go_num, by rw [S.out]; go_num, S2, bnext hb2 hE⟩, rfl, rfl, rfl, rfl, rfl, rfl, rfl⟩ | exact ⟨⟨j + 1, by omega, by go_num, by rw [S.out]; go_num, S2, bnext hb2 hE⟩, rfl, rfl, rfl, rfl, rfl, rfl, rfl, rfl⟩ | exact ⟨⟨j + 1, by omega, by go_num, by rw [S.out]; go_num, S2, bnext hb2 hE⟩, rfl, rfl, rfl, rfl, rfl, rfl, rfl, rfl, rfl⟩ | exact ⟨⟨j + 1, by omega, by go_num, by rw [S.out]; go_num, S2, bnext hb2 hE⟩, rfl, rfl, rfl, rfl, rfl, rfl, rfl, rfl, rfl, rfl⟩ | exact ⟨⟨j + 1, by omega, by go_num, by rw [S.out]; go_num, S2, bnext hb2 hE⟩, rfl, rfl, rfl, rfl, rfl, rfl, rfl, rfl, rfl, rfl, rfl⟩ | exact ⟨⟨j + 1, by omega, by go_num, by rw [S.out]; go_num, S2, bnext hb2 hE⟩, rfl, rfl, rfl, rfl, rfl, rfl, rfl, rfl, rfl, rfl, rfl, rfl⟩ | exact ⟨⟨j + 1, by omega, by go_num, by rw [S.out]; go_num, S2, bnext hb2 hE⟩, rfl, rfl, rfl, rfl, rfl, rfl, rfl, rfl, rfl, rfl, rfl, rfl, rfl⟩ | exact ⟨⟨j + 1, by omega, by go_num, by rw [S.out]; go_num, S2, bnext hb2 hE⟩, rfl, rfl, rfl, rfl, rfl, rfl, rfl, rfl, rfl, rfl, rfl, rfl, rfl, rfl⟩ | exact ⟨⟨j + 1, by omega, by go_num, by rw [S.out]; go_num, S2, bnext hb2 hE⟩, rfl, rfl, rfl, rfl, rfl, rfl, rfl, rfl, rfl, rfl, rfl, rfl, rfl, rfl, rfl⟩)
            · have q4' : (es[j].prio != r.plan.prio) = true := by simp [q4]
              have H := Lib.hid (tf_false (stand_bad1 (now := y.now) hlt q3 hjt HM2.out q4))
              clear q3 q4
              go_wp2
              go_ret
              exact ⟨ret_bool H.out.symm, bnext B1 hE⟩
          · have q3' : (r.tasks[t].state == 2) = false := beq_eq_false_iff_ne.2 q3
            have S2 : Hid (r.tasks[t].state = 2 → priosOk r t es (j + 1)) := fun h2 => absurd h2 q3
            clear q3
            go_wp2
            first
              | exact ⟨⟨j + 1, by omega, by go_num, by rw [S.out]; go_num, S2, bnext hb2 hE⟩, by simp [intOf]; omega⟩
              | (refine ⟨?_, by simp [intOf]; omega⟩; (repeat apply Exists.intro); first | exact ⟨⟨j + 1, by omega, by go_num, by rw [S.out]; go_num, S2, bnext hb2 hE⟩, rfl⟩ | exact ⟨⟨j + 1, by omega, by go_num, by rw [S.out]; go_num, S2, bnext hb2 hE⟩, rfl, rfl⟩ | exact ⟨⟨j + 1, by omega, by go_num, by rw [S.out]; go_num, S2, bnext hb2 hE⟩, rfl, rfl, rfl⟩ | exact ⟨⟨j + 1, by omega, by go_num, by rw [S.out]; go_num, S2, bnext hb2 hE⟩, rfl, rfl, rfl, rfl⟩ | exact ⟨⟨j + 1, by omega, by go_num, by rw [S.out]; go_num, S2, bnext hb2 hE⟩, rfl, rfl, rfl, rfl, rfl⟩ | exact ⟨⟨j + 1, by omega, by go_num, by rw [S.out]; go_num, S2, bnext hb2 hE⟩, rfl, rfl, rfl, rfl, rfl, rfl⟩ | exact ⟨⟨j + 1, by omega, by go_num, by rw [S.out]; go_num, S2, bnext hb2 hE⟩, rfl, rfl, rfl, rfl, rfl, rfl, rfl⟩ | exact ⟨⟨j + 1, by omega, by go_num, by rw [S.out]; go_num, S2, bnext hb2 hE⟩, rfl, rfl, rfl, rfl, rfl, rfl, rfl, rfl⟩ | exact ⟨⟨j + 1, by omega, by go_num, by rw [S.out]; go_num, S2, bnext hb2 hE⟩, rfl, rfl, rfl, rfl, rfl, rfl, rfl, rfl, rfl⟩ | exact ⟨⟨j + 1, by omega, by go_num, by rw [S.out]; go_num, S2, bnext hb2 hE⟩, rfl, rfl, rfl, rfl, rfl, rfl, rfl, rfl, rfl, rfl⟩ | exact ⟨⟨j + 1, by omega, by go_num, by rw [S.out]; go_num, S2, bnext hb2 hE⟩, rfl, rfl, rfl, rfl, rfl, rfl, rfl, rfl, rfl, rfl, rfl⟩ | exact ⟨⟨j + 1, by omega, by go_num, by rw [S.out]; go_num, S2, bnext hb2 hE⟩, rfl, rfl, rfl, rfl, rfl, rfl, rfl, rfl, rfl, rfl, rfl, rfl⟩ | exact ⟨⟨j + 1, by omega, by go_num, by rw [S.out]; go_num, S2, bnext hb2 hE⟩, rfl, rfl, rfl, rfl, rfl, rfl, rfl, rfl, rfl, rfl, rfl, rfl, rfl⟩ | exact ⟨⟨j + 1, by omega, by go_num, by rw [S.out]; go_num, S2, bnext hb2 hE⟩, rfl, rfl, rfl, rfl, rfl, rfl, rfl, rfl, rfl, rfl, rfl, rfl, rfl, rfl⟩ | exact ⟨⟨j + 1, by omega, by go_num, by rw [S.out]; go_num, S2, bnext hb2 hE⟩, rfl, rfl, rfl, rfl, rfl, rfl, rfl, rfl, rfl, rfl, rfl, rfl, rfl, rfl, rfl⟩)
        · have hjI : ¬ (j : Int) < (es.length : Int) := by omega
          have hj' : j = es.length := by omega
          subst hj'
          have HP : Hid (r.tasks[t].state = 2 → ∀ j (hj : j < es.length), mineE r.id t es[j] = true → es[j].prio = r.plan.prio) := fun h2 j hj hm => hpo.out h2 j hj hj hm
          have HMt := Lib.hid (show mineN r.id t (es.take es.length) = mineN r.id t es by rw [List.take_length])
          have HMb := Lib.hid (show ∀ M : Int, M = (mineN r.id t es : Nat) → (M = 1 ↔ mineN r.id t es = 1) from fun M hM => by omega)
          have step : laidP y.now r es t → Hid (∀ t', t' < t + 1 → laidP y.now r es t') := fun hx t' ht' => by
            by_cases e : t' = t
            · subst e; exact hx
            · exact hok.out t' (by omega)
          have w1' : IntKind.i64.wrap (y.now + 1) = y.now + 1 := IntWalk.i64_in _ (by omega)
          have w2' : IntKind.i64.wrap (y.now + r.plan.wait) = y.now + r.plan.wait := IntWalk.i64_in _ (by omega)
          by_cases q3 : r.tasks[t].state = 2
          · have q3' : (r.tasks[t].state == 2) = true := beq_iff_eq.2 q3
            have q5' : (r.tasks[t].state == 3) = false := beq_eq_false_iff_ne.2 (by omega)
            by_cases q4 : mineN r.id t es = 1
            · have S := step (laid_ok hlt (fun h => ⟨HP.out h, q4⟩) (fun h => by omega))
              have q4' : ((mineN r.id t es : Int) != 1) = false := by simp [q4]
              clear q3 q4 step
              go_wp2
              first
                | exact ⟨⟨t + 1, by omega, by go_num, S, bnext Hb2 hb2⟩, by simp [intOf]; omega⟩
                | (refine ⟨?_, by simp [intOf]; omega⟩; (repeat apply Exists.intro); first | exact ⟨⟨t + 1, by omega, by go_num, S, bnext Hb2 hb2⟩, rfl⟩ | exact ⟨⟨t + 1, by omega, by go_num, S, bnext Hb2 hb2⟩, rfl, rfl⟩ | exact ⟨⟨t + 1, by omega, by go_num, S, bnext Hb2 hb2⟩, rfl, rfl, rfl⟩ | exact ⟨⟨t + 1, by omega, by go_num, S, bnext Hb2 hb2⟩, rfl, rfl, rfl, rfl⟩ | exact ⟨⟨t + 1, by omega, by go_num, S, bnext Hb2 hb2⟩, rfl, rfl, rfl, rfl, rfl⟩ | exact ⟨⟨t + 1, by omega, by go_num, S, bnext Hb2 hb2⟩, rfl, rfl, rfl, rfl, rfl, rfl⟩ | exact ⟨⟨t + 1, by omega, by go_num, S, bnext Hb2 hb2⟩, rfl, rfl, rfl, rfl, rfl, rfl, rfl⟩ | exact ⟨⟨t + 1, by omega, by go_num, S, bnext Hb2 hb2⟩, rfl, rfl, rfl, rfl, rfl, rfl, rfl, rfl⟩ | exact ⟨⟨t + 1, by omega, by go_num, S, bnext Hb2 hb2⟩, rfl, rfl, rfl, rfl, rfl, rfl, rfl, rfl, rfl⟩ | exact ⟨⟨t + 1, by omega, by go_num, S, bnext Hb2 hb2⟩, rfl, rfl, rfl, rfl, rfl, rfl, rfl, rfl, rfl, rfl⟩ | exact ⟨⟨t + 1, by omega, by go_num, S, bnext Hb2 hb2⟩, rfl, rfl, rfl, rfl, rfl, rfl, rfl, rfl, rfl, rfl, rfl⟩ | exact ⟨⟨t + 1, by omega, by go_num, S, bnext Hb2 hb2⟩, rfl, rfl, rfl, rfl, rfl, rfl, rfl, rfl, rfl, rfl, rfl, rfl⟩ | exact ⟨⟨t + 1, by omega, by go_num, S, bnext Hb2 hb2⟩, rfl, rfl, rfl, rfl, rfl, rfl, rfl, rfl, rfl, rfl, rfl, rfl, rfl⟩ | exact ⟨⟨t + 1, by omega, by go_num, S, bnext Hb2 hb2⟩, rfl, rfl, rfl, rfl, rfl, rfl, rfl, rfl, rfl, rfl, rfl, rfl, rfl, rfl⟩ | exact ⟨⟨t + 1, by omega, by go_num, S, bnext Hb2 hb2⟩, rfl, rfl, rfl, rfl, rfl, rfl, rfl, rfl, rfl, rfl, rfl, rfl, rfl, rfl, rfl⟩)
            · have H := Lib.hid (tf_false (stand_bad2 (now := y.now) hlt q3 q4))
              have q4' : ((mineN r.id t es : Int) != 1) = true := by simp; omega
              clear q3 q4 step
              go_wp2
              go_ret
              exact ⟨ret_bool H.out.symm, B1⟩
          · have q3' : (r.tasks[t].state == 2) = false := beq_eq_false_iff_ne.2 q3
            by_cases q5 : r.tasks[t].state = 3
            · have q5' : (r.tasks[t].state == 3) = true := beq_iff_eq.2 q5
              cases q6 : inB r.tasks[t].until_ (y.now + 1) (y.now + r.plan.wait)
              · have H := Lib.hid (tf_false (stand_bad3 (es := es) hlt q5 q6))
                clear q3 q5 step
                go_wp2_with (go_at_call 29; refine (within_any _ _ _ _).mono ?_; rintro e w' ⟨rfl, rfl⟩)
                go_ret
                exact ⟨ret_bool H.out.symm, B1⟩
              · have S := step (laid_ok hlt (fun h => absurd h q3) (fun _ => q6))
                clear q3 q5 step
                go_wp2_with (go_at_call 29; refine (within_any _ _ _ _).mono ?_; rintro e w' ⟨rfl, rfl⟩)
                first
                  | exact ⟨⟨t + 1, by omega, by go_num, S, bnext Hb2 hb2⟩, by simp [intOf]; omega⟩
                  | (refine ⟨?_, by simp [intOf]; omega⟩; (repeat apply Exists.intro); first | exact ⟨⟨t + 1, by omega, by go_num, S, bnext Hb2 hb2⟩, rfl⟩ | exact ⟨⟨t + 1, by omega, by go_num, S, bnext Hb2 hb2⟩, rfl, rfl⟩ | exact ⟨⟨t + 1, by omega, by go_num, S, bnext Hb2 hb2⟩, rfl, rfl, rfl⟩ | exact ⟨⟨t + 1, by omega, by go_num, S, bnext Hb2 hb2⟩, rfl, rfl, rfl, rfl⟩ | exact ⟨⟨t + 1, by omega, by go_num, S, bnext Hb2 hb2⟩, rfl, rfl, rfl, rfl, rfl⟩ | exact ⟨⟨t + 1, by omega, by go_num, S, bnext Hb2 hb2⟩, rfl, rfl, rfl, rfl, rfl, rfl⟩ | exact ⟨⟨t + 1, by omega, by go_num, S, bnext Hb2 hb2⟩, rfl, rfl, rfl, rfl, rfl, rfl, rfl⟩ | exact ⟨⟨t + 1, by omega, by go_num, S, bnext Hb2 hb2⟩, rfl, rfl, rfl, rfl, rfl, rfl, rfl, rfl⟩ | exact ⟨⟨t + 1, by omega, by go_num, S, bnext Hb2 hb2⟩, rfl, rfl, rfl, rfl, rfl, rfl, rfl, rfl, rfl⟩ | exact ⟨⟨t + 1, by omega, by go_num, S, bnext Hb2 hb2⟩, rfl, rfl, rfl, rfl, rfl, rfl, rfl, rfl, rfl, rfl⟩ | exact ⟨⟨t + 1, by omega, by go_num, S, bnext Hb2 hb2⟩, rfl, rfl, rfl, rfl, rfl, rfl, rfl, rfl, rfl, rfl, rfl⟩ | exact ⟨⟨t + 1, by omega, by go_num, S, bnext Hb2 hb2⟩, rfl, rfl, rfl, rfl, rfl, rfl, rfl, rfl, rfl, rfl, rfl, rfl⟩ | exact ⟨⟨t + 1, by omega, by go_num, S, bnext Hb2 hb2⟩, rfl, rfl, rfl, rfl, rfl, rfl, rfl, rfl, rfl, rfl, rfl, rfl, rfl⟩ | exact ⟨⟨t + 1, by omega, by go_num, S, bnext Hb2 hb2⟩, rfl, rfl, rfl, rfl, rfl, rfl, rfl, rfl, rfl, rfl, rfl, rfl, rfl, rfl⟩ | exact ⟨⟨t + 1, by omega, by go_num, S, bnext Hb2 hb2⟩, rfl, rfl, rfl, rfl, rfl, rfl, rfl, rfl, rfl, rfl, rfl, rfl, rfl, rfl, rfl⟩)
            · have q5' : (r.tasks[t].state == 3) = false := beq_eq_false_iff_ne.2 q5
              have S := step (laid_ok hlt (fun h => absurd h q3) (fun h => absurd h q5))
              clear q3 q5 step
              go_wp2
              first
                | exact ⟨⟨t + 1, by omega, by go_num, S, bnext Hb2 hb2⟩, by simp [intOf]; omega⟩
                | (refine ⟨?_, by simp [intOf]; omega⟩; (repeat apply Exists.intro); first | exact ⟨⟨t + 1, by omega, by go_num, S, bnext Hb2 hb2⟩, rfl⟩ | exact ⟨⟨t + 1, by omega, by go_num, S, bnext Hb2 hb2⟩, rfl, rfl⟩ | exact ⟨⟨t + 1, by omega, by go_num, S, bnext Hb2 hb2⟩, rfl, rfl, rfl⟩ | exact ⟨⟨t + 1, by omega, by go_num, S, bnext Hb2 hb2⟩, rfl, rfl, rfl, rfl⟩ | exact ⟨⟨t + 1, by omega, by go_num, S, bnext Hb2 hb2⟩, rfl, rfl, rfl, rfl, rfl⟩ | exact ⟨⟨t + 1, by omega, by go_num, S, bnext Hb2 hb2⟩, rfl, rfl, rfl, rfl, rfl, rfl⟩ | exact ⟨⟨t + 1, by omega, by go_num, S, bnext Hb2 hb2⟩, rfl, rfl, rfl, rfl, rfl, rfl, rfl⟩ | exact ⟨⟨t + 1, by omega, by go_num, S, bnext Hb2 hb2⟩, rfl, rfl, rfl, rfl, rfl, rfl, rfl, rfl⟩ | exact ⟨⟨t + 1, by omega, by go_num, S, bnext Hb2 hb2⟩, rfl, rfl, rfl, rfl, rfl, rfl, rfl, rfl, rfl⟩ | exact ⟨⟨t + 1, by omega, by go_num, S, bnext Hb2 hb2⟩, rfl, rfl, rfl, rfl, rfl, rfl, rfl, rfl, rfl, rfl⟩ | exact ⟨⟨t + 1, by omega, by go_num, S, bnext Hb2 hb2⟩, rfl, rfl, rfl, rfl, rfl, rfl, rfl, rfl, rfl, rfl, rfl⟩ | exact ⟨⟨t + 1, by omega, by go_num, S, bnext Hb2 hb2⟩, rfl, rfl, rfl, rfl, rfl, rfl, rfl, rfl, rfl, rfl, rfl, rfl⟩ | exact ⟨⟨t + 1, by omega, by go_num, S, bnext Hb2 hb2⟩, rfl, rfl, rfl, rfl, rfl, rfl, rfl, rfl, rfl, rfl, rfl, rfl, rfl⟩ | exact ⟨⟨t + 1, by omega, by go_num, S, bnext Hb2 hb2⟩, rfl, rfl, rfl, rfl, rfl, rfl, rfl, rfl, rfl, rfl, rfl, rfl, rfl, rfl⟩ | exact ⟨⟨t + 1, by omega, by go_num, S, bnext Hb2 hb2⟩, rfl, rfl, rfl, rfl, rfl, rfl, rfl, rfl, rfl, rfl, rfl, rfl, rfl, rfl, rfl⟩)
    · have hltI : ¬ (t : Int) < (r.tasks.length : Int) := by omega
      have H := Lib.hid (tf_true (show standP y.now r es from fun t' ht' => hok.out t' (by omega)))
      go_wp2
      go_ret
      exact ⟨ret_bool H.out.symm, bnext B0 hb⟩

theorem specStand_any (y : Yard) (s : Sl × Sl) (r : Run) (s2 : Sl × Sl) (es : List Entry) (s3 : Sl) (w : World) (hl2 : r.tasks.length ≤ 2000000) (hl3 : es.length ≤ 2000000) (hn : 0 ≤ y.now ∧ y.now ≤ 999999980) (hw : 1 ≤ r.plan.wait ∧ r.plan.wait ≤ 20)
    (h' : runD.rd w w.heap.size r s2) (h3 : Rd entE w w.heap.size s3.v es) :
    Calls Tryz.prog 53 #[yardW y s, runW r s2, .slice s3.a s3.n s3.c] w fun e w' => e = .returned (.bool (tf (standP y.now r es))) ∧ Below w.heap.size w w' := by
  obtain ⟨⟨A1, n1, c1⟩, ⟨A2, n2, c2⟩⟩ := s
  obtain ⟨⟨A4, n4, c4⟩, ⟨A5, n5, c5⟩⟩ := s2
  obtain ⟨A6, n6, c6⟩ := s3
  obtain rfl : n5 = r.tasks.length := RdL.at1 (s := ⟨A5, n5, c5⟩) h'.2
  obtain rfl : n6 = es.length := RdL.at1 (s := ⟨A6, n6, c6⟩) (ent_rdL h3)
  have h2 : RdL taskD w w.heap.size (.slice A5 r.tasks.length c5) r.tasks := h'.2
  have h3 : RdL entryD w w.heap.size (.slice A6 es.length c6) es := ent_rdL h3
  clear h'
  have X := (DBox.new 34 [.int .i64 y.now, .int .i64 y.seq, .slice A1 n1 c1, .slice A2 n2 c2] w (b := w.heap.size) rfl).below ((Below.refl _ _).alloc (Nat.le_refl _) (.cells #[.int .i64 r.id, .int .i64 r.plan.prio, .int .i64 r.plan.most, .int .i64 r.plan.wait, .int .i64 r.plan.tasks, .slice A4 n4 c4, .int .i64 r.state, .slice A5 r.tasks.length c5] 84))
  have R := DBox.new 84 [.int .i64 r.id, .int .i64 r.plan.prio, .int .i64 r.plan.most, .int .i64 r.plan.wait, .int .i64 r.plan.tasks, .slice A4 n4 c4, .int .i64 r.state, .slice A5 r.tasks.length c5] (w.alloc (.cells #[.int .i64 y.now, .int .i64 y.seq, .slice A1 n1 c1, .slice A2 n2 c2] 34)) (b := w.heap.size + 1) (by simp)
  have B0 : Below w.heap.size w ((w.alloc (.cells #[.int .i64 y.now, .int .i64 y.seq, .slice A1 n1 c1, .slice A2 n2 c2] 34)).alloc (.cells #[.int .i64 r.id, .int .i64 r.plan.prio, .int .i64 r.plan.most, .int .i64 r.plan.wait, .int .i64 r.plan.tasks, .slice A4 n4 c4, .int .i64 r.state, .slice A5 r.tasks.length c5] 84)) := by repeat (first | exact Below.refl _ _ | refine Below.alloc ?_ (by simp <;> omega) _)
  go_enter Tryz.func53, Tryz.ntmps53
  go_wp2
  generalize ((w.alloc (.cells #[.int .i64 y.now, .int .i64 y.seq, .slice A1 n1 c1, .slice A2 n2 c2] 34)).alloc (.cells #[.int .i64 r.id, .int .i64 r.plan.prio, .int .i64 r.plan.most, .int .i64 r.plan.wait, .int .i64 r.plan.tasks, .slice A4 n4 c4, .int .i64 r.state, .slice A5 r.tasks.length c5] 84)) = W at *
  go_loopw [7] (fun i wr => ∃ k : Nat, k ≤ r.tasks.length ∧ i = .int .i64 k ∧ Hid (∀ t, t < k → laidP y.now r es t) ∧ Below W.heap.size W wr) (fun i _ => r.tasks.length - (intOf i).toNat)
  case atStart => exact ⟨0, Nat.zero_le _, rfl, fun t ht => absurd ht (by omega), Below.refl _ _⟩
  case round =>
    obtain ⟨t, hk, rfl, hok, hb⟩ := hrel
    by_cases hlt : t < r.tasks.length
    · have hltI : (t : Int) < (r.tasks.length : Int) := by omega
      have R1 := R.below hb
      have hx0 : wr.cell? ⟨w.heap.size + 1, 7, none⟩ = some (.slice A5 r.tasks.length c5) := R1.cell 7 _ rfl
      have hx1 := R1.lt
      go_wp2
      clear hx0 hx1 R1
      go_loopw [8, 9] (fun n i wq => ∃ j : Nat, j ≤ es.length ∧ i = .int .i64 j ∧ n = .int .i64 (mineN r.id t (es.take j) : Nat) ∧ Hid (r.tasks[t].state = 2 → priosOk r t es j) ∧ Below W.heap.size W wq) (fun _ i _ => es.length - (intOf i).toNat)
      case atStart => exact ⟨0, Nat.zero_le _, rfl, rfl, fun _ j hj h0 => absurd h0 (by omega), hb⟩
      case round =>
        clear hb
        obtain ⟨j, hj, rfl, rfl, hpo, hb⟩ := hrel
        have hmn := mineN_le r.id t (es.take j)
        rw [List.length_take] at hmn
        have X := X.below hb
        have R := R.below hb
        have X_0 := X.cell 0 _ rfl
        have X_1 := X.cell 1 _ rfl
        have X_2 := X.cell 2 _ rfl
        have X_3 := X.cell 3 _ rfl
        have X_l := X.lt
        have R_0 := R.cell 0 _ rfl
        have R_1 := R.cell 1 _ rfl
        have R_2 := R.cell 2 _ rfl
        have R_3 := R.cell 3 _ rfl
        have R_4 := R.cell 4 _ rfl
        have R_5 := R.cell 5 _ rfl
        have R_6 := R.cell 6 _ rfl
        have R_7 := R.cell 7 _ rfl
        have R_l := R.lt
        have B1 := bnext B0 hb
        obtain ⟨b, o, _, hA5, hbb, _, d0, d1, d2, d3⟩ := (h2.below B1).task hlt
        subst hA5
        have hs1 : b < wr.heap.size := Nat.lt_of_lt_of_le hbb B1.size
        have hlc := later_cell wr
        by_cases hjt : j < es.length
        · have hjI : (j : Int) < (es.length : Int) := by omega
          obtain ⟨b6, o6, _, hA6, hbb6, _, f0, f1, f2, f3⟩ := (h3.below B1).entry hjt
          subst hA6
          have hs6 : b6 < wr.heap.size := Nat.lt_of_lt_of_le hbb6 B1.size
          have HM : Hid (mineE r.id t es[j] = ((es[j].run == r.id) && (es[j].task == (t : Int)))) := rfl
          have HY := Lib.hid (mineN_yes (id := r.id) (t := t) hjt)
          have HN := Lib.hid (mineN_no (id := r.id) (t := t) hjt)
          cases q1 : (es[j].run == r.id)
          · have hm : mineE r.id t es[j] = false := by rw [HM.out, q1]; rfl
            have S := Lib.hid (HN.out hm)
            have S2 : Hid (r.tasks[t].state = 2 → priosOk r t es (j + 1)) := fun h2 => prios_step (hpo.out h2) hjt (fun hh => by rw [hm] at hh; cases hh)
            clear hm
            go_wp2
            go_quiet (fail)
            go_wp2
            first
              | exact ⟨⟨j + 1, by omega, by go_num, by rw [S.out], S2, bdrewN hb _⟩, by simp [intOf]; omega⟩
              | (refine ⟨?_, by simp [intOf]; omega⟩; (repeat apply Exists.intro); first | exact ⟨⟨j + 1, by omega, by go_num, by rw [S.out], S2, bdrewN hb _⟩, rfl⟩ | exact ⟨⟨j + 1, by omega, by go_num, by rw [S.out], S2, bdrewN hb _⟩, rfl, rfl⟩ | exact ⟨⟨j + 1, by omega, by go_num, by rw [S.out], S2, bdrewN hb _⟩, rfl, rfl, rfl⟩ | exact ⟨⟨j + 1, by omega, by go_num, by rw [S.out], S2, bdrewN hb _⟩, rfl, rfl, rfl, rfl⟩ | exact ⟨⟨j + 1, by omega, by go_num, by rw [S.out], S2, bdrewN hb _⟩, rfl, rfl, rfl, rfl, rfl⟩ | exact ⟨⟨j + 1, by omega, by go_num, by rw [S.out], S2, bdrewN hb _⟩, rfl, rfl, rfl, rfl, rfl, rfl⟩ | exact ⟨⟨j + 1, by omega, by go_num, by rw [S.out], S2, bdrewN hb _⟩, rfl, rfl, rfl, rfl, rfl, rfl, rfl⟩ | exact ⟨⟨j + 1, by omega, by go_num, by rw [S.out], S2, bdrewN hb _⟩, rfl, rfl, rfl, rfl, rfl, rfl, rfl, rfl⟩ | exact ⟨⟨j + 1, by omega, by go_num, by rw [S.out], S2, bdrewN hb _⟩, rfl, rfl, rfl, rfl, rfl, rfl, rfl, rfl, rfl⟩ | exact ⟨⟨j + 1, by omega, by go_num, by rw [S.out], S2, bdrewN hb _⟩, rfl, rfl, rfl, rfl, rfl, rfl, rfl, rfl, rfl, rfl⟩ | exact ⟨⟨j + 1, by omega, by go_num, by rw [S.out], S2, bdrewN hb _⟩, rfl, rfl, rfl, rfl, rfl, rfl, rfl, rfl, rfl, rfl, rfl⟩ | exact ⟨⟨j + 1, by omega, by go_num, by rw [S.out], S2, bdrewN hb _⟩, rfl, rfl, rfl, rfl, rfl, rfl, rfl, rfl, rfl, rfl, rfl, rfl⟩ | exact ⟨⟨j + 1, by omega, by go_num, by rw [S.out], S2, bdrewN hb _⟩, rfl, rfl, rfl, rfl, rfl, rfl, rfl, rfl, rfl, rfl, rfl, rfl, rfl⟩ | exact ⟨⟨j + 1, by omega, by go_num, by rw [S.out], S2, bdrewN hb _⟩, rfl, rfl, rfl, rfl, rfl, rfl, rfl, rfl, rfl, rfl, rfl, rfl, rfl, rfl⟩ | exact ⟨⟨j + 1, by omega, by go_num, by rw [S.out], S2, bdrewN hb _⟩, rfl, rfl, rfl, rfl, rfl, rfl, rfl, rfl, rfl, rfl, rfl, rfl, rfl, rfl, rfl⟩)
          cases q2 : (es[j].task == (t : Int))
          · have hm : mineE r.id t es[j] = false := by rw [HM.out, q1, q2]; rfl
            have S := Lib.hid (HN.out hm)
            have S2 : Hid (r.tasks[t].state = 2 → priosOk r t es (j + 1)) := fun h2 => prios_step (hpo.out h2) hjt (fun hh => by rw [hm] at hh; cases hh)
            clear hm
            go_wp2
            go_quiet (fail)
            go_wp2
            first
              | exact ⟨⟨j + 1, by omega, by go_num, by rw [S.out], S2, bdrewN hb _⟩, by simp [intOf]; omega⟩
              | (refine ⟨?_, by simp [intOf]; omega⟩; (repeat apply Exists.intro); first | exact ⟨⟨j + 1, by omega, by go_num, by rw [S.out], S2, bdrewN hb _⟩, rfl⟩ | exact ⟨⟨j + 1, by omega, by go_num, by rw [S.out], S2, bdrewN hb _⟩, rfl, rfl⟩ | exact ⟨⟨j + 1, by omega, by go_num, by rw [S.out], S2, bdrewN hb _⟩, rfl, rfl, rfl⟩ | exact ⟨⟨j + 1, by omega, by go_num, by rw [S.out], S2, bdrewN hb _⟩, rfl, rfl, rfl, rfl⟩ | exact ⟨⟨j + 1, by omega, by go_num, by rw [S.out], S2, bdrewN hb _⟩, rfl, rfl, rfl, rfl, rfl⟩ | exact ⟨⟨j + 1, by omega, by go_num, by rw [S.out], S2, bdrewN hb _⟩, rfl, rfl, rfl, rfl, rfl, rfl⟩ | exact ⟨⟨j + 1, by omega, by go_num, by rw [S.out], S2, bdrewN hb _⟩, rfl, rfl, rfl, rfl, rfl, rfl, rfl⟩ | exact ⟨⟨j + 1, by omega, by go_num, by rw [S.out], S2, bdrewN hb _⟩, rfl, rfl, rfl, rfl, rfl, rfl, rfl, rfl⟩ | exact ⟨⟨j + 1, by omega, by go_num, by rw [S.out], S2, bdrewN hb _⟩, rfl, rfl, rfl, rfl, rfl, rfl, rfl, rfl, rfl⟩ | exact ⟨⟨j + 1, by omega, by go_num, by rw [S.out], S2, bdrewN hb _⟩, rfl, rfl, rfl, rfl, rfl, rfl, rfl, rfl, rfl, rfl⟩ | exact ⟨⟨j + 1, by omega, by go_num, by rw [S.out], S2, bdrewN hb _⟩, rfl, rfl, rfl, rfl, rfl, rfl, rfl, rfl, rfl, rfl, rfl⟩ | exact ⟨⟨j + 1, by omega, by go_num, by rw [S.out], S2, bdrewN hb _⟩, rfl, rfl, rfl, rfl, rfl, rfl, rfl, rfl, rfl, rfl, rfl, rfl⟩ | exact ⟨⟨j + 1, by omega, by go_num, by rw [S.out], S2, bdrewN hb _⟩, rfl, rfl, rfl, rfl, rfl, rfl, rfl, rfl, rfl, rfl, rfl, rfl, rfl⟩ | exact ⟨⟨j + 1, by omega, by go_num, by rw [S.out], S2, bdrewN hb _⟩, rfl, rfl, rfl, rfl, rfl, rfl, rfl, rfl, rfl, rfl, rfl, rfl, rfl, rfl⟩ | exact ⟨⟨j + 1, by omega, by go_num, by rw [S.out], S2, bdrewN hb _⟩, rfl, rfl, rfl, rfl, rfl, rfl, rfl, rfl, rfl, rfl, rfl, rfl, rfl, rfl, rfl⟩)
          have hm : mineE r.id t es[j] = true := by rw [HM.out, q1, q2]; rfl
          have S := Lib.hid (HY.out hm)
          have HM2 := Lib.hid hm
          clear hm
          by_cases q3 : r.tasks[t].state = 2
          · have q3' : (r.tasks[t].state == 2) = true := beq_iff_eq.2 q3
            by_cases q4 : es[j].prio = r.plan.prio
            · have q4' : (es[j].prio != r.plan.prio) = false := by simp [q4]
              have S2 : Hid (r.tasks[t].state = 2 → priosOk r t es (j + 1)) := fun h2 => prios_step (hpo.out h2) hjt (fun _ => q4)
              clear q3 q4
              go_wp2
              go_quiet (fail)
              go_wp2
              go_quiet (fail)
              go_wp2
              first
                | exact ⟨⟨j + 1, by omega, by go_num, by rw [S.out]; go_num, S2, by first | exact bdrewN hb _ | exact bdrewN (bdrewN hb _) _⟩, by simp [intOf]; omega⟩
                | (refine ⟨?_, by simp [intOf]; omega⟩; (repeat apply Exists.intro); first | exact ⟨⟨j + 1, by omega, by go_num, by rw [S.out]; go_num, S2, by first | exact bdrewN hb _ | exact bdrewN (bdrewN hb _) _⟩, rfl⟩ | exact ⟨⟨j + 1, by omega, by go_num, by rw [S.out]; go_num, S2, by first | exact bdrewN hb _ | exact bdrewN (bdrewN hb _) _⟩, rfl, rfl⟩ | exact ⟨⟨j + 1, by omega, by go_num, by rw [S.out]; go_num, S2, by first | exact bdrewN hb _ | exact bdrewN (bdrewN hb _) _⟩, rfl, rfl, rfl⟩ | exact ⟨⟨j + 1, by omega, by go_num, by rw [S.out]; go_num, S2, by first | exact bdrewN hb _ | exact bdrewN (bdrewN hb _) _⟩, rfl, rfl, rfl, rfl⟩ | exact ⟨⟨j + 1, by omega, by go_num, by rw [S.out]; go_num, S2, by first | exact bdrewN hb _ | exact bdrewN (bdrewN hb _) _⟩, rfl, rfl, rfl, rfl, rfl⟩ | exact ⟨⟨j + 1, by omega, by go_num, by rw [S.out]; go_num, S2, by first | exact bdrewN hb _ | exact bdrewN (bdrewN hb _) _⟩, rfl, rfl, rfl, rfl, rfl, rfl⟩ | exact ⟨⟨j + 1, by omega, by go_num, by rw [S.out]; go_num, S2, by first | exact bdrewN hb _ | exact bdrewN (bdrewN hb _) _⟩, rfl, rfl, rfl, rfl, rfl, rfl, rfl⟩ | exact ⟨⟨j + 1, by omega, by go_num, by rw [S.out]; go_num, S2, by first | exact bdrewN hb _ | exact bdrewN (bdrewN hb _) _⟩, rfl, rfl, rfl, rfl, rfl, rfl, rfl, rfl⟩ | exact ⟨⟨j + 1, by omega, by go_num, by rw [S.out]; go_num, S2, by first | exact bdrewN hb _ | exact bdrewN (bdrewN hb _) _⟩, rfl, rfl, rfl, rfl, rfl, rfl, rfl, rfl, rfl⟩ | exact ⟨⟨j + 1, by omega, by go_num, by rw [S.out]; go_num, S2, by first | exact bdrewN hb _ | exact bdrewN (bdrewN hb _) _⟩, rfl, rfl, rfl, rfl, rfl, rfl, rfl, rfl, rfl, rfl⟩ | exact ⟨⟨j + 1, by omega, by go_num, by rw [S.out]; go_num, S2, by first | exact bdrewN hb _ | exact bdrewN (bdrewN hb _) _⟩, rfl, rfl, rfl, rfl, rfl, rfl, rfl, rfl, rfl, rfl, rfl⟩ | exact ⟨⟨j + 1, by omega, by go_num, by rw [S.out]; go_num, S2, by first | exact bdrewN hb _ | exact bdrewN (bdrewN hb _) _⟩, rfl, rfl, rfl, rfl, rfl, rfl, rfl, rfl, rfl, rfl, rfl, rfl⟩ | exact ⟨⟨j + 1, by omega, by go_num, by rw [S.out]; go_num, S2, by first | exact bdrewN hb _ | exact bdrewN (bdrewN hb _) _⟩, rfl, rfl, rfl, rfl, rfl, rfl, rfl, rfl, rfl, rfl, rfl, rfl, rfl⟩ | exact ⟨⟨j + 1, by omega, by go_num, by rw [S.out]; go_num, S2, by first | exact bdrewN hb _ | exact bdrewN (bdrewN hb _) _⟩, rfl, rfl, rfl, rfl, rfl, rfl, rfl, rfl, rfl, rfl, rfl, rfl, rfl, rfl⟩ | exact ⟨⟨j + 1, by omega, by go_num, by rw [S.out]; go_num, S2, by first | exact bdrewN hb _ | exact bdrewN (bdrewN hb _) _⟩, rfl, rfl, rfl, rfl, rfl, rfl, rfl, rfl, rfl, rfl, rfl, rfl, rfl, rfl, rfl⟩)
            · have q4' : (es[j].prio != r.plan.prio) = true := by simp [q4]
              have H := Lib.hid (tf_false (stand_bad1 (now := y.now) hlt q3 hjt HM2.out q4))
              clear q3 q4
              go_wp2
              go_quiet (fail)
              go_wp2
              go_quiet (fail)
              go_wp2
              go_ret
              exact ⟨ret_bool H.out.symm, by first | exact bdrewN B1 _ | exact bdrewN (bdrewN B1 _) _⟩
          · have q3' : (r.tasks[t].state == 2) = false := beq_eq_false_iff_ne.2 q3
            have S2 : Hid (r.tasks[t].state = 2 → priosOk r t es (j + 1)) := fun h2 => absurd h2 q3
            clear q3
            go_wp2
            go_quiet (fail)
            go_wp2
            go_quiet (fail)
            go_wp2
            first
              | exact ⟨⟨j + 1, by omega, by go_num, by rw [S.out]; go_num, S2, by first | exact bdrewN hb _ | exact bdrewN (bdrewN hb _) _⟩, by simp [intOf]; omega⟩
              | (refine ⟨?_, by simp [intOf]; omega⟩; (repeat apply Exists.intro); first | exact ⟨⟨j + 1, by omega, by go_num, by rw [S.out]; go_num, S2, by first | exact bdrewN hb _ | exact bdrewN (bdrewN hb _) _⟩, rfl⟩ | exact ⟨⟨j + 1, by omega, by go_num, by rw [S.out]; go_num, S2, by first | exact bdrewN hb _ | exact bdrewN (bdrewN hb _) _⟩, rfl, rfl⟩ | exact ⟨⟨j + 1, by omega, by go_num, by rw [S.out]; go_num, S2, by first | exact bdrewN hb _ | exact bdrewN (bdrewN hb _) _⟩, rfl, rfl, rfl⟩ | exact ⟨⟨j + 1, by omega, by go_num, by rw [S.out]; go_num, S2, by first | exact bdrewN hb _ | exact bdrewN (bdrewN hb _) _⟩, rfl, rfl, rfl, rfl⟩ | exact ⟨⟨j + 1, by omega, by go_num, by rw [S.out]; go_num, S2, by first | exact bdrewN hb _ | exact bdrewN (bdrewN hb _) _⟩, rfl, rfl, rfl, rfl, rfl⟩ | exact ⟨⟨j + 1, by omega, by go_num, by rw [S.out]; go_num, S2, by first | exact bdrewN hb _ | exact bdrewN (bdrewN hb _) _⟩, rfl, rfl, rfl, rfl, rfl, rfl⟩ | exact ⟨⟨j + 1, by omega, by go_num, by rw [S.out]; go_num, S2, by first | exact bdrewN hb _ | exact bdrewN (bdrewN hb _) _⟩, rfl, rfl, rfl, rfl, rfl, rfl, rfl⟩ | exact ⟨⟨j + 1, by omega, by go_num, by rw [S.out]; go_num, S2, by first | exact bdrewN hb _ | exact bdrewN (bdrewN hb _) _⟩, rfl, rfl, rfl, rfl, rfl, rfl, rfl, rfl⟩ | exact ⟨⟨j + 1, by omega, by go_num, by rw [S.out]; go_num, S2, by first | exact bdrewN hb _ | exact bdrewN (bdrewN hb _) _⟩, rfl, rfl, rfl, rfl, rfl, rfl, rfl, rfl, rfl⟩ | exact ⟨⟨j + 1, by omega, by go_num, by rw [S.out]; go_num, S2, by first | exact bdrewN hb _ | exact bdrewN (bdrewN hb _) _⟩, rfl, rfl, rfl, rfl, rfl, rfl, rfl, rfl, rfl, rfl⟩ | exact ⟨⟨j + 1, by omega, by go_num, by rw [S.out]; go_num, S2, by first | exact bdrewN hb _ | exact bdrewN (bdrewN hb _) _⟩, rfl, rfl, rfl, rfl, rfl, rfl, rfl, rfl, rfl, rfl, rfl⟩ | exact ⟨⟨j + 1, by omega, by go_num, by rw [S.out]; go_num, S2, by first | exact bdrewN hb _ | exact bdrewN (bdrewN hb _) _⟩, rfl, rfl, rfl, rfl, rfl, rfl, rfl, rfl, rfl, rfl, rfl, rfl⟩ | exact ⟨⟨j + 1, by omega, by go_num, by rw [S.out]; go_num, S2, by first | exact bdrewN hb _ | exact bdrewN (bdrewN hb _) _⟩, rfl, rfl, rfl, rfl, rfl, rfl, rfl, rfl, rfl, rfl, rfl, rfl, rfl⟩ | exact ⟨⟨j + 1, by omega, by go_num, by rw [S.out]; go_num, S2, by first | exact bdrewN hb _ | exact bdrewN (bdrewN hb _) _⟩, rfl, rfl, rfl, rfl, rfl, rfl, rfl, rfl, rfl, rfl, rfl, rfl, rfl, rfl⟩ | exact ⟨⟨j + 1, by omega, by go_num, by rw [S.out]; go_num, S2, by first | exact bdrewN hb _ | exact bdrewN (bdrewN hb _) _⟩, rfl, rfl, rfl, rfl, rfl, rfl, rfl, rfl, rfl, rfl, rfl, rfl, rfl, rfl, rfl⟩)
        · have hjI : ¬ (j : Int) < (es.length : Int) := by omega
          have hj' : j = es.length := by omega
          subst hj'
          rw [List.take_length] at *
          have HP : Hid (r.tasks[t].state = 2 → ∀ j (hj : j < es.length), mineE r.id t es[j] = true → es[j].prio = r.plan.prio) := fun h2 j hj hm => hpo.out h2 j hj hj hm
          have step : laidP y.now r es t → Hid (∀ t', t' < t + 1 → laidP y.now r es t') := fun hx t' ht' => by
            by_cases e : t' = t
            · subst e; exact hx
            · exact hok.out t' (by omega)
          have w1' : IntKind.i64.wrap (y.now + 1) = y.now + 1 := IntWalk.i64_in _ (by omega)
          have w2' : IntKind.i64.wrap (y.now + r.plan.wait) = y.now + r.plan.wait := IntWalk.i64_in _ (by omega)
          generalize hM : (mineN r.id t es : Int) = M at *
          by_cases q3 : r.tasks[t].state = 2
          · have q3' : (r.tasks[t].state == 2) = true := beq_iff_eq.2 q3
            have q5' : (r.tasks[t].state == 3) = false := beq_eq_false_iff_ne.2 (by omega)
            by_cases q4 : M = 1
            · have S := step (laid_ok hlt (fun h => ⟨HP.out h, by omega⟩) (fun h => by omega))
              have q4' : (M != 1) = false := by simp [q4]
              clear q3 q4 step hM
              go_wp2
              refine wp_region_pure (by kernel_rfl) (by kernel_rfl) ?_
              repeat (go_big_quiet_step ((go_at_call 26; exact pure_same (fun u => l01In_any _ _ _ u.1))))
              refine wpQuiet_nil ?_
              rintro _ ⟨⟨w2, b2⟩, rfl⟩
              clear hlc
              go_wp2
              first
                | exact ⟨⟨t + 1, by omega, by go_num, S, bnext hb b2⟩, by simp [intOf]; omega⟩
                | (refine ⟨?_, by simp [intOf]; omega⟩; (repeat apply Exists.intro); first | exact ⟨⟨t + 1, by omega, by go_num, S, bnext hb b2⟩, rfl⟩ | exact ⟨⟨t + 1, by omega, by go_num, S, bnext hb b2⟩, rfl, rfl⟩ | exact ⟨⟨t + 1, by omega, by go_num, S, bnext hb b2⟩, rfl, rfl, rfl⟩ | exact ⟨⟨t + 1, by omega, by go_num, S, bnext hb b2⟩, rfl, rfl, rfl, rfl⟩ | exact ⟨⟨t + 1, by omega, by go_num, S, bnext hb b2⟩, rfl, rfl, rfl, rfl, rfl⟩ | exact ⟨⟨t + 1, by omega, by go_num, S, bnext hb b2⟩, rfl, rfl, rfl, rfl, rfl, rfl⟩ | exact ⟨⟨t + 1, by omega, by go_num, S, bnext hb b2⟩, rfl, rfl, rfl, rfl, rfl, rfl, rfl⟩ | exact ⟨⟨t + 1, by omega, by go_num, S, bnext hb b2⟩, rfl, rfl, rfl, rfl, rfl, rfl, rfl, rfl⟩ | exact ⟨⟨t + 1, by omega, by go_num, S, bnext hb b2⟩, rfl, rfl, rfl, rfl, rfl, rfl, rfl, rfl, rfl⟩ | exact ⟨⟨t + 1, by omega, by go_num, S, bnext hb b2⟩, rfl, rfl, rfl, rfl, rfl, rfl, rfl, rfl, rfl, rfl⟩ | exact ⟨⟨t + 1, by omega, by go_num, S, bnext hb b2⟩, rfl, rfl, rfl, rfl, rfl, rfl, rfl, rfl, rfl, rfl, rfl⟩ | exact ⟨⟨t + 1, by omega, by go_num, S, bnext hb b2⟩, rfl, rfl, rfl, rfl, rfl, rfl, rfl, rfl, rfl, rfl, rfl, rfl⟩ | exact ⟨⟨t + 1, by omega, by go_num, S, bnext hb b2⟩, rfl, rfl, rfl, rfl, rfl, rfl, rfl, rfl, rfl, rfl, rfl, rfl, rfl⟩ | exact ⟨⟨t + 1, by omega, by go_num, S, bnext hb b2⟩, rfl, rfl, rfl, rfl, rfl, rfl, rfl, rfl, rfl, rfl, rfl, rfl, rfl, rfl⟩ | exact ⟨⟨t + 1, by omega, by go_num, S, bnext hb b2⟩, rfl, rfl, rfl, rfl, rfl, rfl, rfl, rfl, rfl, rfl, rfl, rfl, rfl, rfl, rfl⟩)
            · have H := Lib.hid (tf_false (stand_bad2 (now := y.now) hlt q3 (show ¬ mineN r.id t es = 1 by omega)))
              have q4' : (M != 1) = true := by simp [q4]
              clear q3 q4 step hM
              go_wp2
              refine wp_region_pure (by kernel_rfl) (by kernel_rfl) ?_
              repeat (go_big_quiet_step ((go_at_call 26; exact pure_same (fun u => l01In_any _ _ _ u.1))))
              refine wpQuiet_nil ?_
              rintro _ ⟨⟨w2, b2⟩, rfl⟩
              clear hlc
              go_wp2
              go_ret
              exact ⟨ret_bool H.out.symm, bnext B1 b2⟩
          · have q3' : (r.tasks[t].state == 2) = false := beq_eq_false_iff_ne.2 q3
            clear hM
            by_cases q5 : r.tasks[t].state = 3
            · have q5' : (r.tasks[t].state == 3) = true := beq_iff_eq.2 q5
              cases q6 : inB r.tasks[t].until_ (y.now + 1) (y.now + r.plan.wait)
              · have H := Lib.hid (tf_false (stand_bad3 (es := es) hlt q5 q6))
                clear q3 q5 step
                go_wp2
                refine wp_region_pure (by kernel_rfl) (by kernel_rfl) ?_
                repeat (go_big_quiet_step ((go_at_call 26; exact pure_same (fun u => l01In_any _ _ _ u.1))))
                refine wpQuiet_nil ?_
                rintro _ ⟨⟨w2, b2⟩, rfl⟩
                clear hlc
                go_wp2
                go_ret
                exact ⟨ret_bool H.out.symm, bnext B1 b2⟩
              · have S := step (laid_ok hlt (fun h => absurd h q3) (fun _ => q6))
                clear q3 q5 step
                go_wp2
                refine wp_region_pure (by kernel_rfl) (by kernel_rfl) ?_
                repeat (go_big_quiet_step ((go_at_call 26; exact pure_same (fun u => l01In_any _ _ _ u.1))))
                refine wpQuiet_nil ?_
                rintro _ ⟨⟨w2, b2⟩, rfl⟩
                clear hlc
                go_wp2
                first
                  | exact ⟨⟨t + 1, by omega, by go_num, S, bnext hb b2⟩, by simp [intOf]; omega⟩
                  | (refine ⟨?_, by simp [intOf]; omega⟩; (repeat apply Exists.intro); first | exact ⟨⟨t + 1, by omega, by go_num, S, bnext hb b2⟩, rfl⟩ | exact ⟨⟨t + 1, by omega, by go_num, S, bnext hb b2⟩, rfl, rfl⟩ | exact ⟨⟨t + 1, by omega, by go_num, S, bnext hb b2⟩, rfl, rfl, rfl⟩ | exact ⟨⟨t + 1, by omega, by go_num, S, bnext hb b2⟩, rfl, rfl, rfl, rfl⟩ | exact ⟨⟨t + 1, by omega, by go_num, S, bnext hb b2⟩, rfl, rfl, rfl, rfl, rfl⟩ | exact ⟨⟨t + 1, by omega, by go_num, S, bnext hb b2⟩, rfl, rfl, rfl, rfl, rfl, rfl⟩ | exact ⟨⟨t + 1, by omega, by go_num, S, bnext hb b2⟩, rfl, rfl, rfl, rfl, rfl, rfl, rfl⟩ | exact ⟨⟨t + 1, by omega, by go_num, S, bnext hb b2⟩, rfl, rfl, rfl, rfl, rfl, rfl, rfl, rfl⟩ | exact ⟨⟨t + 1, by omega, by go_num, S, bnext hb b2⟩, rfl, rfl, rfl, rfl, rfl, rfl, rfl, rfl, rfl⟩ | exact ⟨⟨t + 1, by omega, by go_num, S, bnext hb b2⟩, rfl, rfl, rfl, rfl, rfl, rfl, rfl, rfl, rfl, rfl⟩ | exact ⟨⟨t + 1, by omega, by go_num, S, bnext hb b2⟩, rfl, rfl, rfl, rfl, rfl, rfl, rfl, rfl, rfl, rfl, rfl⟩ | exact ⟨⟨t + 1, by omega, by go_num, S, bnext hb b2⟩, rfl, rfl, rfl, rfl, rfl, rfl, rfl, rfl, rfl, rfl, rfl, rfl⟩ | exact ⟨⟨t + 1, by omega, by go_num, S, bnext hb b2⟩, rfl, rfl, rfl, rfl, rfl, rfl, rfl, rfl, rfl, rfl, rfl, rfl, rfl⟩ | exact ⟨⟨t + 1, by omega, by go_num, S, bnext hb b2⟩, rfl, rfl, rfl, rfl, rfl, rfl, rfl, rfl, rfl, rfl, rfl, rfl, rfl, rfl⟩ | exact ⟨⟨t + 1, by omega, by go_num, S, bnext hb b2⟩, rfl, rfl, rfl, rfl, rfl, rfl, rfl, rfl, rfl, rfl, rfl, rfl, rfl, rfl, rfl⟩)
            · have q5' : (r.tasks[t].state == 3) = false := beq_eq_false_iff_ne.2 q5
              have S := step (laid_ok hlt (fun h => absurd h q3) (fun h => absurd h q5))
              clear q3 q5 step
              go_wp2
              refine wp_region_pure (by kernel_rfl) (by kernel_rfl) ?_
              repeat (go_big_quiet_step ((go_at_call 26; exact pure_same (fun u => l01In_any _ _ _ u.1))))
              refine wpQuiet_nil ?_
              rintro _ ⟨⟨w2, b2⟩, rfl⟩
              clear hlc
              go_wp2
              first
                | exact ⟨⟨t + 1, by omega, by go_num, S, bnext hb b2⟩, by simp [intOf]; omega⟩
                | (refine ⟨?_, by simp [intOf]; omega⟩; (repeat apply Exists.intro); first | exact ⟨⟨t + 1, by omega, by go_num, S, bnext hb b2⟩, rfl⟩ | exact ⟨⟨t + 1, by omega, by go_num, S, bnext hb b2⟩, rfl, rfl⟩ | exact ⟨⟨t + 1, by omega, by go_num, S, bnext hb b2⟩, rfl, rfl, rfl⟩ | exact ⟨⟨t + 1, by omega, by go_num, S, bnext hb b2⟩, rfl, rfl, rfl, rfl⟩ | exact ⟨⟨t + 1, by omega, by go_num, S, bnext hb b2⟩, rfl, rfl, rfl, rfl, rfl⟩ | exact ⟨⟨t + 1, by omega, by go_num, S, bnext hb b2⟩, rfl, rfl, rfl, rfl, rfl, rfl⟩ | exact ⟨⟨t + 1, by omega, by go_num, S, bnext hb b2⟩, rfl, rfl, rfl, rfl, rfl, rfl, rfl⟩ | exact ⟨⟨t + 1, by omega, by go_num, S, bnext hb b2⟩, rfl, rfl, rfl, rfl, rfl, rfl, rfl, rfl⟩ | exact ⟨⟨t + 1, by omega, by go_num, S, bnext hb b2⟩, rfl, rfl, rfl, rfl, rfl, rfl, rfl, rfl, rfl⟩ | exact ⟨⟨t + 1, by omega, by go_num, S, bnext hb b2⟩, rfl, rfl, rfl, rfl, rfl, rfl, rfl, rfl, rfl, rfl⟩ | exact ⟨⟨t + 1, by omega, by go_num, S, bnext hb b2⟩, rfl, rfl, rfl, rfl, rfl, rfl, rfl, rfl, rfl, rfl, rfl⟩ | exact ⟨⟨t + 1, by omega, by go_num, S, bnext hb b2⟩, rfl, rfl, rfl, rfl, rfl, rfl, rfl, rfl, rfl, rfl, rfl, rfl⟩ | exact ⟨⟨t + 1, by omega, by go_num, S, bnext hb b2⟩, rfl, rfl, rfl, rfl, rfl, rfl, rfl, rfl, rfl, rfl, rfl, rfl, rfl⟩ | exact ⟨⟨t + 1, by omega, by go_num, S, bnext hb b2⟩, rfl, rfl, rfl, rfl, rfl, rfl, rfl, rfl, rfl, rfl, rfl, rfl, rfl, rfl⟩ | exact ⟨⟨t + 1, by omega, by go_num, S, bnext hb b2⟩, rfl, rfl, rfl, rfl, rfl, rfl, rfl, rfl, rfl, rfl, rfl, rfl, rfl, rfl, rfl⟩)
    · have hltI : ¬ (t : Int) < (r.tasks.length : Int) := by omega
      have H := Lib.hid (tf_true (show standP y.now r es from fun t' ht' => hok.out t' (by omega)))
      have R1 := R.below hb
      have hx0 : wr.cell? ⟨w.heap.size + 1, 7, none⟩ = some (.slice A5 r.tasks.length c5) := R1.cell 7 _ rfl
      have hx1 := R1.lt
      go_wp2
      go_ret
      exact ⟨ret_bool H.out.symm, bnext B0 hb⟩
end Go.Proofs.YtjobmbjadpldfaaGreat
end
section
namespace Go.Proofs.YtjobmbjadpldfaaGreat
open Go.RowKit
set_option maxRecDepth 100000
set_option maxHeartbeats 2000000
set_option linter.unusedVariables false
set_option linter.unusedSimpArgs false

theorem fin_st (s k : Int) (hk : k ≠ 0) : decide (s = k ∧ s ≠ 0) = (s == k) := by
  by_cases h : s = k
  · subst h; simp [hk]
  · simp [h]
theorem fin_st0 (s : Int) : decide (s = 0 ∧ s ≠ 0) = false := by simp
theorem runP_fin {r : Run} (h1 : inB r.id 1 9999 = true) (h2 : planFault r.plan = 0) (h3 : (r.tasks.length : Int) = r.plan.tasks) (h4 : ∀ t, t < r.tasks.length → taskP r t) :
    tf (runP r) = decide (r.state = stL r.tasks ∧ r.state ≠ 0) := by
  rw [Bool.eq_iff_iff, tf_iff, decide_eq_true_eq]
  unfold runP
  exact ⟨fun h => h.2.2.2.2, fun h => ⟨inB_iff.1 h1, h2, h3, h4, h⟩⟩
theorem runP_sum {r : Run} (h4 : ∀ t, t < r.tasks.length → taskP r t) : cntS r.tasks 1 + cntS r.tasks 2 + cntS r.tasks 3 + cntS r.tasks 4 + cntS r.tasks 5 + cntS r.tasks 6 = r.tasks.length := by
  have := cntS_all (l := r.tasks) (fun x hx => by
    obtain ⟨t, ht, rfl⟩ := List.getElem_of_mem hx
    have := (h4 t ht).1
    rwa [taskAt_get ht] at this)
  unfold restOf at this
  exact this

theorem implTasksLen_any (r : Run) (s : Sl × Sl) (st : Int) (w : World) (hl : r.tasks.length ≤ 2000000) (h : runD.rd w w.heap.size r s) :
    Calls Tryz.prog 89 #[runW r s, .int .i64 st] w fun e w' => ∃ A c, e = .returned (.slice A (cntS r.tasks st) c) ∧ Below w.heap.size w w' :=
  (implTasksIn_any r s st w hl h).mono fun e w' ⟨v, he, ho, hb⟩ => by
    obtain ⟨A, c, hv, -⟩ := id (Rd.of_own ho)
    rw [tasksIn_len] at hv
    exact ⟨A, c, by rw [he, hv], hb⟩

theorem implRunOk_any (r : Run) (s : Sl × Sl) (w : World) (hl : cntRun r ≤ 2000000) (h : runD.rd w w.heap.size r s) :
    Calls Tryz.prog 59 #[runW r s] w fun e w' => e = .returned (.bool (tf (runP r))) ∧ Below w.heap.size w w' := by
  have HR := Lib.hid (show ∀ W, Below w.heap.size w W → runD.rd W W.heap.size r s from fun W hW => runD.rd_more (runD.rd_below h hW) hW.size)
  obtain ⟨⟨A1, n1, c1⟩, ⟨A2, n2, c2⟩⟩ := s
  obtain rfl : n2 = r.tasks.length := RdL.at1 (s := ⟨A2, n2, c2⟩) h.2
  have h1 : Rd edgeE w w.heap.size (.slice A1 n1 c1) r.plan.edges := edge_rd h.1
  have hl1 : r.plan.edges.length ≤ 2000000 := Nat.le_trans (cntL_len cntEdge _) (by unfold cntRun cntPlan at hl; omega)
  have hl2 : r.tasks.length ≤ 2000000 := Nat.le_trans (cntL_len cntTask _) (by unfold cntRun at hl; omega)
  clear h hl
  have X := DBox.new 84 [.int .i64 r.id, .int .i64 r.plan.prio, .int .i64 r.plan.most, .int .i64 r.plan.wait, .int .i64 r.plan.tasks, .slice A1 n1 c1, .int .i64 r.state, .slice A2 r.tasks.length c2] w (b := w.heap.size) rfl
  have B0 : Below w.heap.size w (w.alloc (.cells #[.int .i64 r.id, .int .i64 r.plan.prio, .int .i64 r.plan.most, .int .i64 r.plan.wait, .int .i64 r.plan.tasks, .slice A1 n1 c1, .int .i64 r.state, .slice A2 r.tasks.length c2] 84)) := by repeat (first | exact Below.refl _ _ | refine Below.alloc ?_ (by simp <;> omega) _)
  have C1 := implPlanFault_any r.plan (.slice A1 n1 c1) (w.alloc (.cells #[.int .i64 r.id, .int .i64 r.plan.prio, .int .i64 r.plan.most, .int .i64 r.plan.wait, .int .i64 r.plan.tasks, .slice A1 n1 c1, .int .i64 r.state, .slice A2 r.tasks.length c2] 84)) hl1 ((h1.below B0).more B0.size)
  cases a1 : inB r.id 1 9999
  case false =>
    have H := Lib.hid (show tf (runP r) = false from tf_false (fun h => by have := inB_iff.2 h.1; rw [a1] at this; cases this))
    go_enter Tryz.func59, Tryz.ntmps59
    go_wp2_with (go_at_call 29; refine (within_any _ _ _ _).mono ?_; rintro e w' ⟨rfl, rfl⟩)
    go_ret
    exact ⟨ret_bool H.out.symm, B0⟩
  by_cases e2 : planFault r.plan = 0
  case neg =>
    have a2 : (planFault r.plan != 0) = true := by simp [e2]
    have H := Lib.hid (show tf (runP r) = false from tf_false (fun h => e2 h.2.1))
    clear e2
    go_enter Tryz.func59, Tryz.ntmps59
    go_wp2_with (first | (go_at_call 29; refine (within_any _ _ _ _).mono ?_; rintro e w' ⟨rfl, rfl⟩) | (go_at_call 87; refine C1.mono ?_; rintro e w1 ⟨rfl, b1⟩; have q1 := (bcell b1).1))
    go_ret
    exact ⟨ret_bool H.out.symm, bnext B0 b1⟩
  have E2 := Lib.hid e2
  rw [e2] at C1
  clear e2
  by_cases e3 : (r.tasks.length : Int) = r.plan.tasks
  case neg =>
    have a3 : ((r.tasks.length : Int) != r.plan.tasks) = true := by simp [e3]
    have H := Lib.hid (show tf (runP r) = false from tf_false (fun h => e3 h.2.2.1))
    clear e3
    go_enter Tryz.func59, Tryz.ntmps59
    have X_3 := X.cell 3 _ rfl
    have X_4 := X.cell 4 _ rfl
    have X_7 := X.cell 7 _ rfl
    have X_l := X.lt
    go_wp2_with fail
    go_wp2_with (first | (go_at_call 29; refine (within_any _ _ _ _).mono ?_; rintro e w' ⟨rfl, rfl⟩) | (go_at_call 87; refine C1.mono ?_; rintro e w1 ⟨rfl, b1⟩; have q1 := fun j => (bcell b1).1 w.heap.size j X_l))
    go_ret
    exact ⟨ret_bool H.out.symm, bnext B0 b1⟩
  have a3 : ((r.tasks.length : Int) != r.plan.tasks) = false := by simp [e3]
  have E3 := Lib.hid e3
  clear e3
  have X_l := X.lt
  go_enter Tryz.func59, Tryz.ntmps59
  go_wp2_with fail
  go_wp2_with (first | (go_at_call 29; refine (within_any _ _ _ _).mono ?_; rintro e w' ⟨rfl, rfl⟩) | (go_at_call 87; refine C1.mono ?_; rintro e w1 ⟨rfl, b1⟩; have q1 := fun j => (bcell b1).1 w.heap.size j X_l))
  clear q1
  replace X := X.below b1
  replace B0 := bnext B0 b1
  clear X_l C1 b1 a3
  have A1_ := Lib.hid a1
  clear a1
  go_loopw [30] (fun i wr => ∃ k : Nat, k ≤ r.tasks.length ∧ i = .int .i64 k ∧ Hid (∀ t, t < k → taskP r t) ∧ Below w1.heap.size w1 wr) (fun i _ => r.tasks.length - (intOf i).toNat)
  case atStart => exact ⟨0, Nat.zero_le _, rfl, fun t ht => absurd ht (by omega), Below.refl _ _⟩
  case round =>
    obtain ⟨k, hk, rfl, hok, hb⟩ := hrel
    replace X := X.below hb
    replace B0 := bnext B0 hb
    have X_0 := X.cell 0 _ rfl
    have X_1 := X.cell 1 _ rfl
    have X_2 := X.cell 2 _ rfl
    have X_3 := X.cell 3 _ rfl
    have X_4 := X.cell 4 _ rfl
    have X_5 := X.cell 5 _ rfl
    have X_6 := X.cell 6 _ rfl
    have X_7 := X.cell 7 _ rfl
    have X_l := X.lt
    by_cases hlt : k < r.tasks.length
    · have hltI : (k : Int) < (r.tasks.length : Int) := by omega
      have C := implTaskOk_any r (⟨A1, n1, c1⟩, ⟨A2, r.tasks.length, c2⟩) k wr E2.out E3.out hlt (HR.out _ B0)
      by_cases tk : taskP r k
      · have S : Hid (∀ t, t < k + 1 → taskP r t) := by
          intro t ht
          by_cases e : t = k
          · subst e; exact tk
          · exact hok.out t (by omega)
        rw [tf_true tk] at C
        clear tk
        go_wp2_with fail
        refine C.mono ?_
        rintro e w2 ⟨rfl, b2⟩
        go_wp2
        exact ⟨⟨k + 1, by omega, by go_num, S, bnext hb b2⟩, by simp [intOf]; omega⟩
      · have H := Lib.hid (show tf (runP r) = false from tf_false (fun h => tk (h.2.2.2.1 k hlt)))
        rw [tf_false tk] at C
        clear tk
        go_wp2_with fail
        refine C.mono ?_
        rintro e w2 ⟨rfl, b2⟩
        go_wp2
        go_ret
        exact ⟨ret_bool H.out.symm, bnext B0 b2⟩
    · have hltI : ¬ (k : Int) < (r.tasks.length : Int) := by omega
      have hk' : k = r.tasks.length := by omega
      subst hk'
      have HF := Lib.hid (runP_fin A1_.out E2.out E3.out hok.out)
      have HI := Lib.hid (stL_int r.tasks)
      have HSum := Lib.hid (runP_sum hok.out)
      go_wp2
      go_region_held3 (fun w' => w'.cell? ⟨w.heap.size, 0, none⟩ = some (.int .i64 r.id) ∧ w'.cell? ⟨w.heap.size, 1, none⟩ = some (.int .i64 r.plan.prio) ∧ w'.cell? ⟨w.heap.size, 2, none⟩ = some (.int .i64 r.plan.most) ∧ w'.cell? ⟨w.heap.size, 3, none⟩ = some (.int .i64 r.plan.wait) ∧ w'.cell? ⟨w.heap.size, 4, none⟩ = some (.int .i64 r.plan.tasks) ∧ w'.cell? ⟨w.heap.size, 5, none⟩ = some (.slice A1 n1 c1) ∧ w'.cell? ⟨w.heap.size, 6, none⟩ = some (.int .i64 r.state) ∧ w'.cell? ⟨w.heap.size, 7, none⟩ = some (.slice A2 r.tasks.length c2))
        (first | (refine ⟨?_, ?_, ?_, ?_, ?_, ?_, ?_, ?_⟩ <;> first | assumption | go_keep) | go_keep)
        (first
          | (go_at_call 89; (with_reducible refine (implTasksLen_any r (⟨A1, n1, c1⟩, ⟨A2, r.tasks.length, c2⟩) 4 _ hl2 (HR.out _ B0.drew)).mono ?_); rintro e w5 ⟨A5, c5, rfl, b5⟩; have B5 := bnext B0 (bnext ((Below.refl wr.heap.size wr).drew) b5); have X5 := X.below (bnext ((Below.refl wr.heap.size wr).drew) b5); have x50 := X5.cell 0 _ rfl; have x51 := X5.cell 1 _ rfl; have x52 := X5.cell 2 _ rfl; have x53 := X5.cell 3 _ rfl; have x54 := X5.cell 4 _ rfl; have x55 := X5.cell 5 _ rfl; have x56 := X5.cell 6 _ rfl; have x57 := X5.cell 7 _ rfl; have x5l := X5.lt)
          | (go_at_call 89; (with_reducible refine (implTasksLen_any r (⟨A1, n1, c1⟩, ⟨A2, r.tasks.length, c2⟩) 5 _ hl2 (HR.out _ B5)).mono ?_); rintro e w6 ⟨A6, c6, rfl, b6⟩; have B6 := bnext B5 b6; have X6 := X5.below b6; have x60 := X6.cell 0 _ rfl; have x61 := X6.cell 1 _ rfl; have x62 := X6.cell 2 _ rfl; have x63 := X6.cell 3 _ rfl; have x64 := X6.cell 4 _ rfl; have x65 := X6.cell 5 _ rfl; have x66 := X6.cell 6 _ rfl; have x67 := X6.cell 7 _ rfl; have x6l := X6.lt)
          | (go_at_call 89; (with_reducible refine (implTasksLen_any r (⟨A1, n1, c1⟩, ⟨A2, r.tasks.length, c2⟩) 6 _ hl2 (HR.out _ B6)).mono ?_); rintro e w7 ⟨A7, c7, rfl, b7⟩; have B7 := bnext B6 b7; have X7 := X6.below b7; have x70 := X7.cell 0 _ rfl; have x71 := X7.cell 1 _ rfl; have x72 := X7.cell 2 _ rfl; have x73 := X7.cell 3 _ rfl; have x74 := X7.cell 4 _ rfl; have x75 := X7.cell 5 _ rfl; have x76 := X7.cell 6 _ rfl; have x77 := X7.cell 7 _ rfl; have x7l := X7.lt))
      clear X_0 X_1 X_2 X_3 X_4 X_5 X_6 X_7 X_l x50 x51 x52 x53 x54 x55 x56 x57 x5l x60 x61 x62 x63 x64 x65 x66 x67 x6l
      have hsum : ((cntS r.tasks 1 : Nat) : Int) + (cntS r.tasks 2 : Nat) + (cntS r.tasks 3 : Nat) + (cntS r.tasks 4 : Nat) + (cntS r.tasks 5 : Nat) + (cntS r.tasks 6 : Nat) = r.tasks.length := by have := HSum.out; omega
      generalize hc1 : ((cntS r.tasks 1 : Nat) : Int) = c1' at *
      generalize hc2 : ((cntS r.tasks 2 : Nat) : Int) = c2' at *
      generalize hc3 : ((cntS r.tasks 3 : Nat) : Int) = c3' at *
      generalize hc4 : ((cntS r.tasks 4 : Nat) : Int) = c4' at *
      generalize hc5 : ((cntS r.tasks 5 : Nat) : Int) = c5' at *
      generalize hc6 : ((cntS r.tasks 6 : Nat) : Int) = c6' at *
      have m1 : 0 ≤ c1' := by omega
      have m2 : 0 ≤ c2' := by omega
      have m3 : 0 ≤ c3' := by omega
      have m4 : 0 ≤ c4' ∧ c4' ≤ 2000000 := by omega
      have m5 : 0 ≤ c5' ∧ c5' ≤ 2000000 := by omega
      have m6 : 0 ≤ c6' ∧ c6' ≤ 2000000 := by omega
      clear hc1 hc2 hc3 hc4 hc5 hc6
      have HV : Hid (tf (runP r) = decide (r.state = stI c1' c2' c3' c4' c5' c6' r.tasks.length ∧ r.state ≠ 0)) := by
        show tf (runP r) = _
        rw [HF.out, HI.out]
      clear HF HI
      generalize r.state = rs at *
      by_cases q1 : c4' = (r.tasks.length : Int)
      · have H := Lib.hid (show tf (runP r) = (rs == 2) by rw [HV.out]; unfold stI; rw [if_pos q1]; exact fin_st _ _ (by omega))
        have q1' : (c4' == (r.tasks.length : Int)) = true := beq_iff_eq.2 q1
        clear q1 hsum
        go_wp2
        go_ret
        exact ⟨ret_bool H.out.symm, B7⟩
      have q1' : (c4' == (r.tasks.length : Int)) = false := beq_eq_false_iff_ne.2 q1
      by_cases q2 : c4' + c5' + c6' = (r.tasks.length : Int)
      · have q2' : (c4' + c5' + c6' == (r.tasks.length : Int)) = true := beq_iff_eq.2 q2
        have r0 : c1' + c2' + c3' = 0 := by omega
        by_cases q3 : c5' = 1
        · have q3' : (c5' == 1) = true := beq_iff_eq.2 q3
          have q4' : (c5' == 0) = false := beq_eq_false_iff_ne.2 (by omega)
          have H := Lib.hid (show tf (runP r) = (rs == 3) by rw [HV.out]; unfold stI; rw [if_neg q1, if_pos ⟨q3, r0⟩]; exact fin_st _ _ (by omega))
          clear q1 q2 q3 hsum r0
          go_wp2
          go_ret
          exact ⟨ret_bool H.out.symm, B7⟩
        have q3' : (c5' == 1) = false := beq_eq_false_iff_ne.2 q3
        by_cases q4 : c5' = 0
        · have q4' : (c5' == 0) = true := beq_iff_eq.2 q4
          by_cases q5 : c6' = 0
          · exact absurd (show c4' = (r.tasks.length : Int) by omega) q1
          · have q5' : (c6' == 0) = false := beq_eq_false_iff_ne.2 q5
            have q6 : 0 < c6' := by omega
            have q6' : decide (0 < c6') = true := decide_eq_true q6
            have H := Lib.hid (show tf (runP r) = (rs == 4) by rw [HV.out]; unfold stI; rw [if_neg q1, if_neg (fun h => q3 h.1), if_pos ⟨q4, q6, r0⟩]; exact fin_st _ _ (by omega))
            clear q1 q2 q3 q4 q5 q6 hsum r0
            go_wp2
            go_ret
            exact ⟨ret_bool H.out.symm, B7⟩
        · have q4' : (c5' == 0) = false := beq_eq_false_iff_ne.2 q4
          have H := Lib.hid (show tf (runP r) = false by rw [HV.out]; unfold stI; rw [if_neg q1, if_neg (fun h => q3 h.1), if_neg (fun h => q4 h.1), if_neg (fun h => q4 h.1)]; exact fin_st0 _)
          clear q1 q2 q3 q4 hsum r0
          cases q7 : (rs == 1)
          all_goals
            go_wp2
            go_ret
            exact ⟨ret_bool H.out.symm, B7⟩
      · have q2' : (c4' + c5' + c6' == (r.tasks.length : Int)) = false := beq_eq_false_iff_ne.2 q2
        have r0 : ¬ c1' + c2' + c3' = 0 := by omega
        by_cases q4 : c5' = 0
        · have q4' : (c5' == 0) = true := beq_iff_eq.2 q4
          have q3' : (c5' == 1) = false := beq_eq_false_iff_ne.2 (by omega)
          by_cases q5 : c6' = 0
          · have q5' : (c6' == 0) = true := beq_iff_eq.2 q5
            have q6' : decide (0 < c6') = false := decide_eq_false (by omega)
            have H := Lib.hid (show tf (runP r) = (rs == 1) by rw [HV.out]; unfold stI; rw [if_neg q1, if_neg (fun h => r0 h.2), if_neg (fun h => r0 h.2.2), if_pos ⟨q4, q5⟩]; exact fin_st _ _ (by omega))
            clear q1 q2 q4 q5 hsum r0
            cases q7 : (rs == 1)
            all_goals
              rw [q7] at H
              go_wp2
              go_ret
              exact ⟨ret_bool H.out.symm, B7⟩
          · have q5' : (c6' == 0) = false := beq_eq_false_iff_ne.2 q5
            have q6' : decide (0 < c6') = true := decide_eq_true (by omega)
            have H := Lib.hid (show tf (runP r) = false by rw [HV.out]; unfold stI; rw [if_neg q1, if_neg (fun h => r0 h.2), if_neg (fun h => r0 h.2.2), if_neg (fun h => q5 h.2)]; exact fin_st0 _)
            clear q1 q2 q4 q5 hsum r0
            cases q7 : (rs == 1)
            all_goals
              go_wp2
              go_ret
              exact ⟨ret_bool H.out.symm, B7⟩
        · have q4' : (c5' == 0) = false := beq_eq_false_iff_ne.2 q4
          have H := Lib.hid (show tf (runP r) = false by rw [HV.out]; unfold stI; rw [if_neg q1, if_neg (fun h => r0 h.2), if_neg (fun h => r0 h.2.2), if_neg (fun h => q4 h.1)]; exact fin_st0 _)
          clear q1 q2 q4 hsum r0
          cases q7 : (rs == 1) <;> cases q3' : (c5' == 1)
          all_goals
            go_wp2
            go_ret
            exact ⟨ret_bool H.out.symm, B7⟩

theorem specRunOk_any (r : Run) (s : Sl × Sl) (w : World) (hl : cntRun r ≤ 2000000) (h : runD.rd w w.heap.size r s) :
    Calls Tryz.prog 50 #[runW r s] w fun e w' => e = .returned (.bool (tf (runP r))) ∧ Below w.heap.size w w' := by
  have HR := Lib.hid (show ∀ W, Below w.heap.size w W → runD.rd W W.heap.size r s from fun W hW => runD.rd_more (runD.rd_below h hW) hW.size)
  obtain ⟨⟨A1, n1, c1⟩, ⟨A2, n2, c2⟩⟩ := s
  obtain rfl : n2 = r.tasks.length := RdL.at1 (s := ⟨A2, n2, c2⟩) h.2
  have h1 : Rd edgeE w w.heap.size (.slice A1 n1 c1) r.plan.edges := edge_rd h.1
  have h2 : RdL taskD w w.heap.size (.slice A2 r.tasks.length c2) r.tasks := h.2
  have hl1 : r.plan.edges.length ≤ 2000000 := Nat.le_trans (cntL_len cntEdge _) (by unfold cntRun cntPlan at hl; omega)
  have hl2 : r.tasks.length ≤ 2000000 := Nat.le_trans (cntL_len cntTask _) (by unfold cntRun at hl; omega)
  clear h hl
  have X := DBox.new 84 [.int .i64 r.id, .int .i64 r.plan.prio, .int .i64 r.plan.most, .int .i64 r.plan.wait, .int .i64 r.plan.tasks, .slice A1 n1 c1, .int .i64 r.state, .slice A2 r.tasks.length c2] w (b := w.heap.size) rfl
  have B0 : Below w.heap.size w (w.alloc (.cells #[.int .i64 r.id, .int .i64 r.plan.prio, .int .i64 r.plan.most, .int .i64 r.plan.wait, .int .i64 r.plan.tasks, .slice A1 n1 c1, .int .i64 r.state, .slice A2 r.tasks.length c2] 84)) := by repeat (first | exact Below.refl _ _ | refine Below.alloc ?_ (by simp <;> omega) _)
  have C1 := specPlanFault_any r.plan (.slice A1 n1 c1) (w.alloc (.cells #[.int .i64 r.id, .int .i64 r.plan.prio, .int .i64 r.plan.most, .int .i64 r.plan.wait, .int .i64 r.plan.tasks, .slice A1 n1 c1, .int .i64 r.state, .slice A2 r.tasks.length c2] 84)) hl1 ((h1.below B0).more B0.size)
  have X_l := X.lt
  cases a1 : inB r.id 1 9999
  case false =>
    have H := Lib.hid (show tf (runP r) = false from tf_false (fun h => by have := inB_iff.2 h.1; rw [a1] at this; cases this))
    go_enter Tryz.func50, Tryz.ntmps50
    go_wp2_with (go_at_call 26; refine (l01In_any _ _ _ _).mono ?_; rintro e w' ⟨rfl, rfl⟩)
    go_ret
    exact ⟨ret_bool H.out.symm, B0⟩
  by_cases e2 : planFault r.plan = 0
  case neg =>
    have a2 : (planFault r.plan != 0) = true := by simp [e2]
    have H := Lib.hid (show tf (runP r) = false from tf_false (fun h => e2 h.2.1))
    clear e2
    go_enter Tryz.func50, Tryz.ntmps50
    go_wp2_with (first | (go_at_call 26; refine (l01In_any _ _ _ _).mono ?_; rintro e w' ⟨rfl, rfl⟩) | (go_at_call 80; refine C1.mono ?_; rintro e w1 ⟨rfl, b1⟩; have q1 := fun j => (bcell b1).1 w.heap.size j X_l))
    go_ret
    exact ⟨ret_bool H.out.symm, bnext B0 b1⟩
  have E2 := Lib.hid e2
  rw [e2] at C1
  clear e2
  by_cases e3 : (r.tasks.length : Int) = r.plan.tasks
  case neg =>
    have a3 : ((r.tasks.length : Int) != r.plan.tasks) = true := by simp [e3]
    have H := Lib.hid (show tf (runP r) = false from tf_false (fun h => e3 h.2.2.1))
    clear e3
    go_enter Tryz.func50, Tryz.ntmps50
    go_wp2_with (first | (go_at_call 26; refine (l01In_any _ _ _ _).mono ?_; rintro e w' ⟨rfl, rfl⟩) | (go_at_call 80; refine C1.mono ?_; rintro e w1 ⟨rfl, b1⟩; have q1 := fun j => (bcell b1).1 w.heap.size j X_l))
    go_ret
    exact ⟨ret_bool H.out.symm, bnext B0 b1⟩
  have a3 : ((r.tasks.length : Int) != r.plan.tasks) = false := by simp [e3]
  have E3 := Lib.hid e3
  clear e3
  go_enter Tryz.func50, Tryz.ntmps50
  go_wp2_with (first | (go_at_call 26; refine (l01In_any _ _ _ _).mono ?_; rintro e w' ⟨rfl, rfl⟩) | (go_at_call 80; refine C1.mono ?_; rintro e w1 ⟨rfl, b1⟩; have q1 := fun j => (bcell b1).1 w.heap.size j X_l))
  clear q1
  replace X := X.below b1
  replace B0 := bnext B0 b1
  clear X_l C1 b1 a3
  have A1_ := Lib.hid a1
  clear a1
  have X_0 := X.cell 0 _ rfl
  have X_1 := X.cell 1 _ rfl
  have X_2 := X.cell 2 _ rfl
  have X_3 := X.cell 3 _ rfl
  have X_4 := X.cell 4 _ rfl
  have X_5 := X.cell 5 _ rfl
  have X_6 := X.cell 6 _ rfl
  have X_7 := X.cell 7 _ rfl
  have X_l := X.lt
  go_loop [3] (fun i => ∃ k : Nat, k ≤ r.tasks.length ∧ i = .int .i64 k ∧ Hid (∀ t (ht : t < r.tasks.length), t < k → 1 ≤ r.tasks[t].state ∧ r.tasks[t].state ≤ 6)) (fun i => r.tasks.length - (intOf i).toNat)
  case atStart => exact ⟨0, Nat.zero_le _, rfl, fun t _ ht => absurd ht (by omega)⟩
  case round =>
    obtain ⟨k, hk, rfl, hok⟩ := hrel
    by_cases hlt : k < r.tasks.length
    · have hltI : (k : Int) < (r.tasks.length : Int) := by omega
      obtain ⟨b, o, _, rfl, hbb, _, d0, d1, d2, d3⟩ := (h2.below B0).task hlt
      cases tk : inB r.tasks[k].state 1 6
      · have H := Lib.hid (show tf (runP r) = false from tf_false (fun h => by
          have h3 := (h.2.2.2.1 k hlt).1
          rw [taskAt_get hlt] at h3
          have := inB_iff.2 h3
          rw [tk] at this
          cases this))
        go_wp2_with (go_at_call 26; refine (l01In_any _ _ _ _).mono ?_; rintro e w' ⟨rfl, rfl⟩)
        go_ret
        exact ⟨ret_bool H.out.symm, B0⟩
      · have S : Hid (∀ t (ht : t < r.tasks.length), t < k + 1 → 1 ≤ r.tasks[t].state ∧ r.tasks[t].state ≤ 6) := by
          intro t ht htk
          by_cases e : t = k
          · subst e; exact inB_iff.1 tk
          · exact hok.out t ht (by omega)
        go_wp2_with (go_at_call 26; refine (l01In_any _ _ _ _).mono ?_; rintro e w' ⟨rfl, rfl⟩)
        exact ⟨⟨k + 1, by omega, by go_num, S⟩, by simp [intOf]; omega⟩
    · have hltI : ¬ (k : Int) < (r.tasks.length : Int) := by omega
      have hk' : k = r.tasks.length := by omega
      subst hk'
      have HT := hok
      go_wp2
      clear X_0 X_1 X_2 X_3 X_4 X_5 X_6 X_7 X_l hok hlt hk hltI
      go_loopw [4] (fun i wr => ∃ k : Nat, k ≤ r.tasks.length ∧ i = .int .i64 k ∧ Hid (∀ t, t < k → taskP r t) ∧ Below w1.heap.size w1 wr) (fun i _ => r.tasks.length - (intOf i).toNat)
      case atStart => exact ⟨0, Nat.zero_le _, rfl, fun t ht => absurd ht (by omega), Below.refl _ _⟩
      case round =>
        obtain ⟨k, hk, rfl, hok, hb⟩ := hrel
        replace X := X.below hb
        replace B0 := bnext B0 hb
        have X_0 := X.cell 0 _ rfl
        have X_1 := X.cell 1 _ rfl
        have X_2 := X.cell 2 _ rfl
        have X_3 := X.cell 3 _ rfl
        have X_4 := X.cell 4 _ rfl
        have X_5 := X.cell 5 _ rfl
        have X_6 := X.cell 6 _ rfl
        have X_7 := X.cell 7 _ rfl
        have X_l := X.lt
        by_cases hlt : k < r.tasks.length
        · have hltI : (k : Int) < (r.tasks.length : Int) := by omega
          have C := specTask_any r (⟨A1, n1, c1⟩, ⟨A2, r.tasks.length, c2⟩) k wr E2.out E3.out hlt (HT.out k hlt hlt) (HR.out _ B0)
          by_cases tk : taskP r k
          · have S : Hid (∀ t, t < k + 1 → taskP r t) := by
              intro t ht
              by_cases e : t = k
              · subst e; exact tk
              · exact hok.out t (by omega)
            rw [tf_true tk] at C
            clear tk
            go_wp2_with fail
            refine C.mono ?_
            rintro e w2 ⟨rfl, b2⟩
            go_wp2
            exact ⟨⟨k + 1, by omega, by go_num, S, bnext hb b2⟩, by simp [intOf]; omega⟩
          · have H := Lib.hid (show tf (runP r) = false from tf_false (fun h => tk (h.2.2.2.1 k hlt)))
            rw [tf_false tk] at C
            clear tk
            go_wp2_with fail
            refine C.mono ?_
            rintro e w2 ⟨rfl, b2⟩
            go_wp2
            go_ret
            exact ⟨ret_bool H.out.symm, bnext B0 b2⟩
        · have hltI : ¬ (k : Int) < (r.tasks.length : Int) := by omega
          have hk' : k = r.tasks.length := by omega
          subst hk'
          have HF := Lib.hid (runP_fin A1_.out E2.out E3.out hok.out)
          have hlc := later_cell wr
          have C := fun u : Later wr => specState_any r (⟨A1, n1, c1⟩, ⟨A2, r.tasks.length, c2⟩) u.1 hl2 (fun x hx => by
            obtain ⟨t, ht, rfl⟩ := List.getElem_of_mem hx
            exact HT.out t ht ht) (HR.out _ (bnext B0 u.2))
          have C2 := Lib.hid C
          clear C
          generalize stL r.tasks = S at *
          have HG : Hid (tf (runP r) = ((r.state == S) && (r.state != 0))) := by
            show tf (runP r) = _
            rw [HF.out, Bool.eq_iff_iff]
            simp
          clear HF
          cases q1 : (r.state == S) <;> cases q2 : (r.state != 0)
          all_goals
            rw [q1, q2] at HG
            go_wp2
            refine wp_region_pure (by kernel_rfl) (by kernel_rfl) ?_
            repeat (go_big_quiet_step ((go_at_call 82; (with_reducible exact pure_at C2.out))))
            refine wpQuiet_nil ?_
            rintro _ ⟨⟨w2, b2⟩, rfl⟩
            clear hlc
            go_wp2
            go_ret
            exact ⟨ret_bool HG.out.symm, bnext B0 b2⟩
end Go.Proofs.YtjobmbjadpldfaaGreat
end
section
namespace Go.Proofs.YtjobmbjadpldfaaGreat
open Go.RowKit
set_option maxRecDepth 100000
set_option maxHeartbeats 2000000
set_option linter.unusedVariables false
set_option linter.unusedSimpArgs false

theorem slotsR_bound {y : Yard} (hl : cntYard y ≤ 2000000) (k : Nat) : slotsR (y.runs.take k) + y.runs.length ≤ 2000000 ∧ slotsR (y.runs.take k) + (entriesOf y).length ≤ 2000000 := by
  have h1 := slotsR_le (y.runs.take k)
  have h2 : ((y.runs.take k).map fun r => r.tasks.length).sum ≤ (y.runs.map fun r => r.tasks.length).sum := by
    conv => rhs; rw [← List.take_append_drop k y.runs, List.map_append, List.sum_append]
    omega
  have h3 : (y.runs.map fun r => r.tasks.length).sum + y.runs.length ≤ cntL cntRun y.runs := by
    unfold cntL
    have : ∀ l : List Run, (l.map fun r => r.tasks.length).sum ≤ (l.map cntRun).sum := by
      intro l
      induction l with
      | nil => simp
      | cons r l ih =>
        simp only [List.map_cons, List.sum_cons]
        have : r.tasks.length ≤ cntRun r := by unfold cntRun; have := cntL_len cntTask r.tasks; omega
        omega
    have := this y.runs
    omega
  have h4 := flat_take_le y.shelf y.shelf.length
  rw [List.take_length] at h4
  unfold cntYard at hl
  unfold entriesOf
  omega
theorem slots_le {y : Yard} (hl : cntYard y ≤ 2000000) : slotsOf y ≤ 2000000 := by
  have h1 := (slotsR_bound hl y.runs.length).2
  rw [List.take_length] at h1
  have h2 := staleN_le y (entriesOf y)
  unfold slotsOf
  omega

theorem implSlots_any (y : Yard) (s : Sl × Sl) (w : World) (hl : cntYard y ≤ 2000000) (h : yardD.rd w w.heap.size y s) :
    Calls Tryz.prog 62 #[yardW y s] w fun e w' => e = .returned (.int .i64 (slotsOf y : Nat)) ∧ Below w.heap.size w w' := by
  have HR := Lib.hid (show ∀ W, Below w.heap.size w W → yardD.rd W W.heap.size y s from fun W hW => yardD.rd_more (yardD.rd_below h hW) hW.size)
  obtain ⟨⟨A1, n1, c1⟩, ⟨A2, n2, c2⟩⟩ := s
  obtain rfl : n2 = y.runs.length := RdL.at1 (s := ⟨A2, n2, c2⟩) h.2
  have h2 : RdL runD w w.heap.size (.slice A2 y.runs.length c2) y.runs := h.2
  have hll : y.runs.length ≤ 2000000 := Nat.le_trans (cntL_len cntRun _) (by unfold cntYard at hl; omega)
  have HB := Lib.hid (slotsR_bound hl)
  have HD := Lib.hid (show slotsOf y = slotsR y.runs + staleN y (entriesOf y) from rfl)
  clear h
  have X := DBox.new 34 [.int .i64 y.now, .int .i64 y.seq, .slice A1 n1 c1, .slice A2 y.runs.length c2] w (b := w.heap.size) rfl
  have B0 : Below w.heap.size w (w.alloc (.cells #[.int .i64 y.now, .int .i64 y.seq, .slice A1 n1 c1, .slice A2 y.runs.length c2] 34)) := by repeat (first | exact Below.refl _ _ | refine Below.alloc ?_ (by simp <;> omega) _)
  have X_l := X.lt
  go_enter Tryz.func62, Tryz.ntmps62
  go_wp2
  generalize (w.alloc (.cells #[.int .i64 y.now, .int .i64 y.seq, .slice A1 n1 c1, .slice A2 y.runs.length c2] 34)) = W at *
  go_loopw [3, 11] (fun n i wr => ∃ k : Nat, k ≤ y.runs.length ∧ i = .int .i64 k ∧ n = .int .i64 (slotsR (y.runs.take k) : Nat) ∧ Below W.heap.size W wr) (fun _ i _ => y.runs.length - (intOf i).toNat)
  case atStart => exact ⟨0, Nat.zero_le _, rfl, rfl, Below.refl _ _⟩
  case round =>
    obtain ⟨k, hk, rfl, rfl, hb⟩ := hrel
    have hbd := (HB.out k).1
    by_cases hlt : k < y.runs.length
    · have hltI : (k : Int) < (y.runs.length : Int) := by omega
      obtain ⟨b, o, ⟨s1, ⟨At, nt, ct⟩⟩, rfl, hbb, hrr, c0_, c1_, c2_, c3_, c4_, c5_, c6_, c7_⟩ := (h2.below (bnext B0 hb)).run hlt
      obtain rfl : nt = y.runs[k].tasks.length := RdL.at1 (s := ⟨At, nt, ct⟩) hrr.2
      have hrt := cnt_run_tasks hl hlt
      have hs1 : b < wr.heap.size := Nat.lt_of_lt_of_le hbb (bnext B0 hb).size
      by_cases q : y.runs[k].state = 1
      · have S := Lib.hid (slotsR_yes hlt q)
        have q' : (y.runs[k].state == 1) = true := beq_iff_eq.2 q
        clear q
        go_wp2
        refine ⟨⟨k + 1, by omega, by go_num, by rw [S.out]; go_num, ?_⟩, by simp [intOf]; omega⟩
        exact bnext hb (by repeat (first | exact Below.refl _ _ | refine Below.alloc ?_ (by simp <;> omega) _))
      · have S := Lib.hid (slotsR_no hlt q)
        have q' : (y.runs[k].state == 1) = false := beq_eq_false_iff_ne.2 q
        clear q
        go_wp2
        refine ⟨⟨k + 1, by omega, by go_num, by rw [S.out], ?_⟩, by simp [intOf]; omega⟩
        exact bnext hb (by repeat (first | exact Below.refl _ _ | refine Below.alloc ?_ (by simp <;> omega) _))
    · have hltI : ¬ (k : Int) < (y.runs.length : Int) := by omega
      have hk' : k = y.runs.length := by omega
      subst hk'
      have hbe := (HB.out y.runs.length).2
      rw [List.take_length] at hbe hbd
      replace X := X.below hb
      replace B0 := bnext B0 hb
      clear X_l
      have X_0 := X.cell 0 _ rfl
      have X_1 := X.cell 1 _ rfl
      have X_2 := X.cell 2 _ rfl
      have X_3 := X.cell 3 _ rfl
      have X_l := X.lt
      have C := implEntries_any y (⟨A1, n1, c1⟩, ⟨A2, y.runs.length, c2⟩) wr hl (HR.out _ B0)
      have HW := Lib.hid (staleN_le y)
      generalize entriesOf y = L at *
      go_wp2_with fail
      refine C.mono ?_
      rintro e w2 ⟨v, rfl, o2, b2⟩
      obtain ⟨A3, c3, rfl, -⟩ := id (Rd.of_own o2)
      replace X := X.below b2
      replace B0 := bnext B0 b2
      clear X_0 X_1 X_2 X_3 X_l
      go_wp2
      generalize slotsR y.runs = M at *
      go_loopw [3, 27] (fun n i wr => ∃ k : Nat, k ≤ L.length ∧ i = .int .i64 k ∧ n = .int .i64 ((M + staleN y (L.take k) : Nat)) ∧ Below w2.heap.size w2 wr) (fun _ i _ => L.length - (intOf i).toNat)
      case atStart => exact ⟨0, Nat.zero_le _, rfl, by simp [staleN], Below.refl _ _⟩
      case round =>
        obtain ⟨k, hk, rfl, rfl, hb2⟩ := hrel
        have hst := HW.out (L.take k)
        rw [List.length_take] at hst
        replace X := X.below hb2
        have X_0 := X.cell 0 _ rfl
        have X_1 := X.cell 1 _ rfl
        have X_2 := X.cell 2 _ rfl
        have X_3 := X.cell 3 _ rfl
        have X_l := X.lt
        by_cases hlt : k < L.length
        · have hltI : (k : Int) < (L.length : Int) := by omega
          obtain ⟨b, o, _, hA3, hbb, _, d0, d1, d2, d3⟩ := RdL.entry (ent_rdL (Rd.of_own (o2.below hb2))) hlt
          subst hA3
          have ha : Below wr.heap.size wr (wr.alloc (.cells #[.int .i64 L[k].prio, .int .i64 L[k].seq, .int .i64 L[k].run, .int .i64 L[k].task] 96)) := (Below.refl _ _).alloc (Nat.le_refl _) _
          have C := implFresh_any y (⟨A1, n1, c1⟩, ⟨A2, y.runs.length, c2⟩) L[k] _ hl (HR.out _ (bnext (bnext B0 hb2) ha))
          have HY := Lib.hid (staleN_yes (y := y) hlt)
          have HN := Lib.hid (staleN_no (y := y) hlt)
          cases q : freshB y L[k]
          · have S := Lib.hid (HY.out q)
            rw [q] at C
            go_wp2_with fail
            refine C.mono ?_
            rintro e w3 ⟨rfl, b3⟩
            go_wp2
            exact ⟨⟨k + 1, by omega, by go_num, by rw [S.out]; go_num, bnext (bnext hb2 ha) b3⟩, by simp [intOf]; omega⟩
          · have S := Lib.hid (HN.out q)
            rw [q] at C
            go_wp2_with fail
            refine C.mono ?_
            rintro e w3 ⟨rfl, b3⟩
            go_wp2
            exact ⟨⟨k + 1, by omega, by go_num, by rw [S.out]; go_num, bnext (bnext hb2 ha) b3⟩, by simp [intOf]; omega⟩
        · have hltI : ¬ (k : Int) < (L.length : Int) := by omega
          have hk' : k = L.length := by omega
          subst hk'
          go_wp2
          go_ret
          exact ⟨ret_int (by have := HD.out; omega), bnext B0 hb2⟩

theorem specSlots_any (y : Yard) (s : Sl × Sl) (w : World) (hl : cntYard y ≤ 2000000) (h : yardD.rd w w.heap.size y s) :
    Calls Tryz.prog 54 #[yardW y s] w fun e w' => e = .returned (.int .i64 (slotsOf y : Nat)) ∧ Below w.heap.size w w' := by
  have HR := Lib.hid (show ∀ W, Below w.heap.size w W → yardD.rd W W.heap.size y s from fun W hW => yardD.rd_more (yardD.rd_below h hW) hW.size)
  obtain ⟨⟨A1, n1, c1⟩, ⟨A2, n2, c2⟩⟩ := s
  obtain rfl : n1 = y.shelf.length := RdL.at1 (s := ⟨A1, n1, c1⟩) h.1
  obtain rfl : n2 = y.runs.length := RdL.at1 (s := ⟨A2, n2, c2⟩) h.2
  have h1 : RdL (Dt.list entryD) w w.heap.size (.slice A1 y.shelf.length c1) y.shelf := h.1
  have h2 : RdL runD w w.heap.size (.slice A2 y.runs.length c2) y.runs := h.2
  have hll : y.runs.length ≤ 2000000 := Nat.le_trans (cntL_len cntRun _) (by unfold cntYard at hl; omega)
  have hls : y.shelf.length ≤ 2000000 := Nat.le_trans (cntL_len cntEntryS _) (by unfold cntYard at hl; omega)
  have HE := Lib.hid (show ∀ k (hk : k < y.shelf.length), y.shelf[k].length ≤ 2000000 from fun k hk => by
    have := cntL_mem (cnt := cntEntryS) (List.getElem_mem hk)
    have h2 : y.shelf[k].length ≤ cntEntryS y.shelf[k] := cntL_len cntEntry _
    unfold cntYard at hl
    omega)
  have HB := Lib.hid (slotsR_bound hl)
  have HD := Lib.hid (show slotsOf y = slotsR y.runs + staleN y y.shelf.flatten from rfl)
  have HW := Lib.hid (show ∀ k, slotsR y.runs + staleN y (y.shelf.take k).flatten ≤ 4000000 from fun k => by
    have h3 := (slotsR_bound hl y.runs.length).2
    rw [List.take_length] at h3
    have h4 := flat_take_le y.shelf k
    have h5 := staleN_le y (y.shelf.take k).flatten
    unfold cntYard at hl
    omega)
  clear h
  have X := DBox.new 34 [.int .i64 y.now, .int .i64 y.seq, .slice A1 y.shelf.length c1, .slice A2 y.runs.length c2] w (b := w.heap.size) rfl
  have B0 : Below w.heap.size w (w.alloc (.cells #[.int .i64 y.now, .int .i64 y.seq, .slice A1 y.shelf.length c1, .slice A2 y.runs.length c2] 34)) := by repeat (first | exact Below.refl _ _ | refine Below.alloc ?_ (by simp <;> omega) _)
  go_enter Tryz.func54, Tryz.ntmps54
  go_wp2
  generalize (w.alloc (.cells #[.int .i64 y.now, .int .i64 y.seq, .slice A1 y.shelf.length c1, .slice A2 y.runs.length c2] 34)) = W at *
  have X_0 := X.cell 0 _ rfl
  have X_1 := X.cell 1 _ rfl
  have X_2 := X.cell 2 _ rfl
  have X_3 := X.cell 3 _ rfl
  have X_l := X.lt
  go_loop [3, 4] (fun n i => ∃ k : Nat, k ≤ y.runs.length ∧ i = .int .i64 k ∧ n = .int .i64 (slotsR (y.runs.take k) : Nat)) (fun _ i => y.runs.length - (intOf i).toNat)
  case atStart => exact ⟨0, Nat.zero_le _, rfl, rfl⟩
  case round =>
    obtain ⟨k, hk, rfl, rfl⟩ := hrel
    have hbd := (HB.out k).1
    by_cases hlt : k < y.runs.length
    · have hltI : (k : Int) < (y.runs.length : Int) := by omega
      obtain ⟨b, o, ⟨s1, ⟨At, nt, ct⟩⟩, rfl, hbb, hrr, c0_, c1_, c2_, c3_, c4_, c5_, c6_, c7_⟩ := (h2.below B0).run hlt
      obtain rfl : nt = y.runs[k].tasks.length := RdL.at1 (s := ⟨At, nt, ct⟩) hrr.2
      have hrt := cnt_run_tasks hl hlt
      by_cases q : y.runs[k].state = 1
      · have S := Lib.hid (slotsR_yes hlt q)
        have q' : (y.runs[k].state == 1) = true := beq_iff_eq.2 q
        clear q
        go_wp2
        exact ⟨⟨k + 1, by omega, by go_num, by rw [S.out]; go_num⟩, by simp [intOf]; omega⟩
      · have S := Lib.hid (slotsR_no hlt q)
        have q' : (y.runs[k].state == 1) = false := beq_eq_false_iff_ne.2 q
        clear q
        go_wp2
        exact ⟨⟨k + 1, by omega, by go_num, by rw [S.out]⟩, by simp [intOf]; omega⟩
    · have hltI : ¬ (k : Int) < (y.runs.length : Int) := by omega
      have hk' : k = y.runs.length := by omega
      subst hk'
      have HS := Lib.hid (show slotsR (y.runs.take y.runs.length) = slotsR y.runs by rw [List.take_length])
      go_wp2
      clear X_0 X_1 X_2 X_3 X_l hbd hlt hk hltI
      go_loopw [3, 5] (fun n i wr => ∃ k : Nat, k ≤ y.shelf.length ∧ i = .int .i64 k ∧ n = .int .i64 (slotsR y.runs + staleN y (y.shelf.take k).flatten : Nat) ∧ Below W.heap.size W wr) (fun _ i _ => y.shelf.length - (intOf i).toNat)
      case atStart => exact ⟨0, Nat.zero_le _, rfl, by simp [staleN], Below.refl _ _⟩
      case round =>
        obtain ⟨k, hk, rfl, rfl, hb⟩ := hrel
        have hwk := HW.out k
        by_cases hlt : k < y.shelf.length
        · have hltI : (k : Int) < (y.shelf.length : Int) := by omega
          have hez := HE.out k hlt
          have hfl := Lib.hid (flat_take_succ y.shelf k hlt)
          have hwk1 := HW.out (k + 1)
          rw [hfl.out, staleN_append] at hwk1
          have HWj := Lib.hid (show ∀ j, staleN y (y.shelf[k].take j) ≤ y.shelf[k].length from fun j => Nat.le_trans (staleN_le _ _) (by rw [List.length_take]; omega))
          have X1 := X.below hb
          have hx0 : wr.cell? ⟨w.heap.size, 2, none⟩ = some (.slice A1 y.shelf.length c1) := X1.cell 2 _ rfl
          have hx1 := X1.lt
          go_wp2
          clear hx0 hx1 X1
          go_loopw [3, 6] (fun n i wq => ∃ j : Nat, j ≤ y.shelf[k].length ∧ i = .int .i64 j ∧ n = .int .i64 (slotsR y.runs + staleN y (y.shelf.take k).flatten + staleN y (y.shelf[k].take j) : Nat) ∧ Below W.heap.size W wq) (fun _ i _ => y.shelf[k].length - (intOf i).toNat)
          case atStart => exact ⟨0, Nat.zero_le _, rfl, by simp [staleN], hb⟩
          case round =>
            clear hb
            obtain ⟨j, hj, rfl, rfl, hb⟩ := hrel
            have hsj := HWj.out j
            have X := X.below hb
            have X_0 := X.cell 0 _ rfl
            have X_1 := X.cell 1 _ rfl
            have X_2 := X.cell 2 _ rfl
            have X_3 := X.cell 3 _ rfl
            have X_l := X.lt
            obtain ⟨b, o, ⟨As, ns, cs⟩, hA1, hbb, hr, d0⟩ := (h1.below (bnext B0 hb)).entryS hlt
            obtain rfl : ns = y.shelf[k].length := RdL.at1 (s := ⟨As, ns, cs⟩) hr
            subst hA1
            have hs1 : b < wr.heap.size := Nat.lt_of_lt_of_le hbb (bnext B0 hb).size
            by_cases hjt : j < y.shelf[k].length
            · have hjI : (j : Int) < (y.shelf[k].length : Int) := by omega
              obtain ⟨b2, o2, _, hAs, hbb2, _, f0, f1, f2, f3⟩ := RdL.entry hr hjt
              subst hAs
              have hs2 : b2 < wr.heap.size := Nat.lt_of_lt_of_le hbb2 (bnext B0 hb).size
              have hlc := later_cell wr
              have C := Lib.hid (show ∀ u : Later wr, _ from fun u => specFresh_any y (⟨some ⟨b, o, none⟩, y.shelf.length, c1⟩, ⟨A2, y.runs.length, c2⟩) y.shelf[k][j] u.1 hl (HR.out _ (bnext (bnext B0 hb) u.2)))
              have HY := Lib.hid (staleN_yes (y := y) hjt)
              have HN := Lib.hid (staleN_no (y := y) hjt)
              cases q : freshB y y.shelf[k][j]
              · have S := Lib.hid (HY.out q)
                rw [q] at C
                go_wp2
                refine wp_region_pure (by kernel_rfl) (by kernel_rfl) ?_
                repeat (go_big_quiet_step ((go_at_call 83; (with_reducible exact pure_at C.out))))
                refine wpQuiet_nil ?_
                rintro _ ⟨⟨w3, b3⟩, rfl⟩
                clear hlc
                go_wp2
                exact ⟨⟨j + 1, by omega, by go_num, by rw [S.out]; go_num, bnext hb b3⟩, by simp [intOf]; omega⟩
              · have S := Lib.hid (HN.out q)
                rw [q] at C
                go_wp2
                refine wp_region_pure (by kernel_rfl) (by kernel_rfl) ?_
                repeat (go_big_quiet_step ((go_at_call 83; (with_reducible exact pure_at C.out))))
                refine wpQuiet_nil ?_
                rintro _ ⟨⟨w3, b3⟩, rfl⟩
                clear hlc
                go_wp2
                exact ⟨⟨j + 1, by omega, by go_num, by rw [S.out]; go_num, bnext hb b3⟩, by simp [intOf]; omega⟩
            · have hjI : ¬ (j : Int) < (y.shelf[k].length : Int) := by omega
              have hj' : j = y.shelf[k].length := by omega
              subst hj'
              have S := Lib.hid (show slotsR y.runs + staleN y (y.shelf.take (k + 1)).flatten = slotsR y.runs + staleN y (y.shelf.take k).flatten + staleN y (y.shelf[k].take y.shelf[k].length) by rw [hfl.out, staleN_append, List.take_length]; omega)
              go_wp2
              exact ⟨⟨k + 1, by omega, by go_num, by rw [S.out], hb⟩, by simp [intOf]; omega⟩
        · have hltI : ¬ (k : Int) < (y.shelf.length : Int) := by omega
          have hk' : k = y.shelf.length := by omega
          subst hk'
          have X1 := X.below hb
          have hx0 : wr.cell? ⟨w.heap.size, 2, none⟩ = some (.slice A1 y.shelf.length c1) := X1.cell 2 _ rfl
          have hx1 := X1.lt
          go_wp2
          go_ret
          exact ⟨ret_int (by have := HD.out; omega), bnext B0 hb⟩
end Go.Proofs.YtjobmbjadpldfaaGreat
end
