/-
  RunLeft of the reference. Holds and l13Ask of the reference. Fail of the reference. RoomFor of the reference. RunFails: a right run stays right; what a yard keeps where runs of it are turned. The plain facts of Tick and Restart. RunDone: its plain facts. What a worker is handed out: the plain facts of Poll. RunDone of the reference. A shelf or a run of one's own yard is laid anew. Swept of the reference.
-/
import Derived.Test.YtonlnjdempbfoaaZParts7
section
namespace Go.Proofs.Ytonlnjdempbfoaa
open Go.RowKit
set_option maxRecDepth 100000
set_option maxHeartbeats 2000000
set_option linter.unusedVariables false
set_option linter.unusedSimpArgs false
theorem RunLeft_res {b : Nat} {w : World} {u0 u1 u2 u3 u4 u5 u6 u7 : Value} (X : DBox b [u0, u1, u2, u3, u4, u5, u6, u7] w) {v0 v1 : Value} {rest : List Value} :
  (results Try.f78 (v0 :: v1 :: .pointer (some ⟨b, 0, none⟩) :: rest).toArray).run Try.prog w = .ok (.agg #[u0, u1, u2, u3, u4, u5, u6, u7]) w := by
 have c0 := X.cell 0 _ rfl
 have c1 := X.cell 1 _ rfl
 have c2 := X.cell 2 _ rfl
 have c3 := X.cell 3 _ rfl
 have c4 := X.cell 4 _ rfl
 have c5 := X.cell 5 _ rfl
 have c6 := X.cell 6 _ rfl
 have c7 := X.cell 7 _ rfl
 simp [results, Try.results78, go_sem, c0, c1, c2, c3, c4, c5, c6, c7]
theorem specLeft_own (r : Run) (s : Sl × Sl) (w : World) (hl : cntRun r ≤ 2000000) (hR : runP r) (hS : r.state = 1) (hp : 0 < r.tasks.length) (h : runD.rd w w.heap.size r s) :
  Calls Try.prog 78 #[runW r s] w (OwnPost runD runW (leaveR r 4) w) := by
 have CP := Lib.hid (fun W (hW : Below w.heap.size w W) => specCopyRun_own r s W hl (runD.rd_more (runD.rd_below h hW) hW.size))
 have CR := Lib.hid (fun W (hW : Below w.heap.size w W) => specRunOk_any r s W hl (runD.rd_more (runD.rd_below h hW) hW.size))
 rw [tf_true hR] at CR
 have hlen : r.tasks.length ≤ 2000000 := Nat.le_trans (cntL_len cntTask _) (by unfold cntRun at hl; omega)
 obtain ⟨⟨A1, n1, c1⟩, ⟨A2, n2, c2⟩⟩ := s
 obtain rfl : n2 = r.tasks.length := RdL.at1 (s := ⟨A2, n2, c2⟩) h.2
 clear h hl hR
 have hs1 : (r.state != 1) = false := by simp [hS]
 clear hS
 have X := (DBox.new 98 [.int .i64 r.id, .int .i64 r.plan.prio, .int .i64 r.plan.most, .int .i64 r.plan.wait, .int .i64 r.plan.tasks, .slice A1 n1 c1, .int .i64 r.state, .slice A2 r.tasks.length c2] w (b := w.heap.size) rfl).below ((Below.refl _ _).alloc (Nat.le_refl _) (.cells #[.int .i64 0, .int .i64 0, .int .i64 0, .int .i64 0, .int .i64 0, .slice none 0 0, .int .i64 0, .slice none 0 0] 98))
 have RES := DBox.new 98 [.int .i64 0, .int .i64 0, .int .i64 0, .int .i64 0, .int .i64 0, .slice none 0 0, .int .i64 0, .slice none 0 0] (w.alloc (.cells #[.int .i64 r.id, .int .i64 r.plan.prio, .int .i64 r.plan.most, .int .i64 r.plan.wait, .int .i64 r.plan.tasks, .slice A1 n1 c1, .int .i64 r.state, .slice A2 r.tasks.length c2] 98)) (b := w.heap.size + 1) (by simp)
 have B0 : Below w.heap.size w ((w.alloc (.cells #[.int .i64 r.id, .int .i64 r.plan.prio, .int .i64 r.plan.most, .int .i64 r.plan.wait, .int .i64 r.plan.tasks, .slice A1 n1 c1, .int .i64 r.state, .slice A2 r.tasks.length c2] 98)).alloc (.cells #[.int .i64 0, .int .i64 0, .int .i64 0, .int .i64 0, .int .i64 0, .slice none 0 0, .int .i64 0, .slice none 0 0] 98)) := by repeat (first | exact Below.refl _ _ | refine Below.alloc ?_ (by simp <;> omega) _)
 go_enter Try.func78, Try.ntmps78
 go_wp2_with fail
 refine (CP.out _ B0).mono ?_
 rintro e w1 ⟨⟨⟨A3, n3, c3⟩, ⟨A4, n4, c4⟩⟩, F, rfl, o1, nF, b1⟩
 obtain ⟨F1, F2, rfl, hnd, op, ot⟩ := o1
 replace ot : OwL taskD w1 F2 (.slice A4 n4 c4) r.tasks := ot
 obtain rfl : n4 = r.tasks.length := RdL.at1 (s := ⟨A4, n4, c4⟩) ot.rd
 have oh := task_hw ot
 clear ot CP
 obtain ⟨b, o, rfl, hbb, d0, d1, d2, d3⟩ := oh.rd.tsk hp
 clear d0 d1 d2 d3
 have hBw := B0.size
 obtain ⟨rfl, hbw, hbf⟩ := oh.block hp
 have hbn := nF b (by simp)
 have hXl := X.lt
 have hRl := RES.lt
 replace B0 := bnext B0 b1
 replace X := X.below b1
 replace RES := RES.below b1
 clear b1
 go_upto_region 2 with fail
 have OB := DBox.new 98 [.int .i64 r.id, .int .i64 r.plan.prio, .int .i64 r.plan.most, .int .i64 r.plan.wait, .int .i64 r.plan.tasks, .slice A3 n3 c3, .int .i64 r.state, .slice (some ⟨b, o, none⟩) r.tasks.length c4] w1 (b := w1.heap.size) rfl
 have b2 : Below w1.heap.size w1 (w1.alloc (.cells #[.int .i64 r.id, .int .i64 r.plan.prio, .int .i64 r.plan.most, .int .i64 r.plan.wait, .int .i64 r.plan.tasks, .slice A3 n3 c3, .int .i64 r.state, .slice (some ⟨b, o, none⟩) r.tasks.length c4] 98)) := (Below.refl _ _).alloc (Nat.le_refl _) _
 have B2 := bnext B0 b2
 replace X := X.below b2
 replace RES := RES.below b2
 replace oh := oh.below b2
 have op2 := planD.ow_below op b2
 have hs2 := b2.size
 have ow1 := OB.lt
 clear op
 generalize w1.alloc (.cells #[.int .i64 r.id, .int .i64 r.plan.prio, .int .i64 r.plan.most, .int .i64 r.plan.wait, .int .i64 r.plan.tasks, .slice A3 n3 c3, .int .i64 r.state, .slice (some ⟨b, o, none⟩) r.tasks.length c4] 98) = w2 at *
 obtain ⟨X_0, X_1, X_2, X_3, X_4, X_5, X_6, X_7, X_l⟩ := X.g8
 go_wp2_with fail
 refine (CR.out _ B2).mono ?_
 rintro e w3 ⟨rfl, b3⟩
 have B3 := bnext B2 b3
 clear X_0 X_1 X_2 X_3 X_4 X_5 X_6 X_7 X_l
 replace X := X.below b3
 replace RES := RES.below b3
 replace OB := OB.below b3
 replace oh := oh.below b3
 have op3 := planD.ow_below op2 b3
 have hs3 := b3.size
 clear op2 CR b3
 obtain ⟨X_0, X_1, X_2, X_3, X_4, X_5, X_6, X_7, X_l⟩ := X.g8
 obtain ⟨OB_0, OB_1, OB_2, OB_3, OB_4, OB_5, OB_6, OB_7, OB_l⟩ := OB.g8
 have hbF1 : b ∉ F1 := fun hx => (List.nodup_append.1 hnd).2.2 b hx b (by simp) rfl
 have CL := Lib.hid (specLeave_own r ⟨A3, n3, c3⟩ 4 b o c4 [b] w3 hlen hp oh)
 unfold LeavePost at CL
 go_wp2_with fail
 refine CL.out.mono ?_
 rintro e w7 ⟨rfl, oh7, c7⟩
 have op7 := planD.ow_chg op3 c7 (fun x hx h => by simp only [List.mem_singleton] at h; subst h; exact hbF1 hx)
 have B7 : Below w.heap.size w w7 := B3.trans (c7.below (by omega) (fun x hx => by simp only [List.mem_singleton] at hx; omega))
 clear OB_0 OB_1 OB_2 OB_3 OB_4 OB_5 OB_6 OB_7 OB_l
 clear X_0 X_1 X_2 X_3 X_4 X_5 X_6 X_7 X_l
 replace RES := RES.chg c7 (by simp only [List.mem_singleton]; omega)
 obtain ⟨RES_0, RES_1, RES_2, RES_3, RES_4, RES_5, RES_6, RES_7, RES_l⟩ := RES.g8
 have rf := RES.free
 go_wp2
 refine bodyPost_ret (RunLeft_res (DBox.row8 RES rfl _ _ _ _ _ _ _ _)) rfl ⟨(⟨A3, n3, c3⟩, ⟨some ⟨b, o, none⟩, r.tasks.length, c4⟩), F1 ++ [b], rfl, ⟨F1, [b], rfl, hnd, ?_, ?_⟩, ?_, ?_⟩
 ·have e2 : w.heap.size + 1 ∉ F1 := fun hx => by have := nF _ (List.mem_append_left _ hx); omega
  show planD.ow _ F1 r.plan _
  exact (by (repeat (refine Dt.ow_set planD ?_ e2 _)); exact op7)
 ·have e1 : w.heap.size + 1 ∉ [b] := by simp only [List.mem_singleton]; omega
  show OwL taskD _ [b] _ (leaveR r 4).tasks
  exact task_owl ((((((((oh7.set (a := ⟨w.heap.size + 1, _, none⟩) e1 _).set (a := ⟨w.heap.size + 1, _, none⟩) e1 _).set (a := ⟨w.heap.size + 1, _, none⟩) e1 _).set (a := ⟨w.heap.size + 1, _, none⟩) e1 _).set (a := ⟨w.heap.size + 1, _, none⟩) e1 _).set (a := ⟨w.heap.size + 1, _, none⟩) e1 _).set (a := ⟨w.heap.size + 1, _, none⟩) e1 _).set (a := ⟨w.heap.size + 1, _, none⟩) e1 _)
 ·intro x hx
  have := nF x hx
  omega
 ·repeat (first | (with_reducible exact B7) | refine Below.setCell ?_ (by simp <;> omega) _)
end Go.Proofs.Ytonlnjdempbfoaa
end
section
namespace Go.Proofs.Ytonlnjdempbfoaa
open Go.RowKit
set_option maxRecDepth 100000
set_option maxHeartbeats 2000000
set_option linter.unusedVariables false
set_option linter.unusedSimpArgs false
/-- a task of a run is handed out, in that try -/
def holdsP (y : Yard) (id task try_ : Int) : Prop :=
 0 ≤ runAt y id ∧ (0 ≤ task ∧ task < (runK y id).tasks.length) ∧ (taskAt (runK y id) task.toNat).state = 3 ∧ (taskAt (runK y id) task.toNat).try_ = try_
theorem specHolds_any (y : Yard) (s : Sl × Sl) (id tk tr : Int) (w : World) (hl : cntYard y ≤ 2000000) (h : yardD.rd w w.heap.size y s) :
  Calls Try.prog 90 #[yardW y s, .int .i64 id, .int .i64 tk, .int .i64 tr] w fun e' w' => e' = .returned (.bool (tf (holdsP y id tk tr))) ∧ Below w.heap.size w w' := by
 have HR := Lib.hid (show ∀ W, Below w.heap.size w W → yardD.rd W W.heap.size y s from fun W hW => yardD.rd_more (yardD.rd_below h hW) hW.size)
 obtain ⟨⟨A1, n1, c1⟩, ⟨A2, n2, c2⟩⟩ := s
 obtain rfl : n2 = y.runs.length := RdL.at1 (s := ⟨A2, n2, c2⟩) h.2
 have h2 : RdL runD w w.heap.size (.slice A2 y.runs.length c2) y.runs := h.2
 have hll : y.runs.length ≤ 2000000 := Nat.le_trans (cntL_len cntRun _) (by unfold cntYard at hl; omega)
 have X := DBox.new 61 [.int .i64 y.now, .int .i64 y.seq, .slice A1 n1 c1, .slice A2 y.runs.length c2] w (b := w.heap.size) rfl
 have B0 : Below w.heap.size w (w.alloc (.cells #[.int .i64 y.now, .int .i64 y.seq, .slice A1 n1 c1, .slice A2 y.runs.length c2] 61)) := by repeat (first | exact Below.refl _ _ | refine Below.alloc ?_ (by simp <;> omega) _)
 have C := specRunAt_own y (⟨A1, n1, c1⟩, ⟨A2, y.runs.length, c2⟩) id (w.alloc (.cells #[.int .i64 y.now, .int .i64 y.seq, .slice A1 n1 c1, .slice A2 y.runs.length c2] 61)) hl (HR.out _ B0)
 clear h
 rcases runAt_range y id with hr | ⟨k, hk, hr⟩
 ·have H := Lib.hid (show tf (holdsP y id tk tr) = false from tf_false (fun hh => by have := hh.1; omega))
  rw [hr] at C
  clear hr
  go_enter Try.func90, Try.ntmps90
  go_wp2_with fail
  generalize (w.alloc (.cells #[.int .i64 y.now, .int .i64 y.seq, .slice A1 n1 c1, .slice A2 y.runs.length c2] 61)) = W at *
  refine C.mono ?_
  rintro e1 w1 ⟨rfl, b1⟩
  go_wp2
  go_ret
  exact ⟨ret_bool H.out.symm, bnext B0 b1⟩
 ·have hrt := cnt_run_tasks hl hk
  have HR2 := Lib.hid hr
  rw [hr] at C
  clear hr
  have HK := Lib.hid (runK_get hk HR2.out)
  go_enter Try.func90, Try.ntmps90
  go_wp2_with fail
  generalize (w.alloc (.cells #[.int .i64 y.now, .int .i64 y.seq, .slice A1 n1 c1, .slice A2 y.runs.length c2] 61)) = W at *
  refine C.mono ?_
  rintro e1 w1 ⟨rfl, b1⟩
  replace X := X.below b1
  obtain ⟨X_0, X_1, X_2, X_3, X_l⟩ := X.g4
  replace B0 := bnext B0 b1
  obtain ⟨b, o, ⟨s1, ⟨At, nt, ct⟩⟩, hA2, hbb, hrr, c0_, c1_, c2_, c3_, c4_, c5_, c6_, c7_⟩ := (h2.below B0).run hk
  subst hA2
  obtain rfl : nt = y.runs[k].tasks.length := RdL.at1 (s := ⟨At, nt, ct⟩) hrr.2
  have h3 : RdL taskD w1 w.heap.size (.slice At y.runs[k].tasks.length ct) y.runs[k].tasks := hrr.2
  have hkI : (k : Int) < (y.runs.length : Int) := by omega
  have hk00 : (0 : Int) ≤ (k : Int) := by omega
  have hk0 : decide ((0 : Int) ≤ (k : Int)) = true := decide_eq_true (by omega)
  have hs1 : b < w1.heap.size := Nat.lt_of_lt_of_le hbb B0.size
  have wr1 : IntKind.i64.wrap ((y.runs[k].tasks.length : Int) - 1) = (y.runs[k].tasks.length : Int) - 1 := IntWalk.i64_in _ (by omega)
  cases q : inB tk 0 ((y.runs[k].tasks.length : Int) - 1)
  ·have H := Lib.hid (show tf (holdsP y id tk tr) = false from tf_false (fun hh => by
    have h5 := hh.2.1
    rw [HK.out] at h5
    have := inB_iff.2 (show 0 ≤ tk ∧ tk ≤ (y.runs[k].tasks.length : Int) - 1 by omega)
    rw [q] at this
    cases this))
   go_wp2_with (go_at_call 30; refine (l01In_any _ _ _ _).mono ?_; rintro e w9 ⟨rfl, rfl⟩; rw [q])
   go_ret
   exact ⟨ret_bool H.out.symm, B0⟩
  ·have qq := inB_iff.1 q
   obtain ⟨t, rfl⟩ := Int.eq_ofNat_of_zero_le qq.1
   have ht : t < y.runs[k].tasks.length := by omega
   obtain ⟨b', o', _, hAt, hbb', _, d0, d1, d2, d3⟩ := h3.task ht
   subst hAt
   have hs2 : b' < w1.heap.size := Nat.lt_of_lt_of_le hbb' B0.size
   have htI : (t : Int) < (y.runs[k].tasks.length : Int) := by omega
   have ht0 : (0 : Int) ≤ (t : Int) := by omega
   have H := Lib.hid (show tf (holdsP y id t tr) = ((y.runs[k].tasks[t].state == 3) && (y.runs[k].tasks[t].try_ == tr)) by
    rw [Bool.eq_iff_iff, tf_iff, Bool.and_eq_true, beq_iff_eq, beq_iff_eq]
    unfold holdsP
    rw [HK.out, Int.toNat_natCast, taskAt_get ht, HR2.out]
    constructor
    ·intro hh; exact hh.2.2
    ·intro hh; exact ⟨by omega, ⟨by omega, by omega⟩, hh⟩)
   clear qq
   generalize y.runs[k].tasks[t].state = st at *
   generalize y.runs[k].tasks[t].try_ = ty at *
   cases q2 : (st == 3)
   ·go_wp2_with (go_at_call 30; refine (l01In_any _ _ _ _).mono ?_; rintro e w9 ⟨rfl, rfl⟩; rw [q])
    go_ret
    exact ⟨ret_bool (by rw [H.out, q2]; rfl), B0⟩
   ·go_wp2_with (go_at_call 30; refine (l01In_any _ _ _ _).mono ?_; rintro e w9 ⟨rfl, rfl⟩; rw [q])
    go_ret
    exact ⟨ret_bool (by rw [H.out, q2]; rfl), B0⟩
open Classical in
/-- what is asked ahead of what is told -/
noncomputable def askC (y : Yard) (id tk tr : Int) : Int := if ¬ yardP y then 8 else if runAt y id < 0 then 10 else if ¬ holdsP y id tk tr then 11 else 0
theorem specAsk_any (y : Yard) (s : Sl × Sl) (id tk tr : Int) (w : World) (hl : cntYard y ≤ 2000000) (h : yardD.rd w w.heap.size y s) :
  Calls Try.prog 73 #[yardW y s, .int .i64 id, .int .i64 tk, .int .i64 tr] w fun e' w' => e' = .returned (.int .i64 (askC y id tk tr)) ∧ Below w.heap.size w w' := by
 have HR := Lib.hid (show ∀ W, Below w.heap.size w W → yardD.rd W W.heap.size y s from fun W hW => yardD.rd_more (yardD.rd_below h hW) hW.size)
 obtain ⟨⟨A1, n1, c1⟩, ⟨A2, n2, c2⟩⟩ := s
 have CY := Lib.hid (fun W hW => specYardOk_any y (⟨A1, n1, c1⟩, ⟨A2, n2, c2⟩) W hl (HR.out W hW))
 have CA := Lib.hid (fun W hW => specRunAt_own y (⟨A1, n1, c1⟩, ⟨A2, n2, c2⟩) id W hl (HR.out W hW))
 have CH := Lib.hid (fun W hW => specHolds_any y (⟨A1, n1, c1⟩, ⟨A2, n2, c2⟩) id tk tr W hl (HR.out W hW))
 clear h
 have X := DBox.new 61 [.int .i64 y.now, .int .i64 y.seq, .slice A1 n1 c1, .slice A2 n2 c2] w (b := w.heap.size) rfl
 have B0 : Below w.heap.size w (w.alloc (.cells #[.int .i64 y.now, .int .i64 y.seq, .slice A1 n1 c1, .slice A2 n2 c2] 61)) := by repeat (first | exact Below.refl _ _ | refine Below.alloc ?_ (by simp <;> omega) _)
 go_enter Try.func73, Try.ntmps73
 go_wp2_with fail
 generalize (w.alloc (.cells #[.int .i64 y.now, .int .i64 y.seq, .slice A1 n1 c1, .slice A2 n2 c2] 61)) = W at *
 refine (CY.out _ B0).mono ?_
 rintro e1 w1 ⟨rfl, b1⟩
 replace X := X.below b1
 obtain ⟨X_0, X_1, X_2, X_3, X_l⟩ := X.g4
 replace B0 := bnext B0 b1
 by_cases p0 : yardP y
 case neg =>
  have H := Lib.hid (show askC y id tk tr = 8 from if_pos p0)
  rw [tf_false p0]
  clear p0
  go_wp2
  go_ret
  exact ⟨by rw [H.out]; rfl, B0⟩
 rw [tf_true p0]
 go_wp2_with fail
 refine (CA.out _ B0).mono ?_
 rintro e1 w2 ⟨rfl, b2⟩
 clear X_0 X_1 X_2 X_3 X_l
 replace X := X.below b2
 obtain ⟨X_0, X_1, X_2, X_3, X_l⟩ := X.g4
 replace B0 := bnext B0 b2
 by_cases p1 : runAt y id < 0
 ·have H := Lib.hid (show askC y id tk tr = 10 by unfold askC; rw [if_neg (fun h => h p0), if_pos p1])
  clear p0
  go_wp2
  go_ret
  exact ⟨by rw [H.out]; rfl, B0⟩
 go_wp2_with fail
 refine (CH.out _ B0).mono ?_
 rintro e1 w3 ⟨rfl, b3⟩
 replace B0 := bnext B0 b3
 by_cases p2 : holdsP y id tk tr
 ·have H := Lib.hid (show askC y id tk tr = 0 by unfold askC; rw [if_neg (fun h => h p0), if_neg (by omega), if_neg (fun h => h p2)])
  rw [tf_true p2]
  clear p0 p2
  go_wp2
  go_ret
  exact ⟨by rw [H.out]; rfl, B0⟩
 ·have H := Lib.hid (show askC y id tk tr = 11 by unfold askC; rw [if_neg (fun h => h p0), if_neg (by omega), if_pos p2])
  rw [tf_false p2]
  clear p0 p2
  go_wp2
  go_ret
  exact ⟨by rw [H.out]; rfl, B0⟩
end Go.Proofs.Ytonlnjdempbfoaa
end
section
namespace Go.Proofs.Ytonlnjdempbfoaa
open Go.RowKit
set_option maxRecDepth 100000
set_option maxHeartbeats 2000000
set_option linter.unusedVariables false
set_option linter.unusedSimpArgs false
/-- a yard of the call's own, and a code -/
def CodePost (z : Yard) (c : Int) (w : World) (e : Ending) (w' : World) : Prop :=
 ∃ s F, e = .returned (.tuple #[yardW z s, .int .i64 c]) ∧ yardD.ow w' F z s ∧ (∀ b ∈ F, w.heap.size ≤ b) ∧ Below w.heap.size w w'
theorem Fail_res {b : Nat} {w : World} {u0 u1 u2 u3 : Value} (X : DBox b [u0, u1, u2, u3] w) {v0 v1 v2 v3 v4 v5 v6 v7 v9 : Value} {rest : List Value} :
  (results Try.f50 (v0 :: v1 :: v2 :: v3 :: v4 :: v5 :: v6 :: v7 :: .pointer (some ⟨b, 0, none⟩) :: v9 :: rest).toArray).run Try.prog w = .ok (.tuple #[.agg #[u0, u1, u2, u3], v9]) w := by
 have c0 := X.cell 0 _ rfl
 have c1 := X.cell 1 _ rfl
 have c2 := X.cell 2 _ rfl
 have c3 := X.cell 3 _ rfl
 simp [results, Try.results50, go_sem, c0, c1, c2, c3]
/-- a run of a right yard is small -/
theorem yard_runs {y : Yard} (h : yardP y) {k : Nat} (hk : k < y.runs.length) : runP y.runs[k] := (h.2.2.2.2.2.2.2.1 k hk).1
theorem runP_len {r : Run} (h : runP r) : 1 ≤ r.tasks.length ∧ r.tasks.length ≤ 12 := by
 have h1 := manyOk_tasks (planFault_zero.1 h.2.1).1
 have h2 := h.2.2.1
 omega
theorem failsR_len (r : Run) (t : Nat) : (failsR r t).tasks.length = r.tasks.length := by
 unfold failsR
 split <;> simp [leaveR, modT_len]
open Classical in
noncomputable def failY (y : Yard) (id tk tr : Int) : Yard := if askC y id tk tr = 0 then turnY y (runAt y id).toNat (failsR (runK y id) tk.toNat) else y
theorem specFail_own (y : Yard) (s : Sl × Sl) (id tk tr : Int) (w : World) (hl : cntYard y ≤ 2000000) (h : yardD.rd w w.heap.size y s) :
  Calls Try.prog 50 #[yardW y s, .int .i64 id, .int .i64 tk, .int .i64 tr] w (CodePost (failY y id tk tr) (askC y id tk tr) w) := by
 have HR := Lib.hid (show ∀ W, Below w.heap.size w W → yardD.rd W W.heap.size y s from fun W hW => yardD.rd_more (yardD.rd_below h hW) hW.size)
 obtain ⟨⟨A1, n1, c1⟩, ⟨A2, n2, c2⟩⟩ := s
 have CC := Lib.hid (fun W hW => specCopyYard_own y (⟨A1, n1, c1⟩, ⟨A2, n2, c2⟩) W hl (HR.out W hW))
 have CK := Lib.hid (fun W hW => specAsk_any y (⟨A1, n1, c1⟩, ⟨A2, n2, c2⟩) id tk tr W hl (HR.out W hW))
 have CA := Lib.hid (fun W hW => specRunAt_own y (⟨A1, n1, c1⟩, ⟨A2, n2, c2⟩) id W hl (HR.out W hW))
 clear h
 have X := (DBox.new 61 [.int .i64 y.now, .int .i64 y.seq, .slice A1 n1 c1, .slice A2 n2 c2] w (b := w.heap.size) rfl).below ((Below.refl _ _).alloc (Nat.le_refl _) (.cells #[.int .i64 0, .int .i64 0, .slice none 0 0, .slice none 0 0] 61))
 have RES := DBox.new 61 [.int .i64 0, .int .i64 0, .slice none 0 0, .slice none 0 0] (w.alloc (.cells #[.int .i64 y.now, .int .i64 y.seq, .slice A1 n1 c1, .slice A2 n2 c2] 61)) (b := w.heap.size + 1) (by simp)
 have B0 : Below w.heap.size w ((w.alloc (.cells #[.int .i64 y.now, .int .i64 y.seq, .slice A1 n1 c1, .slice A2 n2 c2] 61)).alloc (.cells #[.int .i64 0, .int .i64 0, .slice none 0 0, .slice none 0 0] 61)) := by repeat (first | exact Below.refl _ _ | refine Below.alloc ?_ (by simp <;> omega) _)
 go_enter Try.func50, Try.ntmps50
 go_wp2_with fail
 generalize ((w.alloc (.cells #[.int .i64 y.now, .int .i64 y.seq, .slice A1 n1 c1, .slice A2 n2 c2] 61)).alloc (.cells #[.int .i64 0, .int .i64 0, .slice none 0 0, .slice none 0 0] 61)) = W at *
 refine (CC.out _ B0).mono ?_
 rintro e1 w1 ⟨⟨⟨B1, m1, e1⟩, ⟨B2, m2, e2⟩⟩, F, rfl, oy, nF, b1⟩
 have hXl := X.lt
 have hRl := RES.lt
 replace X := X.below b1
 replace RES := RES.below b1
 replace B0 := bnext B0 b1
 have hFlt := yardD.ow_lt (F := F) (x := y) (s := (⟨B1, m1, e1⟩, ⟨B2, m2, e2⟩)) oy
 have hs1 := b1.size
 clear b1
 go_upto_region 2 with fail
 have OB := DBox.new 61 [.int .i64 y.now, .int .i64 y.seq, .slice B1 m1 e1, .slice B2 m2 e2] w1 (b := w1.heap.size) rfl
 have b2 : Below w1.heap.size w1 (w1.alloc (.cells #[.int .i64 y.now, .int .i64 y.seq, .slice B1 m1 e1, .slice B2 m2 e2] 61)) := (Below.refl _ _).alloc (Nat.le_refl _) _
 replace B0 := bnext B0 b2
 replace X := X.below b2
 replace RES := RES.below b2
 replace oy := yardD.ow_below (F := F) (x := y) (s := (⟨B1, m1, e1⟩, ⟨B2, m2, e2⟩)) oy b2
 have hs2 := b2.size
 have ow1 := OB.lt
 generalize w1.alloc (.cells #[.int .i64 y.now, .int .i64 y.seq, .slice B1 m1 e1, .slice B2 m2 e2] 61) = w2 at *
 obtain ⟨X_0, X_1, X_2, X_3, X_l⟩ := X.g4
 go_wp2_with fail
 refine (CK.out _ B0).mono ?_
 rintro e1 w3 ⟨rfl, b3⟩
 replace B0 := bnext B0 b3
 clear X_0 X_1 X_2 X_3 X_l
 replace X := X.below b3
 replace RES := RES.below b3
 replace OB := OB.below b3
 replace oy := yardD.ow_below (F := F) (x := y) (s := (⟨B1, m1, e1⟩, ⟨B2, m2, e2⟩)) oy b3
 have hs3 := b3.size
 clear b3 b2 CC CK
 obtain ⟨X_0, X_1, X_2, X_3, X_l⟩ := X.g4
 obtain ⟨OB_0, OB_1, OB_2, OB_3, OB_l⟩ := OB.g4
 by_cases q : askC y id tk tr = 0
 case neg =>
  have q2 : (askC y id tk tr != 0) = true := by simp [q]
  have H := Lib.hid (show failY y id tk tr = y from if_neg q)
  clear q
  obtain ⟨RES_0, RES_1, RES_2, RES_3, RES_l⟩ := RES.g4
  have rf := RES.free
  go_wp2
  have en1 : w.heap.size + 1 ∉ F := fun hx => by have := nF _ hx; omega
  refine bodyPost_ret (Fail_res (DBox.row4 RES rfl _ _ _ _)) rfl ⟨(⟨B1, m1, e1⟩, ⟨B2, m2, e2⟩), F, by rw [H.out], by rw [H.out]; exact (yardD.set4 (F := F) (x := y) (s := (⟨B1, m1, e1⟩, ⟨B2, m2, e2⟩)) oy en1), fun x hx => by have := nF x hx; omega, ?_⟩
  repeat (first | (with_reducible exact B0) | refine Below.setCell ?_ (by simp <;> omega) _)
 have q2 : (askC y id tk tr != 0) = false := by simp [q]
 have H := Lib.hid (show failY y id tk tr = turnY y (runAt y id).toNat (failsR (runK y id) tk.toNat) from if_pos q)
 have HP : Hid (yardP y ∧ 0 ≤ runAt y id ∧ holdsP y id tk tr) := by
  unfold askC at q
  by_cases p0 : yardP y
  ·by_cases p1 : runAt y id < 0
   ·rw [if_neg (fun h => h p0), if_pos p1] at q; cases q
   ·by_cases p2 : holdsP y id tk tr
    ·exact ⟨p0, by omega, p2⟩
    ·rw [if_neg (fun h => h p0), if_neg p1, if_pos p2] at q; cases q
  ·rw [if_pos p0] at q; cases q
 have Hq := Lib.hid q
 clear q
 rcases runAt_range y id with hr | ⟨k, hk, hr⟩
 ·exact absurd HP.out.2.1 (by omega)
 have HK := Lib.hid (runK_get hk hr)
 have HR2 := Lib.hid hr
 clear hr
 have hrunP := Lib.hid (yard_runs HP.out.1 hk)
 have hth := Lib.hid HP.out.2.2
 have htk : Hid ((0 ≤ tk ∧ tk < (y.runs[k].tasks.length : Int)) ∧ (taskAt y.runs[k] tk.toNat).state = 3) := by
  have := hth.out
  unfold holdsP at this
  rw [HK.out] at this
  exact ⟨this.2.1, this.2.2.1⟩
 obtain ⟨u, rfl⟩ := Int.eq_ofNat_of_zero_le htk.out.1.1
 have hu : u < y.runs[k].tasks.length := by have := htk.out.1.2; omega
 have hruns : Hid (runsP y.runs[k] u) := ⟨hrunP.out, ⟨by omega, by omega⟩, htk.out.2⟩
 go_wp2_with fail
 refine (CA.out _ B0).mono ?_
 rintro e2' w4 ⟨rfl, b4⟩
 rw [HR2.out]
 replace B0 := bnext B0 b4
 clear X_0 X_1 X_2 X_3 X_l
 clear OB_0 OB_1 OB_2 OB_3 OB_l
 clear X
 replace RES := RES.below b4
 replace OB := OB.below b4
 replace oy : yardD.ow w4 F y (⟨B1, m1, e1⟩, ⟨B2, m2, e2⟩) := yardD.ow_below (F := F) (x := y) (s := (⟨B1, m1, e1⟩, ⟨B2, m2, e2⟩)) oy b4
 have hs4 := b4.size
 clear b4 CA
 have oy2 := oy
 obtain ⟨F1, F2, rfl, hnd, os, orr⟩ := oy2
 replace orr : OwL runD w4 F2 (.slice B2 m2 e2) y.runs := orr
 obtain rfl : m2 = y.runs.length := RdL.at1 (s := ⟨B2, m2, e2⟩) orr.rd
 obtain ⟨gr, o2, sk, rfl, hgrw, hrk, c0, c1_, c2_, c3, c4, c5, c6, c7⟩ := orr.rd.run hk
 have hkI : (k : Int) < (y.runs.length : Int) := by omega
 have hk0 : (0 : Int) ≤ (k : Int) := by omega
 go_wp2
 refine Go.wp_region_noPanic ?_
 refine wp_region_held_drew (S := (fun w' => DBox w1.heap.size [.int .i64 y.now, .int .i64 y.seq, .slice B1 m1 e1, .slice (some ⟨gr, o2, none⟩) y.runs.length e2] w')) (by kernel_rfl) (DBox.drew4 OB) (fun hHeld => ?_)
 refine tY 0 ?_
 (try simp only [pS])
 refine tY 1 ?_
 (try simp only [pS])
 refine tY 2 ?_
 (try simp only [pS])
 refine tY 3 ?_
 (try simp only [pS])
 refine tY 4 ?_
 (try simp only [pS])
 refine tY 5 ?_
 (try simp only [pS])
 refine tY 7 ?_
 (try simp only [pS])
 have bd : Below w4.heap.size w4 w4.drew := (Below.refl _ _).drew
 replace B0 := bnext B0 bd
 replace RES := RES.below bd
 replace OB := OB.below bd
 replace oy : yardD.ow w4.drew (F1 ++ F2) y (⟨B1, m1, e1⟩, ⟨some ⟨gr, o2, none⟩, y.runs.length, e2⟩) := yardD.ow_below (F := F1 ++ F2) (x := y) (s := (⟨B1, m1, e1⟩, ⟨some ⟨gr, o2, none⟩, y.runs.length, e2⟩)) oy bd
 refine rC 6 (fun K_ hK => ?_)
 go_simp
 refine hK.out _ _ OB (fun hHeld => ?_)
 clear hK K_
 (try simp only [pS])
 have hcr := cnt_run_tasks hl hk
 have hrk2 : runD.rd w4.drew w4.drew.heap.size y.runs[k] sk := runD.rd_below hrk bd
 have hcrun : cntRun y.runs[k] ≤ 2000000 := by
  have h1 := cntL_mem (cnt := cntRun) (List.getElem_mem hk)
  unfold cntYard at hl
  omega
 have CF := Lib.hid (specFails_own y.runs[k] sk u w4.drew hcrun hruns.out hrk2)
 clear c0 c1_ c2_ c3 c4 c5 c6 c7
 refine rC 8 (fun K_ hK => ?_)
 go_simp
 refine CF.out.mono ?_
 rintro e3 w5 ⟨sr, Fr, rfl, orn, nFr, b5⟩
 refine hK.out _ _ (OB.below b5) (fun hHeld => ?_)
 clear hK K_
 (try simp only [pS])
 have hwd : w4.drew.heap.size = w4.heap.size := rfl
 have hs5 := b5.size
 have hT2 := runP_len hrunP.out
 have CT := Lib.hid (specTurn_own y (⟨B1, m1, e1⟩, ⟨some ⟨gr, o2, none⟩, y.runs.length, e2⟩) k (failsR y.runs[k] u) sr w5 (F1 ++ F2) Fr HP.out.1.2.2.1 (fun s hs => by have := (HP.out.1.2.2.2.1 s hs).1; omega) (by have := HP.out.1.2.1; omega) hk (by rw [failsR_len]; omega) (by omega) (yardD.ow_below (F := F1 ++ F2) (x := y) (s := (⟨B1, m1, e1⟩, ⟨some ⟨gr, o2, none⟩, y.runs.length, e2⟩)) oy b5) orn (fun x hx hxF => by have h1 := nFr x hx; have h2 := hFlt x hxF; omega))
 have HF := Lib.hid (show failY y id u tr = turnY y k (failsR y.runs[k] u) by rw [H.out, HR2.out, HK.out, Int.toNat_natCast, Int.toNat_natCast])
 clear H
 refine rC 9 (fun K_ hK => ?_)
 go_simp
 refine CT.out.mono ?_
 rintro e4 w6 ⟨s5, F5, rfl, oy7, n5, c6⟩
 have hne : w1.heap.size ∉ F1 ++ F2 := fun h => by have := hFlt _ h; omega
 have hne2 : w.heap.size + 1 ∉ F1 ++ F2 := fun h => by have := nF _ h; omega
 have OB6 := (OB.below b5).chg c6 hne
 have RES6 := (RES.below b5).chg c6 hne2
 have B6 : Below w.heap.size w w6 := (bnext B0 b5).trans (c6.below (by have := (bnext B0 b5).size; omega) (fun x hx => by have := nF _ hx; omega))
 generalize turnY y k (failsR y.runs[k] u) = Z at *
 refine hK.out _ _ OB6 (fun hHeld => ?_)
 clear hK K_
 (try simp only [pS])
 have r0 := RES6.cell 0 _ rfl
 have r1 := RES6.cell 1 _ rfl
 have r2 := RES6.cell 2 _ rfl
 have r3 := RES6.cell 3 _ rfl
 have rl := RES6.lt
 have rf := RES6.free
 refine rC 10 (fun K_ hK => ?_)
 go_simp
 have hob : w1.heap.size ≠ w.heap.size + 1 := by omega
 refine hK.out _ _ ((((OB6.setOther (a := ⟨w.heap.size + 1, _, none⟩) hob _).setOther (a := ⟨w.heap.size + 1, _, none⟩) hob _).setOther (a := ⟨w.heap.size + 1, _, none⟩) hob _).setOther (a := ⟨w.heap.size + 1, _, none⟩) hob _) (fun hHeld => ?_)
 clear hK K_
 (try simp only [pS])
 refine rC 11 (fun K_ hK => ?_)
 go_simp
 refine hK.out _ _ hHeld (fun hHeld => ?_)
 clear hK K_
 (try simp only [pS])
 refine wpAnyH_done (by kernel_rfl) ?_ _
 refine NoPanic.normal ?_
 clear hHeld r0 r1 r2 r3 rf
 have en5 : w.heap.size + 1 ∉ F5 := fun hx => by
  rcases n5 _ hx with h | h | h
  ·exact hne2 h
  ·have := nFr _ h; omega
  ·omega
 have hZ : failY y id u tr = Z := HF.out
 have H2 := Lib.hid hZ
 clear hZ
 have Hq2 := Lib.hid (show askC y id u tr = 0 from Hq.out)
 go_wp2
 refine bodyPost_ret (Fail_res (DBox.row4 RES6 rfl _ _ _ _)) rfl ⟨s5, F5, by rw [H2.out, Hq2.out], by rw [H2.out]; exact (yardD.set4 (F := F5) (x := Z) (s := s5) oy7 en5), fun x hx => ?_, ?_⟩
 ·rcases n5 x hx with h | h | h
  ·have := nF x h; omega
  ·have := nFr x h; omega
  ·omega
 ·repeat (first | (with_reducible exact B6) | refine Below.setCell ?_ (by simp <;> omega) _)
end Go.Proofs.Ytonlnjdempbfoaa
end
section
namespace Go.Proofs.Ytonlnjdempbfoaa
open Go.RowKit
set_option maxRecDepth 100000
set_option maxHeartbeats 2000000
set_option linter.unusedVariables false
set_option linter.unusedSimpArgs false
/-- there is room for a plan -/
noncomputable def roomB (y : Yard) (p : Plan) : Bool := decide (y.runs.length < 8) && (inB p.tasks 0 12 && (decide ((slotsOf y : Int) + p.tasks ≤ 40) && decide (y.seq ≤ 999999000 - p.tasks)))
theorem specRoom_any (y : Yard) (s : Sl × Sl) (p : Plan) (ve : Value) (w : World) (hl : cntYard y ≤ 2000000) (hS : slotsOf y ≤ 40) (hq : 0 ≤ y.seq ∧ y.seq ≤ 2000000000) (h : yardD.rd w w.heap.size y s) :
  Calls Try.prog 64 #[yardW y s, planV p ve] w fun e' w' => e' = .returned (.bool (roomB y p)) ∧ Below w.heap.size w w' := by
 have HR := Lib.hid (show ∀ W, Below w.heap.size w W → yardD.rd W W.heap.size y s from fun W hW => yardD.rd_more (yardD.rd_below h hW) hW.size)
 obtain ⟨⟨A1, n1, c1⟩, ⟨A2, n2, c2⟩⟩ := s
 obtain rfl : n2 = y.runs.length := RdL.at1 (s := ⟨A2, n2, c2⟩) h.2
 have CS := Lib.hid (fun W hW => specSlots_any y (⟨A1, n1, c1⟩, ⟨A2, y.runs.length, c2⟩) W hl (HR.out W hW))
 clear h HR
 have HD := Lib.hid (show roomB y p = (decide (y.runs.length < 8) && (inB p.tasks 0 12 && (decide ((slotsOf y : Int) + p.tasks ≤ 40) && decide (y.seq ≤ 999999000 - p.tasks)))) from rfl)
 generalize roomB y p = D at *
 generalize slotsOf y = sn at *
 have X := (DBox.new 61 [.int .i64 y.now, .int .i64 y.seq, .slice A1 n1 c1, .slice A2 y.runs.length c2] w (b := w.heap.size) rfl).below ((Below.refl _ _).alloc (Nat.le_refl _) (.cells #[.int .i64 p.prio, .int .i64 p.most, .int .i64 p.wait, .int .i64 p.tasks, ve] 35))
 have P := DBox.new 35 [.int .i64 p.prio, .int .i64 p.most, .int .i64 p.wait, .int .i64 p.tasks, ve] (w.alloc (.cells #[.int .i64 y.now, .int .i64 y.seq, .slice A1 n1 c1, .slice A2 y.runs.length c2] 61)) (b := w.heap.size + 1) (by simp)
 have B0 : Below w.heap.size w ((w.alloc (.cells #[.int .i64 y.now, .int .i64 y.seq, .slice A1 n1 c1, .slice A2 y.runs.length c2] 61)).alloc (.cells #[.int .i64 p.prio, .int .i64 p.most, .int .i64 p.wait, .int .i64 p.tasks, ve] 35)) := by repeat (first | exact Below.refl _ _ | refine Below.alloc ?_ (by simp <;> omega) _)
 go_enter Try.func64, Try.ntmps64
 go_wp2
 generalize ((w.alloc (.cells #[.int .i64 y.now, .int .i64 y.seq, .slice A1 n1 c1, .slice A2 y.runs.length c2] 61)).alloc (.cells #[.int .i64 p.prio, .int .i64 p.most, .int .i64 p.wait, .int .i64 p.tasks, ve] 35)) = W at *
 obtain ⟨X_0, X_1, X_2, X_3, X_l⟩ := X.g4
 obtain ⟨P_0, P_1, P_2, P_3, P_4, P_l⟩ := P.g5
 have hlc := later_cell W
 by_cases a : y.runs.length < 8
 case neg =>
  have aI : ¬ (y.runs.length : Int) < 8 := by omega
  have aD : decide ((y.runs.length : Int) < 8) = false := decide_eq_false aI
  have H := Lib.hid (show D = false by rw [HD.out, decide_eq_false a, Bool.false_and])
  clear HD a
  refine wp_region_pure (by kernel_rfl) (by kernel_rfl) ?_
  repeat (go_big_quiet_step ((first | (go_at_call 30; exact pure_same (fun u => l01In_any _ _ _ u.1)) | (go_at_call 83; rename_i x; have h1 := CS.out x.1 (bnext B0 x.2); exact pure_of h1))))
  refine wpQuiet_nil ?_
  rintro _ ⟨⟨w3, b3⟩, rfl⟩
  clear hlc
  go_wp2
  go_ret
  exact ⟨ret_bool H.out.symm, bnext B0 b3⟩
 have aI : (y.runs.length : Int) < 8 := by omega
 have aD : decide ((y.runs.length : Int) < 8) = true := decide_eq_true aI
 have HD := Lib.hid (HD.out.trans (by rw [decide_eq_true a, Bool.true_and]))
 clear a
 cases c : inB p.tasks 0 12
 case false =>
  have H := Lib.hid (show D = false by rw [HD.out, c, Bool.false_and])
  clear HD
  refine wp_region_pure (by kernel_rfl) (by kernel_rfl) ?_
  repeat (go_big_quiet_step ((first | (go_at_call 30; exact pure_same (fun u => l01In_any _ _ _ u.1)) | (go_at_call 83; rename_i x; have h1 := CS.out x.1 (bnext B0 x.2); exact pure_of h1))))
  refine wpQuiet_nil ?_
  rintro _ ⟨⟨w3, b3⟩, rfl⟩
  clear hlc
  go_wp2
  go_ret
  exact ⟨ret_bool H.out.symm, bnext B0 b3⟩
 have cc := inB_iff.1 c
 have HD := Lib.hid (HD.out.trans (by rw [c, Bool.true_and]))
 have wr1 : IntKind.i64.wrap ((sn : Int) + p.tasks) = (sn : Int) + p.tasks := IntWalk.i64_in _ (by omega)
 have wr2 : IntKind.i64.wrap (999999000 - p.tasks) = 999999000 - p.tasks := IntWalk.i64_in _ (by omega)
 cases d : decide ((sn : Int) + p.tasks ≤ 40)
 case false =>
  have H := Lib.hid (show D = false by rw [HD.out, d, Bool.false_and])
  clear HD cc
  refine wp_region_pure (by kernel_rfl) (by kernel_rfl) ?_
  repeat (go_big_quiet_step ((first | (go_at_call 30; exact pure_same (fun u => l01In_any _ _ _ u.1)) | (go_at_call 83; rename_i x; have h1 := CS.out x.1 (bnext B0 x.2); exact pure_of h1))))
  refine wpQuiet_nil ?_
  rintro _ ⟨⟨w3, b3⟩, rfl⟩
  clear hlc
  go_wp2
  go_ret
  exact ⟨ret_bool H.out.symm, bnext B0 b3⟩
 have H := Lib.hid (show D = decide (y.seq ≤ 999999000 - p.tasks) by rw [HD.out, d, Bool.true_and])
 clear HD cc
 cases e : decide (y.seq ≤ 999999000 - p.tasks)
 all_goals
  rw [e] at H
  refine wp_region_pure (by kernel_rfl) (by kernel_rfl) ?_
  repeat (go_big_quiet_step ((first | (go_at_call 30; exact pure_same (fun u => l01In_any _ _ _ u.1)) | (go_at_call 83; rename_i x; have h1 := CS.out x.1 (bnext B0 x.2); exact pure_of h1))))
  refine wpQuiet_nil ?_
  rintro _ ⟨⟨w3, b3⟩, rfl⟩
  clear hlc
  go_wp2
  go_ret
  exact ⟨ret_bool H.out.symm, bnext B0 b3⟩
end Go.Proofs.Ytonlnjdempbfoaa
end
section
namespace Go.Proofs.Ytonlnjdempbfoaa
open Go.RowKit
set_option maxRecDepth 100000
set_option linter.unusedVariables false
set_option linter.unusedSimpArgs false
theorem cntS_set (s : Int) (y : Task) : ∀ (l : List Task) (k : Nat) (hk : k < l.length), cntS (l.set k y) s + (if l[k].state = s then 1 else 0) = cntS l s + (if y.state = s then 1 else 0)
 | x :: l, 0, _ => by
  unfold cntS
  by_cases h1 : x.state = s <;> by_cases h2 : y.state = s <;> simp [h1, h2]
 | x :: l, k + 1, hk => by
  have ih := cntS_set s y l k (by simpa using hk)
  unfold cntS at *
  by_cases h1 : x.state = s
  ·simp only [List.set_cons_succ, List.getElem_cons_succ, List.filter_cons, beq_iff_eq, h1, if_true, List.length_cons]
   omega
  ·simp only [List.set_cons_succ, List.getElem_cons_succ, List.filter_cons, beq_iff_eq, h1, if_false]
   exact ih
theorem modT_at {l : List Task} {t : Nat} (h : t < l.length) (f : Task → Task) : modT l t f = l.set t (f l[t]) := by
 unfold modT
 rw [List.getD_eq_getElem?_getD, List.getElem?_eq_getElem h]
 rfl
theorem openIn_congr {r r' : Run} {l : List Nat} (h : ∀ b, (taskAt r b).state = 4 ↔ (taskAt r' b).state = 4) : openIn r l = openIn r' l := by
 unfold openIn
 congr 1
 apply List.filter_congr
 intro b _
 by_cases q : (taskAt r b).state = 4
 ·simp [q, (h b).1 q]
 ·have q' : ¬ (taskAt r' b).state = 4 := fun hh => q ((h b).2 hh)
  rw [show ((taskAt r b).state != 4) = true from bne_iff_ne.2 q, show ((taskAt r' b).state != 4) = true from bne_iff_ne.2 q']
theorem leaveX_st (x : Task) : (leaveX x).state = 4 ∧ x.state = 4 ∨ (leaveX x).state = 5 ∧ x.state = 5 ∨ (leaveX x).state = 6 ∧ x.state ≠ 4 ∧ x.state ≠ 5 := by
 unfold leaveX
 by_cases h4 : x.state = 4
 ·simp [h4]
 ·by_cases h5 : x.state = 5
  ·simp [h5]
  ·simp [h4, h5]
theorem leave_cnt (l : List Task) : cntS (l.map leaveX) 4 = cntS l 4 ∧ cntS (l.map leaveX) 5 = cntS l 5 ∧ restOf (l.map leaveX) = 0 := by
 induction l with
 | nil => exact ⟨rfl, rfl, rfl⟩
 | cons x l ih =>
  have hc : ∀ (y : Task) (l : List Task) s, cntS (y :: l) s = (if y.state = s then 1 else 0) + cntS l s := by
   intro y l s
   unfold cntS
   by_cases h : y.state = s <;> simp [h]
   omega
  obtain ⟨h1, h2, h3⟩ := ih
  unfold restOf at *
  simp only [List.map_cons, hc]
  rcases leaveX_st x with ⟨a, b⟩ | ⟨a, b⟩ | ⟨a, b, c⟩
  ·simp [a, b, h1, h2]; omega
  ·simp [a, b, h1, h2]; omega
  ·simp [a, b, c, h1, h2]; omega
theorem taskAt_mk (i : Int) (p : Plan) (s : Int) (l : List Task) (k : Nat) : taskAt ⟨i, p, s, l⟩ k = l.getD k ⟨0, 0, 0, 0⟩ := rfl
theorem cntS_pos {l : List Task} {s : Int} {k : Nat} (hk : k < l.length) (h : l[k].state = s) : 1 ≤ cntS l s := by
 unfold cntS
 apply List.length_pos_of_mem (a := l[k])
 rw [List.mem_filter]
 exact ⟨List.getElem_mem hk, by simp [h]⟩
theorem cntS_lt {l : List Task} {s : Int} {k : Nat} (hk : k < l.length) (h : ¬ l[k].state = s) : cntS l s < l.length := by
 unfold cntS
 rcases Nat.lt_or_ge (l.filter fun x => x.state == s).length l.length with h1 | h1
 ·exact h1
 ·have h2 := List.filter_sublist (p := fun x : Task => x.state == s) (l := l)
  have h3 := h2.eq_of_length_le h1
  have h4 : l[k] ∈ (l.filter fun x => x.state == s) := by rw [h3]; exact List.getElem_mem hk
  rw [List.mem_filter] at h4
  exact absurd (by simpa using h4.2) h
/-- of a right run of which a task runs, none failed or was left -/
theorem runsP_live {r : Run} {u : Nat} (h : runsP r u) : cntS r.tasks 5 = 0 ∧ cntS r.tasks 6 = 0 ∧ cntS r.tasks 4 < r.tasks.length ∧ r.state = 1 := by
 obtain ⟨hr, ⟨_, hu⟩, hs⟩ := h
 have hul : u < r.tasks.length := by omega
 rw [Int.toNat_natCast, taskAt_get hul] at hs
 have h3 := cntS_pos hul hs
 have h4 := cntS_lt (s := 4) hul (by omega)
 have h5 := hr.2.2.2.2.1
 have h6 := hr.2.2.2.2.2
 have hR : ¬ restOf r.tasks = 0 := by unfold restOf; omega
 unfold stL at h5
 rw [if_neg (by omega), if_neg (fun hh => hR hh.2), if_neg (fun hh => hR hh.2.2)] at h5
 by_cases q : cntS r.tasks 5 = 0 ∧ cntS r.tasks 6 = 0
 ·rw [if_pos q] at h5
  exact ⟨q.1, q.2, h4, h5⟩
 ·rw [if_neg q] at h5
  exact absurd h5 h6
theorem failsR_id (r : Run) (u : Nat) : (failsR r u).id = r.id ∧ (failsR r u).plan = r.plan := by
 unfold failsR
 split <;> exact ⟨rfl, rfl⟩
/-- a right run of which a task fails is a right one -/
theorem failsR_runP {r : Run} {u : Nat} (h : runsP r u) : runP (failsR r u) := by
 obtain ⟨l5, l6, l4, ls⟩ := runsP_live h
 obtain ⟨hr, ⟨_, hu⟩, hs⟩ := h
 have hul : u < r.tasks.length := by omega
 rw [Int.toNat_natCast] at hs
 have hsu := hs
 rw [taskAt_get hul] at hs
 obtain ⟨a1, a2, a3, a4, a5, a6⟩ := hr
 have hq := a4 u hul
 unfold taskP at hq
 rw [taskAt_get hul] at hq
 obtain ⟨q1, q2, q3, q4, q5, q6, q7, q8⟩ := hq
 have hgetS : ∀ (y : Task) b, (r.tasks.set u y).getD b ⟨0, 0, 0, 0⟩ = if b = u then y else taskAt r b := by
  intro y b
  unfold taskAt
  rw [List.getD_eq_getElem?_getD, List.getD_eq_getElem?_getD, List.getElem?_set]
  by_cases e : u = b
  ·subst e; simp [hul]
  ·rw [if_neg e, if_neg (fun hh => e hh.symm)]
 unfold failsR
 split
 ·next ht =>
  rw [taskAt_get hul] at ht
  rw [modT_at hul]
  refine ⟨a1, a2, by simpa using a3, ?_, ?_, a6⟩
  ·intro t htl
   have htl' : t < r.tasks.length := by simpa using htl
   have hN : needOf ⟨r.id, r.plan, r.state, r.tasks.set u ⟨2, r.tasks[u].need, r.tasks[u].try_, 0⟩⟩ t = needOf r t := by
    unfold needOf
    apply openIn_congr
    intro b
    rw [taskAt_mk, hgetS]
    by_cases e : b = u
    ·subst e; rw [if_pos rfl]; simp [hsu]
    ·rw [if_neg e]
   unfold taskP
   rw [hN, taskAt_mk, hgetS]
   by_cases e : t = u
   ·subst e
    rw [if_pos rfl]
    have := q8 (.inl hs)
    refine ⟨by simp, q2, q3, by simp, by simp, by simp, ?_, by simp⟩
    intro _
    exact ⟨this.1, ht⟩
   ·rw [if_neg e]
    exact a4 t htl'
  ·have c := fun s => cntS_set s ⟨2, r.tasks[u].need, r.tasks[u].try_, 0⟩ r.tasks u hul
   have c1 := c 1; have c2 := c 2; have c3 := c 3; have c4 := c 4; have c5 := c 5; have c6 := c 6
   simp only [hs] at c1 c2 c3 c4 c5 c6
   simp at c1 c2 c3 c4 c5 c6
   show r.state = stL (r.tasks.set u ⟨2, r.tasks[u].need, r.tasks[u].try_, 0⟩)
   rw [ls]
   unfold stL
   have hR : ¬ restOf (r.tasks.set u ⟨2, r.tasks[u].need, r.tasks[u].try_, 0⟩) = 0 := by unfold restOf; omega
   rw [if_neg (by rw [List.length_set]; omega), if_neg (fun hh => hR hh.2), if_neg (fun hh => hR hh.2.2), if_pos (by omega)]
 ·next ht =>
  rw [taskAt_get hul] at ht
  rw [modT_at hul]
  have hX : ∀ b, taskAt (leaveR ⟨r.id, r.plan, r.state, r.tasks.set u ⟨5, r.tasks[u].need, r.tasks[u].try_, 0⟩⟩ 3) b = if b < r.tasks.length then leaveX (if b = u then ⟨5, r.tasks[u].need, r.tasks[u].try_, 0⟩ else taskAt r b) else ⟨0, 0, 0, 0⟩ := by
   intro b
   unfold leaveR
   rw [taskAt_mk, List.getD_eq_getElem?_getD, List.getElem?_map]
   by_cases e : b < r.tasks.length
   ·rw [if_pos e, ← hgetS, List.getD_eq_getElem?_getD, List.getElem?_eq_getElem (by rw [List.length_set]; exact e)]
    rfl
   ·rw [if_neg e, List.getElem?_eq_none (by rw [List.length_set]; omega)]
    rfl
  refine ⟨a1, a2, by simpa [leaveR] using a3, ?_, ?_, by simp [leaveR]⟩
  ·intro t htl
   have htl' : t < r.tasks.length := by simpa [leaveR] using htl
   have hN : needOf (leaveR ⟨r.id, r.plan, r.state, r.tasks.set u ⟨5, r.tasks[u].need, r.tasks[u].try_, 0⟩⟩ 3) t = needOf r t := by
    show openIn _ _ = openIn _ _
    apply openIn_congr
    intro b
    rw [hX]
    by_cases e : b < r.tasks.length
    ·rw [if_pos e]
     by_cases e2 : b = u
     ·subst e2; rw [if_pos rfl]; simp [hsu, leaveX]
     ·rw [if_neg e2]
      rcases leaveX_st (taskAt r b) with ⟨a, b⟩ | ⟨a, b⟩ | ⟨a, b, c⟩
      ·simp [a, b]
      ·simp [a, b]
      ·simp [a, b]
    ·rw [if_neg e]
     unfold taskAt
     rw [List.getD_eq_getElem?_getD, List.getElem?_eq_none (by omega)]
     simp
   unfold taskP
   rw [hN, hX, if_pos htl']
   show taskQ _ _ r.plan.most
   by_cases e : t = u
   ·subst e
    rw [if_pos rfl]
    have := q8 (.inl hs)
    unfold leaveX
    rw [if_neg (by simp)]
    refine ⟨by simp, q2, q3, by simp, by simp, by simp, by simp, ?_⟩
    intro _
    exact this
   ·rw [if_neg e]
    obtain ⟨p1, p2, p3, p4, p5, p6, p7, p8⟩ := a4 t htl'
    unfold leaveX
    split
    ·refine ⟨by simp, p2, p3, by simp, by simp, by simp, by simp, by simp⟩
    ·exact ⟨p1, p2, p3, p4, p5, p6, p7, p8⟩
  ·have c := fun s => cntS_set s ⟨5, r.tasks[u].need, r.tasks[u].try_, 0⟩ r.tasks u hul
   have c4 := c 4; have c5 := c 5
   simp only [hs] at c4 c5
   simp at c4 c5
   obtain ⟨m1, m2, m3⟩ := leave_cnt (r.tasks.set u ⟨5, r.tasks[u].need, r.tasks[u].try_, 0⟩)
   show (3 : Int) = stL ((r.tasks.set u ⟨5, r.tasks[u].need, r.tasks[u].try_, 0⟩).map leaveX)
   unfold stL
   rw [if_neg (by rw [List.length_map, List.length_set]; omega), if_pos (by omega)]
/-- how much there is in a yard -/
theorem cntL_le {α : Type} {cnt : α → Nat} {K : Nat} : ∀ {l : List α}, (∀ x ∈ l, cnt x ≤ K) → cntL cnt l ≤ l.length * (K + 1)
 | [], _ => by simp [cntL]
 | x :: l, h => by
  have ih := cntL_le (cnt := cnt) (K := K) (l := l) (fun y hy => h y (List.mem_cons_of_mem _ hy))
  have := h x (List.mem_cons_self ..)
  unfold cntL at *
  rw [List.map_cons, List.sum_cons, List.length_cons, Nat.succ_mul]
  omega
theorem run_small {r : Run} (h : runP r) : cntRun r ≤ 42 := by
 have h1 := manyOk_edges (planFault_zero.1 h.2.1).1
 have h2 := runP_len h
 have e1 : cntPlan r.plan = r.plan.edges.length := cntL_zero (fun _ => rfl) _
 have e2 : cntL cntTask r.tasks = r.tasks.length := cntL_zero (fun _ => rfl) _
 unfold cntRun
 omega
theorem cnt_small {y : Yard} {M : Nat} (h4 : y.shelf.length = 4) (hM : ∀ s ∈ y.shelf, s.length ≤ M) (h8 : y.runs.length ≤ 8) (hr : ∀ k (h : k < y.runs.length), runP y.runs[k]) : cntYard y ≤ 4 * (M + 1) + 344 := by
 have h1 : cntL cntEntryS y.shelf ≤ y.shelf.length * (M + 1) := cntL_le (fun s hs => by
  have e : cntEntryS s = s.length := cntL_zero (fun _ => rfl) _
  rw [e]
  exact hM s hs)
 have h2 : cntL cntRun y.runs ≤ y.runs.length * (42 + 1) := cntL_le (fun r hr' => by
  obtain ⟨k, hk, rfl⟩ := List.getElem_of_mem hr'
  exact run_small (hr k hk))
 rw [h4] at h1
 have h3 : y.runs.length * (42 + 1) ≤ 8 * 43 := Nat.mul_le_mul_right _ h8
 unfold cntYard
 omega
/-- a yard of which some runs were turned -/
structure Trn (y : Yard) (m : Nat) (z : Yard) : Prop where
 now : z.now = y.now
 four : z.shelf.length = 4
 all : ∀ s ∈ z.shelf, s.length ≤ 80 + 12 * m
 seq : 1 ≤ z.seq ∧ z.seq ≤ 1000000000 + 12 * m
 len : z.runs.length = y.runs.length
 le8 : z.runs.length ≤ 8
 run : ∀ k (h : k < z.runs.length) (h' : k < y.runs.length), runP z.runs[k] ∧ z.runs[k].id = y.runs[k].id ∧ z.runs[k].tasks.length = y.runs[k].tasks.length
theorem Trn.start {y : Yard} (h : yardP y) : Trn y 0 y :=
 ⟨rfl, h.2.2.1, fun s hs => by have := (h.2.2.2.1 s hs).1; omega, by have := h.2.1; omega, rfl, h.2.2.2.2.2.2.1, fun k hk _ => ⟨yard_runs h hk, rfl, rfl⟩⟩
theorem Trn.mono {y z : Yard} {m n : Nat} (h : Trn y m z) (hm : m ≤ n) : Trn y n z :=
 ⟨h.now, h.four, fun s hs => by have := h.all s hs; omega, by have := h.seq; omega, h.len, h.le8, h.run⟩
theorem turnY_lay (y : Yard) (k : Nat) (r : Run) (hk : k < y.runs.length) : turnY y k r = layN ⟨y.now, y.seq, y.shelf, y.runs.set k r⟩ y.runs[k] r r.tasks.length := by
 unfold turnY
 rw [List.getD_eq_getElem?_getD, List.getElem?_eq_getElem hk]
 rfl
theorem Trn.step {y z : Yard} {m : Nat} (h : Trn y m z) {k u : Nat} (hk : k < z.runs.length) (hr : runsP z.runs[k] u) : Trn y (m + 1) (turnY z k (failsR z.runs[k] u)) := by
 have hR := failsR_runP hr
 have hL := runP_len hR
 rw [turnY_lay _ _ _ hk]
 have hF := layN_f (y := ⟨z.now, z.seq, z.shelf, z.runs.set k (failsR z.runs[k] u)⟩) (was := z.runs[k]) (r := failsR z.runs[k] u) h.all (failsR z.runs[k] u).tasks.length
 generalize layN ⟨z.now, z.seq, z.shelf, z.runs.set k (failsR z.runs[k] u)⟩ z.runs[k] (failsR z.runs[k] u) (failsR z.runs[k] u).tasks.length = Z at *
 have e : Z.runs = z.runs.set k (failsR z.runs[k] u) := hF.runs
 refine ⟨hF.now.trans h.now, hF.len.trans h.four, fun s hs => by have := hF.all s hs; omega, ?_, by rw [e, List.length_set]; exact h.len, by rw [e, List.length_set]; exact h.le8, fun j hj hj' => ?_⟩
 ·have h1 := hF.seq
  have h2 := h.seq
  dsimp only at h1
  omega
 ·have hjz : j < z.runs.length := by rw [h.len]; exact hj'
  have e2 : Z.runs[j] = if k = j then failsR z.runs[k] u else z.runs[j] := by
   rw [show Z.runs[j] = (z.runs.set k (failsR z.runs[k] u))[j]'(by rw [List.length_set]; exact hjz) by simp only [e], List.getElem_set]
  rw [e2]
  have h1 := h.run j hjz hj'
  split
  ·next hkj =>
   subst hkj
   exact ⟨hR, (failsR_id _ _).1.trans h1.2.1, (failsR_len _ _).trans h1.2.2⟩
  ·exact h1
theorem Trn.cnt {y z : Yard} {m : Nat} (h : Trn y m z) (hm : m ≤ 1000) : cntYard z ≤ 2000000 := by
 have := cnt_small h.four h.all h.le8 (fun k hk => (h.run k hk (by rw [← h.len]; exact hk)).1)
 omega
theorem idxOf_congr {α : Type} {p : α → Bool} {l l' : List α} (hl : l.length = l'.length) (h : ∀ k (h1 : k < l.length) (h2 : k < l'.length), p l[k] = p l'[k]) : idxOf p l = idxOf p l' := by
 rcases idxOf_range p l' with e | ⟨k, hk, e⟩
 ·rw [e]
  refine idxOf_none (fun j hj => ?_)
  rw [h j hj (by omega)]
  unfold idxOf at e
  cases q : l'.findIdx? p with
  | none =>
   rw [List.findIdx?_eq_none_iff] at q
   exact q _ (List.getElem_mem _)
  | some i => rw [q] at e; exact absurd e (by simp)
 ·rw [e]
  unfold idxOf at e
  cases q : l'.findIdx? p with
  | none => rw [q] at e; exact absurd e (by simp)
  | some i =>
   rw [q] at e
   have e' : i = k := Int.ofNat.inj e
   subst e'
   obtain ⟨h1, h2, h3⟩ := List.findIdx?_eq_some_iff_getElem.1 q
   exact idxOf_found (by omega) (fun j hj => by rw [h j (by omega) (by omega)]; simpa using h3 j hj) (by rw [h i (by omega) hk]; exact h2)
theorem Trn.runAt {y z : Yard} {m : Nat} (h : Trn y m z) (id : Int) : runAt z id = runAt y id := by
 rw [runAt_idx h.le8, runAt_idx (by rw [← h.len]; exact h.le8)]
 exact idxOf_congr h.len (fun k h1 h2 => by unfold hasId; rw [(h.run k h1 h2).2.1])
end Go.Proofs.Ytonlnjdempbfoaa
end
section
namespace Go.Proofs.Ytonlnjdempbfoaa
open Go.RowKit
set_option maxRecDepth 100000
set_option linter.unusedVariables false
set_option linter.unusedSimpArgs false
theorem behindL_lt (es : List (Nat × Nat)) (T t : Nat) : ∀ x ∈ behindL es T t, x < T := by
 induction T with
 | zero =>
  intro x hx
  have := behindL_len es 0 t
  have h0 : behindL es 0 t = [] := List.eq_nil_of_length_eq_zero (by omega)
  rw [h0] at hx
  cases hx
 | succ T ih =>
  intro x hx
  rw [behindL_succ] at hx
  rcases List.mem_append.1 hx with h | h
  ·have := ih x h; omega
  ·unfold onceL at h
   split at h
   ·simp at h; omega
   ·cases h
/-- the tasks of a run of which one is done, behind k of those that wait for it -/
def doneL (r : Run) (u : Nat) (L : List Nat) : List Task := L.foldl (fun l b => modT l b needLess) (modT r.tasks u fun x => ⟨4, x.need, x.try_, 0⟩)
theorem doneL_len (r : Run) (u : Nat) : ∀ (L : List Nat) (l : List Task), (L.foldl (fun l b => modT l b needLess) l).length = l.length
 | [], l => rfl
 | b :: L, l => by rw [List.foldl_cons, doneL_len r u L, modT_len]
theorem fold_need (L : List Nat) : ∀ (l : List Task) (m : Int), (∀ x ∈ l, -m ≤ x.need ∧ x.need ≤ 1000 ∧ 1 ≤ x.state ∧ x.state ≤ 6) → (0 ≤ m) → ∀ x ∈ L.foldl (fun l b => modT l b needLess) l, -(m + L.length) ≤ x.need ∧ x.need ≤ 1000 ∧ 1 ≤ x.state ∧ x.state ≤ 6 := by
 induction L with
 | nil => intro l m h _ x hx; have := h x hx; simp; exact this
 | cons b L ih =>
  intro l m h hm x hx
  rw [List.foldl_cons] at hx
  have h1 : ∀ x ∈ modT l b needLess, -(m + 1) ≤ x.need ∧ x.need ≤ 1000 ∧ 1 ≤ x.state ∧ x.state ≤ 6 := by
   intro x hx
   unfold modT at hx
   rcases List.mem_or_eq_of_mem_set hx with h2 | h2
   ·have := h x h2; omega
   ·subst h2
    by_cases hb : b < l.length
    ·rw [List.getD_eq_getElem?_getD, List.getElem?_eq_getElem hb]
     have := h _ (List.getElem_mem hb)
     simp only [Option.getD_some, needLess]
     split <;> omega
    ·rw [List.set_eq_of_length_le (by omega)] at hx
     have := h _ hx
     omega
  have := ih _ (m + 1) h1 (by omega) x hx
  rw [List.length_cons]
  omega
end Go.Proofs.Ytonlnjdempbfoaa
end
section
namespace Go.Proofs.Ytonlnjdempbfoaa
open Go.RowKit
set_option maxRecDepth 100000
set_option linter.unusedVariables false
set_option linter.unusedSimpArgs false
theorem mem_putE {l : List Entry} {e x : Entry} (h : x ∈ putE l e) : x ∈ l ∨ x = e := by
 unfold putE at h
 rcases List.mem_append.1 h with h | h
 ·exact .inl ((List.takeWhile_prefix _).sublist.subset h)
 ·rcases List.mem_cons.1 h with h | h
  ·exact .inr h
  ·exact .inl ((List.dropWhile_suffix _).sublist.subset h)
theorem mem_foldl_putE (b : List Entry) : ∀ (a : List Entry) {x : Entry}, x ∈ b.foldl putE a → x ∈ a ∨ x ∈ b := by
 induction b with
 | nil => intro a x h; exact .inl h
 | cons e b ih =>
  intro a x h
  rw [List.foldl_cons] at h
  rcases ih _ h with h | h
  ·rcases mem_putE h with h | h
   ·exact .inl h
   ·exact .inr (by rw [h]; exact List.mem_cons_self ..)
  ·exact .inr (List.mem_cons_of_mem _ h)
theorem mem_mergedE {a b : List Entry} {x : Entry} (h : x ∈ mergedE a b) : x ∈ a ∨ x ∈ b := by
 unfold mergedE at h
 split at h
 ·exact .inl h
 ·exact mem_foldl_putE b a h
theorem runAt_runs {y z : Yard} (h : z.runs = y.runs) (id : Int) : runAt z id = runAt y id := by unfold runAt; rw [h]
theorem freshB_runs {y z : Yard} (h : z.runs = y.runs) (e : Entry) : freshB z e = freshB y e := by
 unfold freshB
 apply tf_congr
 have hk : runK z e.run = runK y e.run := by unfold runK; rw [h, runAt_runs h]
 unfold freshP
 rw [hk, runAt_runs h]
theorem shelf_getD {y : Yard} {i : Nat} (h : i < y.shelf.length) : y.shelf.getD i [] = y.shelf[i] := by
 rw [List.getD_eq_getElem?_getD, List.getElem?_eq_getElem h]; rfl
/-- what a yard becomes where it is swept, and halves are taken -/
structure Pol (y : Yard) (home : Nat) (z : Yard) : Prop where
 now : z.now = y.now
 seq : z.seq = y.seq
 runs : z.runs = y.runs
 four : z.shelf.length = 4
 all : ∀ s ∈ z.shelf, s.length ≤ 80
 fresh : ∀ e ∈ z.shelf.getD home [], freshB y e = true
theorem swept_len (y : Yard) (i : Nat) : (sweptY y i).shelf.length = y.shelf.length := by unfold sweptY; simp
theorem swept_all {y : Yard} {i M : Nat} (h : ∀ s ∈ y.shelf, s.length ≤ M) : ∀ s ∈ (sweptY y i).shelf, s.length ≤ M := by
 intro s hs
 unfold sweptY at hs
 rcases List.mem_or_eq_of_mem_set hs with h1 | h1
 ·exact h s h1
 ·subst h1
  refine Nat.le_trans (List.length_filter_le _ _) ?_
  rw [List.getD_eq_getElem?_getD]
  cases q : y.shelf[i]? with
  | none => simp
  | some s => exact h s (List.mem_of_getElem? q)
theorem swept_at {y : Yard} {i : Nat} (h : i < y.shelf.length) : (sweptY y i).shelf.getD i [] = (y.shelf[i]).filter fun e => freshB y e := by
 rw [shelf_getD (by rw [swept_len]; exact h)]
 unfold sweptY
 simp only [List.getElem_set_self]
 rw [shelf_getD h]
theorem swept_off {y : Yard} {i j : Nat} (h : i ≠ j) : (sweptY y i).shelf.getD j [] = y.shelf.getD j [] := by
 unfold sweptY
 simp only [List.getD_eq_getElem?_getD, List.getElem?_set_ne h]
theorem Pol.start {y : Yard} (h : yardP y) {home : Nat} (hh : home < 4) : Pol y home (sweptY y home) := by
 have h4 := h.2.2.1
 refine ⟨rfl, rfl, rfl, by rw [swept_len]; exact h4, swept_all (fun s hs => (h.2.2.2.1 s hs).1), fun e he => ?_⟩
 rw [swept_at (by omega)] at he
 exact (List.mem_filter.1 he).2
theorem half_take_len (l : List Entry) (h : l.length ≤ 80) : (l.take (halfN l)).length ≤ 80 := by rw [List.length_take]; omega
/-- the yard behind one victim, where one's own shelf is empty -/
noncomputable def stolen (home : Nat) (y : Yard) (v : Nat) : Yard :=
 ⟨y.now, y.seq, ((sweptY y v).shelf.set v (((sweptY y v).shelf.getD v []).drop (halfN ((sweptY y v).shelf.getD v [])))).set home (mergedE [] (((sweptY y v).shelf.getD v []).take (halfN ((sweptY y v).shelf.getD v [])))), y.runs⟩
theorem takeY_no {home : Nat} {y : Yard} {v : Nat} (h : ¬ (y.shelf.getD home []).length = 0) : takeY_ home y v = y := by unfold takeY_; rw [if_neg h]
theorem takeY_yes {home : Nat} {y : Yard} {v : Nat} (h : (y.shelf.getD home []).length = 0) (hv : v ≠ home) : takeY_ home y v = stolen home y v := by
 unfold takeY_
 rw [if_pos h]
 unfold stolen
 have e : ((sweptY y v).shelf.set v (((sweptY y v).shelf.getD v []).drop (halfN ((sweptY y v).shelf.getD v [])))).getD home [] = [] := by
  rw [List.getD_eq_getElem?_getD, List.getElem?_set_ne hv, ← List.getD_eq_getElem?_getD, swept_off hv]
  exact List.eq_nil_of_length_eq_zero h
 simp only [e]
 rfl
theorem stolen_shelf {home : Nat} {y : Yard} {v : Nat} (h4 : y.shelf.length = 4) (hh : home < 4) : (stolen home y v).shelf.getD home [] = mergedE [] (((sweptY y v).shelf.getD v []).take (halfN ((sweptY y v).shelf.getD v []))) := by
 rw [shelf_getD (by unfold stolen; simp [sweptY]; omega)]
 unfold stolen
 simp only [List.getElem_set_self]
theorem Pol.step {y z : Yard} {home v : Nat} (h : Pol y home z) (hh : home < 4) (hv : v < 4) (hne : v ≠ home) : Pol y home (takeY_ home z v) := by
 by_cases q : (z.shelf.getD home []).length = 0
 ·rw [takeY_yes q hne]
  have hsw : ∀ e ∈ (sweptY z v).shelf.getD v [], freshB y e = true := by
   intro e he
   rw [swept_at (by rw [h.four]; exact hv)] at he
   rw [← freshB_runs h.runs]
   exact (List.mem_filter.1 he).2
  have hsa := swept_all (i := v) h.all
  have hlv : ((sweptY z v).shelf.getD v []).length ≤ 80 := by
   rw [shelf_getD (by rw [swept_len, h.four]; exact hv)]
   exact hsa _ (List.getElem_mem _)
  refine ⟨h.now, h.seq, h.runs, by unfold stolen; simp [sweptY]; exact h.four, fun s hs => ?_, fun e he => ?_⟩
  ·unfold stolen at hs
   rcases List.mem_or_eq_of_mem_set hs with h1 | h1
   ·rcases List.mem_or_eq_of_mem_set h1 with h2 | h2
    ·exact hsa s h2
    ·subst h2; rw [List.length_drop]; omega
   ·subst h1
    refine Nat.le_trans (mergedE_len _ _) ?_
    have := half_take_len _ hlv
    simp only [List.length_nil, Nat.zero_add]
    exact this
  ·rw [stolen_shelf h.four hh] at he
   rcases mem_mergedE he with h1 | h1
   ·cases h1
   ·exact hsw e (List.mem_of_mem_take h1)
 ·rw [takeY_no q]; exact h
theorem Pol.cnt {y z : Yard} {home : Nat} (h : Pol y home z) (hy : yardP y) : cntYard z ≤ 2000000 := by
 have := cnt_small h.four h.all (by rw [h.runs]; exact hy.2.2.2.2.2.2.1) (fun k hk => by
  have hk' : k < y.runs.length := by rw [← h.runs]; exact hk
  have e : z.runs[k] = y.runs[k] := by simp only [h.runs]
  rw [e]
  exact yard_runs hy hk')
 omega
theorem victims_lt {home draw : Int} : ∀ v ∈ victims home draw, v < 4 := by
 intro v hv
 unfold victims at hv
 obtain ⟨i, _, rfl⟩ := List.mem_map.1 hv
 exact Nat.mod_lt _ (by decide)
theorem victims_ne {home draw : Int} (h0 : 0 ≤ home) (h : home < 4) : ∀ v ∈ victims home draw, v ≠ home.toNat := by
 intro v hv
 unfold victims at hv
 obtain ⟨i, _, rfl⟩ := List.mem_map.1 hv
 have := Nat.mod_lt ((max draw 0 % 3).toNat + i) (show 0 < 3 by decide)
 omega
theorem victims_len (home draw : Int) : (victims home draw).length = 3 := by unfold victims; simp
/-- the yard, its own shelf swept, and halves taken -/
noncomputable def gotY (y : Yard) (home draw : Int) : Yard := (victims home draw).foldl (takeY_ home.toNat) (sweptY y home.toNat)
theorem Pol.fold {y : Yard} {home : Nat} (hh : home < 4) : ∀ (l : List Nat) (z : Yard), Pol y home z → (∀ v ∈ l, v < 4 ∧ v ≠ home) → Pol y home (l.foldl (takeY_ home) z)
 | [], _, h, _ => h
 | v :: l, z, h, hl => Pol.fold hh l _ (h.step hh (hl v (List.mem_cons_self ..)).1 (hl v (List.mem_cons_self ..)).2) (fun x hx => hl x (List.mem_cons_of_mem _ hx))
theorem takeY_fold_no {home : Nat} : ∀ (l : List Nat) (z : Yard), ¬ (z.shelf.getD home []).length = 0 → l.foldl (takeY_ home) z = z
 | [], _, _ => rfl
 | v :: l, z, h => by rw [List.foldl_cons, takeY_no h]; exact takeY_fold_no l z h
/-- what is handed out: the yard behind it, and the answer -/
noncomputable def pollM (z : Yard) (home : Nat) : List Entry → Yard × Reply
 | [] => (z, ⟨9, 0, 0, 0⟩)
 | e :: rest => (⟨z.now, z.seq, z.shelf.set home rest, z.runs.set (runAt z e.run).toNat (startR (runK z e.run) e.task.toNat z.now)⟩, ⟨0, e.run, e.task, (taskAt (runK z e.run) e.task.toNat).try_ + 1⟩)
noncomputable def pollO (z : Yard) (home : Nat) : Yard × Reply := pollM z home (z.shelf.getD home [])
open Classical in
noncomputable def pollR (y : Yard) (worker draw : Int) : Yard × Reply :=
 if ¬ yardP y then (y, ⟨8, 0, 0, 0⟩) else if inB worker 0 99 = false then (y, ⟨5, 0, 0, 0⟩) else pollO (gotY y (worker % 4) draw) (worker % 4).toNat
end Go.Proofs.Ytonlnjdempbfoaa
end
section
namespace Go.Proofs.Ytonlnjdempbfoaa
open Go.RowKit
set_option maxRecDepth 100000
set_option maxHeartbeats 2000000
set_option linter.unusedVariables false
set_option linter.unusedSimpArgs false
theorem RunDone_res {b : Nat} {w : World} {u0 u1 u2 u3 u4 u5 u6 u7 : Value} (X : DBox b [u0, u1, u2, u3, u4, u5, u6, u7] w) {v0 v1 v2 v3 : Value} {rest : List Value} :
  (results Try.f75 (v0 :: v1 :: v2 :: v3 :: .pointer (some ⟨b, 0, none⟩) :: rest).toArray).run Try.prog w = .ok (.agg #[u0, u1, u2, u3, u4, u5, u6, u7]) w := by
 have c0 := X.cell 0 _ rfl
 have c1 := X.cell 1 _ rfl
 have c2 := X.cell 2 _ rfl
 have c3 := X.cell 3 _ rfl
 have c4 := X.cell 4 _ rfl
 have c5 := X.cell 5 _ rfl
 have c6 := X.cell 6 _ rfl
 have c7 := X.cell 7 _ rfl
 simp [results, Try.results75, go_sem, c0, c1, c2, c3, c4, c5, c6, c7]
theorem Hw.taskUn' {w : World} {F : List Nat} {b o n c : Nat} {l : List Task} {j : Nat} {y : Task} (h : Hw tskE w F (.slice (some ⟨b, o, none⟩) n c) (l.set j y)) (hj : j < l.length) (st : Int) :
  Hw tskE (w.setCell ⟨b, o + j * 4 + 3, none⟩ (.int .i64 st)) F (.slice (some ⟨b, o, none⟩) n c) (l.set j ⟨y.state, y.need, y.try_, st⟩) := by
 have := h.taskUntil (j := j) (by rw [List.length_set]; exact hj) st
 rw [List.getElem_set_self, List.set_set] at this
 exact this
theorem specDone_own (r : Run) (s : Sl × Sl) (u : Nat) (w : World) (hl : cntRun r ≤ 2000000) (hR : runsP r u) (h : runD.rd w w.heap.size r s) :
  Calls Try.prog 75 #[runW r s, .int .i64 u] w (OwnPost runD runW (doneR r u) w) := by
 have CP := Lib.hid (fun W (hW : Below w.heap.size w W) => specCopyRun_own r s W hl (runD.rd_more (runD.rd_below h hW) hW.size))
 have CR := Lib.hid (fun W (hW : Below w.heap.size w W) => specRuns_any r s u W hl (runD.rd_more (runD.rd_below h hW) hW.size))
 rw [tf_true hR] at CR
 have ht : u < r.tasks.length := by have := hR.2.1.2; omega
 have hlen : r.tasks.length ≤ 2000000 := Nat.le_trans (cntL_len cntTask _) (by unfold cntRun at hl; omega)
 have htk := Lib.hid (taskAt_get ht)
 obtain ⟨⟨A1, n1, c1⟩, ⟨A2, n2, c2⟩⟩ := s
 obtain rfl : n2 = r.tasks.length := RdL.at1 (s := ⟨A2, n2, c2⟩) h.2
 obtain rfl : n1 = r.plan.edges.length := RdL.at1 (s := ⟨A1, n1, c1⟩) h.1
 have hRP := Lib.hid hR.1
 have hEd := Lib.hid (fun W (hW : Below w.heap.size w W) => (edge_rd h.1).below hW)
 clear h hl hR
 have htI : (u : Int) < (r.tasks.length : Int) := by omega
 have ht0 : (0 : Int) ≤ (u : Int) := by omega
 have X := (DBox.new 98 [.int .i64 r.id, .int .i64 r.plan.prio, .int .i64 r.plan.most, .int .i64 r.plan.wait, .int .i64 r.plan.tasks, .slice A1 r.plan.edges.length c1, .int .i64 r.state, .slice A2 r.tasks.length c2] w (b := w.heap.size) rfl).below ((Below.refl _ _).alloc (Nat.le_refl _) (.cells #[.int .i64 0, .int .i64 0, .int .i64 0, .int .i64 0, .int .i64 0, .slice none 0 0, .int .i64 0, .slice none 0 0] 98))
 have RES := DBox.new 98 [.int .i64 0, .int .i64 0, .int .i64 0, .int .i64 0, .int .i64 0, .slice none 0 0, .int .i64 0, .slice none 0 0] (w.alloc (.cells #[.int .i64 r.id, .int .i64 r.plan.prio, .int .i64 r.plan.most, .int .i64 r.plan.wait, .int .i64 r.plan.tasks, .slice A1 r.plan.edges.length c1, .int .i64 r.state, .slice A2 r.tasks.length c2] 98)) (b := w.heap.size + 1) (by simp)
 have B0 : Below w.heap.size w ((w.alloc (.cells #[.int .i64 r.id, .int .i64 r.plan.prio, .int .i64 r.plan.most, .int .i64 r.plan.wait, .int .i64 r.plan.tasks, .slice A1 r.plan.edges.length c1, .int .i64 r.state, .slice A2 r.tasks.length c2] 98)).alloc (.cells #[.int .i64 0, .int .i64 0, .int .i64 0, .int .i64 0, .int .i64 0, .slice none 0 0, .int .i64 0, .slice none 0 0] 98)) := by repeat (first | exact Below.refl _ _ | refine Below.alloc ?_ (by simp <;> omega) _)
 go_enter Try.func75, Try.ntmps75
 go_wp2_with fail
 refine (CP.out _ B0).mono ?_
 rintro e w1 ⟨⟨⟨A3, n3, c3⟩, ⟨A4, n4, c4⟩⟩, F, rfl, o1, nF, b1⟩
 obtain ⟨F1, F2, rfl, hnd, op, ot⟩ := o1
 replace ot : OwL taskD w1 F2 (.slice A4 n4 c4) r.tasks := ot
 have hFlt := Lib.hid (planD.ow_lt op)
 obtain rfl : n4 = r.tasks.length := RdL.at1 (s := ⟨A4, n4, c4⟩) ot.rd
 have oh := task_hw ot
 clear ot CP
 obtain ⟨b, o, rfl, hbb, d0, d1, d2, d3⟩ := oh.rd.tsk ht
 clear d0 d1 d2 d3
 have hBw := B0.size
 obtain ⟨rfl, hbw, hbf⟩ := oh.block (by omega)
 have hbn := nF b (by simp)
 have hXl := X.lt
 have hRl := RES.lt
 replace B0 := bnext B0 b1
 replace X := X.below b1
 replace RES := RES.below b1
 clear b1
 go_upto_region 2 with fail
 have OB := DBox.new 98 [.int .i64 r.id, .int .i64 r.plan.prio, .int .i64 r.plan.most, .int .i64 r.plan.wait, .int .i64 r.plan.tasks, .slice A3 n3 c3, .int .i64 r.state, .slice (some ⟨b, o, none⟩) r.tasks.length c4] w1 (b := w1.heap.size) rfl
 have b2 : Below w1.heap.size w1 (w1.alloc (.cells #[.int .i64 r.id, .int .i64 r.plan.prio, .int .i64 r.plan.most, .int .i64 r.plan.wait, .int .i64 r.plan.tasks, .slice A3 n3 c3, .int .i64 r.state, .slice (some ⟨b, o, none⟩) r.tasks.length c4] 98)) := (Below.refl _ _).alloc (Nat.le_refl _) _
 have B2 := bnext B0 b2
 replace X := X.below b2
 replace RES := RES.below b2
 replace oh := oh.below b2
 have op2 := planD.ow_below op b2
 have hs2 := b2.size
 have ow1 := OB.lt
 clear op
 generalize w1.alloc (.cells #[.int .i64 r.id, .int .i64 r.plan.prio, .int .i64 r.plan.most, .int .i64 r.plan.wait, .int .i64 r.plan.tasks, .slice A3 n3 c3, .int .i64 r.state, .slice (some ⟨b, o, none⟩) r.tasks.length c4] 98) = w2 at *
 obtain ⟨X_0, X_1, X_2, X_3, X_4, X_5, X_6, X_7, X_l⟩ := X.g8
 go_wp2_with fail
 refine (CR.out _ B2).mono ?_
 rintro e w3 ⟨rfl, b3⟩
 have B3 := bnext B2 b3
 clear X_0 X_1 X_2 X_3 X_4 X_5 X_6 X_7 X_l
 replace X := X.below b3
 replace RES := RES.below b3
 replace OB := OB.below b3
 replace oh := oh.below b3
 have op3 := planD.ow_below op2 b3
 have hs3 := b3.size
 clear op2 CR b3
 obtain ⟨X_0, X_1, X_2, X_3, X_4, X_5, X_6, X_7, X_l⟩ := X.g8
 obtain ⟨OB_0, OB_1, OB_2, OB_3, OB_4, OB_5, OB_6, OB_7, OB_l⟩ := OB.g8
 obtain ⟨b', o', hA', hbb', d0, d1, d2, d3⟩ := oh.rd.tsk ht
 simp only [Option.some.injEq, Addr.mk.injEq, and_true] at hA'
 obtain ⟨rfl, rfl⟩ := hA'
 have hff := (oh.block (by omega)).2.2
 have hbF1 : b ∉ F1 := fun hx => (List.nodup_append.1 hnd).2.2 b hx b (by simp) rfl
 go_upto_region 6 with fail
 have oh4 : Hw tskE ((w3.setCell ⟨b, o + u * 4, none⟩ (.int .i64 4)).setCell ⟨b, o + u * 4 + 3, none⟩ (.int .i64 0)) [b] (.slice (some ⟨b, o, none⟩) r.tasks.length c4) (r.tasks.set u ⟨4, r.tasks[u].need, r.tasks[u].try_, 0⟩) := (oh.taskState ht 4).taskUn' ht 0
 have hC : Chg [b] w3 ((w3.setCell ⟨b, o + u * 4, none⟩ (.int .i64 4)).setCell ⟨b, o + u * 4 + 3, none⟩ (.int .i64 0)) := (Chg.setCell w3 b _ _).trans (Chg.setCell _ b _ _)
 have op4 := planD.ow_chg op3 hC (fun x hx h => by simp only [List.mem_singleton] at h; subst h; exact hbF1 hx)
 have B4 : Below w.heap.size w ((w3.setCell ⟨b, o + u * 4, none⟩ (.int .i64 4)).setCell ⟨b, o + u * 4 + 3, none⟩ (.int .i64 0)) := by
  repeat (first | (with_reducible exact B3) | refine Below.setCell ?_ (by simp <;> omega) _)
 clear OB_0 OB_1 OB_2 OB_3 OB_4 OB_5 OB_6 OB_7 OB_l
 clear X_0 X_1 X_2 X_3 X_4 X_5 X_6 X_7 X_l
 clear d0 d1 d2 d3 hbb' hff
 replace OB := OB.chg hC (by simp only [List.mem_singleton]; omega)
 replace X := X.chg hC (by simp only [List.mem_singleton]; omega)
 replace RES := RES.chg hC (by simp only [List.mem_singleton]; omega)
 have hs4 := hC.size
 clear hC oh op3
 generalize ((w3.setCell ⟨b, o + u * 4, none⟩ (.int .i64 4)).setCell ⟨b, o + u * 4 + 3, none⟩ (.int .i64 0)) = w4 at *
 obtain ⟨X_0, X_1, X_2, X_3, X_4, X_5, X_6, X_7, X_l⟩ := X.g8
 have hF0 := planFault_zero.1 hRP.out.2.1
 have CB := Lib.hid (specBehind_any r.plan (.slice A1 r.plan.edges.length c1) u w4 hF0.1 hF0.2.1 hF0.2.2.1 ((hEd.out w4 B4).more B4.size))
 have hBL := Lib.hid (behindL_lt (esOf r.plan) r.plan.tasks.toNat u)
 have hBn := Lib.hid (behindL_len (esOf r.plan) r.plan.tasks.toNat u)
 have hD0 : Hid (doneR r u = ⟨r.id, r.plan, stL (doneL r u (behindL (esOf r.plan) r.plan.tasks.toNat u)), doneL r u (behindL (esOf r.plan) r.plan.tasks.toNat u)⟩) := rfl
 clear hF0
 generalize behindL (esOf r.plan) r.plan.tasks.toNat u = BL at *
 go_wp2_with fail
 refine CB.out.mono ?_
 rintro e w5 ⟨vb, rfl, ob, b5⟩
 obtain ⟨A9, c9, rfl, -⟩ := id (Rd.of_own ob)
 have B5 := bnext B4 b5
 have hs5 := b5.size
 have oh5 := oh4.below b5
 have op5 := planD.ow_below op4 b5
 clear X_0 X_1 X_2 X_3 X_4 X_5 X_6 X_7 X_l
 replace OB := OB.below b5
 replace RES := RES.below b5
 have hb4 : b < w4.heap.size := by omega
 obtain ⟨hob, hobB⟩ := Hw.of_ow ob
 have HB := Lib.hid (fun W (hW : Chg [b] w5 W) => (hob.chg hW (fun x hx h => by simp only [List.mem_singleton] at h; subst h; have := hobB _ hx; omega)).rd)
 have hA9 : Hid (∀ g o, A9 = some ⟨g, o, none⟩ → 0 < BL.length → w4.heap.size ≤ g) := fun g o h hp => hobB g (by
  subst h
  unfold blocks
  rw [if_neg (by omega)]
  exact List.mem_singleton.2 rfl)
 have hL0 : Hid (modT r.tasks u (fun x => ⟨4, x.need, x.try_, 0⟩) = r.tasks.set u ⟨4, r.tasks[u].need, r.tasks[u].try_, 0⟩) := modT_eq ht _
 have hall : ∀ x ∈ r.tasks, 0 ≤ x.need ∧ x.need ≤ 1000 ∧ 1 ≤ x.state ∧ x.state ≤ 6 := by
  intro x hx
  obtain ⟨j, hj, rfl⟩ := List.getElem_of_mem hx
  have h1 := hRP.out.2.2.2.1 j hj
  unfold taskP taskQ at h1
  rw [taskAt_get hj] at h1
  have h2 := openIn_le r (beforeL (esOf r.plan) r.plan.tasks.toNat j)
  have h3 := beforeL_len (esOf r.plan) r.plan.tasks.toNat j
  have h4 := (runP_len hRP.out).2
  have h5 := hRP.out.2.2.1
  have h6 : needOf r j ≤ 12 := by unfold needOf; omega
  omega
 have hbnd : Hid (∀ x ∈ r.tasks.set u ⟨4, r.tasks[u].need, r.tasks[u].try_, 0⟩, -0 ≤ x.need ∧ x.need ≤ 1000 ∧ 1 ≤ x.state ∧ x.state ≤ 6) := by
  intro x hx
  rcases List.mem_or_eq_of_mem_set hx with h | h
  ·have := hall x h; omega
  ·subst h
   have := hall _ (List.getElem_mem ht)
   refine ⟨?_, ?_, ?_, ?_⟩ <;> dsimp only <;> omega
 clear hall
 have hTl := Lib.hid (show r.plan.tasks.toNat = r.tasks.length by have := hRP.out.2.2.1; omega)
 generalize hL : r.tasks.set u ⟨4, r.tasks[u].need, r.tasks[u].try_, 0⟩ = L0 at *
 have hL0l := Lib.hid (show L0.length = r.tasks.length by rw [← hL, List.length_set])
 clear hL ob hob hobB X CB hEd
 go_wp2
 generalize runW r (⟨A1, r.plan.edges.length, c1⟩, ⟨A2, r.tasks.length, c2⟩) = rv
 go_loopw [7] (fun i wr => ∃ k : Nat, k ≤ BL.length ∧ i = .int .i64 k ∧ Hid (Hw tskE wr [b] (.slice (some ⟨b, o, none⟩) r.tasks.length c4) ((BL.take k).foldl (fun l b => modT l b needLess) L0)) ∧ DBox w1.heap.size [.int .i64 r.id, .int .i64 r.plan.prio, .int .i64 r.plan.most, .int .i64 r.plan.wait, .int .i64 r.plan.tasks, .slice A3 n3 c3, .int .i64 r.state, .slice (some ⟨b, o, none⟩) r.tasks.length c4] wr ∧ DBox (w.heap.size + 1) [.int .i64 0, .int .i64 0, .int .i64 0, .int .i64 0, .int .i64 0, .slice none 0 0, .int .i64 0, .slice none 0 0] wr ∧ Chg [b] w5 wr) (fun i _ => BL.length - (intOf i).toNat)
 case atStart => exact ⟨0, Nat.zero_le _, rfl, oh5, OB, RES, Chg.refl _ _⟩
 case round =>
  clear OB RES oh5
  obtain ⟨k, hk, rfl, hO, OB, RES, hb⟩ := hrel
  by_cases hlt : k < BL.length
  ·have hltI : (k : Int) < (BL.length : Int) := by omega
   have hx := Lib.hid (hBL.out _ (List.getElem_mem hlt))
   have hLl := Lib.hid (show ((BL.take k).foldl (fun l b => modT l b needLess) L0).length = r.tasks.length by rw [doneL_len r u, hL0l.out])
   have hbk := Lib.hid (fold_need (BL.take k) L0 0 hbnd.out (Int.le_refl 0))
   have hstep := Lib.hid (show (BL.take (k + 1)).foldl (fun l b => modT l b needLess) L0 = modT ((BL.take k).foldl (fun l b => modT l b needLess) L0) BL[k] needLess from fold_take (fun l b => modT l b needLess) L0 BL k hlt)
   have hkl : (BL.take k).length ≤ r.tasks.length := by have := hBn.out; have := hTl.out; rw [List.length_take]; omega
   obtain ⟨b9, o9, rfl, hb9, e0⟩ := (HB.out wr hb).nat hlt
   generalize BL[k] = x at *
   generalize (BL.take k).foldl (fun l b => modT l b needLess) L0 = Lk at *
   have hxl : x < Lk.length := by have := hx.out; have := hTl.out; have := hLl.out; omega
   have hxI : (x : Int) < (r.tasks.length : Int) := by have := hx.out; have := hTl.out; omega
   have hx0 : (0 : Int) ≤ (x : Int) := by omega
   have hBs : BL.length ≤ 2000000 := by have := hBn.out; have := hTl.out; omega
   have hb9w := hA9.out b9 o9 rfl (by omega)
   have hk0 : (0 : Int) ≤ (k : Int) := by omega
   have hyb := hbk.out _ (List.getElem_mem hxl)
   have hfin := Lib.hid (hstep.out.trans (modT_eq hxl needLess))
   clear hstep
   obtain ⟨OB_0, OB_1, OB_2, OB_3, OB_4, OB_5, OB_6, OB_7, OB_l⟩ := OB.g8
   obtain ⟨RES_0, RES_1, RES_2, RES_3, RES_4, RES_5, RES_6, RES_7, RES_l⟩ := RES.g8
   obtain ⟨b', o', hA', hbb', d0, d1, d2, d3⟩ := hO.out.rd.tsk hxl
   simp only [Option.some.injEq, Addr.mk.injEq, and_true] at hA'
   obtain ⟨rfl, rfl⟩ := hA'
   generalize Lk[x] = tx at *
   go_wp2
   have hs9 : b9 < wr.heap.size := by have := hb.size; omega
   have hs0 : b < wr.heap.size := by have := hb.size; omega
   have hSS := Lib.hid (show ∀ W', Below wr.heap.size wr W' → (fun w' => DBox w1.heap.size [.int .i64 r.id, .int .i64 r.plan.prio, .int .i64 r.plan.most, .int .i64 r.plan.wait, .int .i64 r.plan.tasks, .slice A3 n3 c3, .int .i64 r.state, .slice (some ⟨b, o, none⟩) r.tasks.length c4] w' ∧ w'.cell? ⟨b9, o9 + k, none⟩ = some (.int .i64 (x : Int)) ∧ w'.cell? ⟨b, o + x * 4, none⟩ = some (.int .i64 tx.state) ∧ w'.cell? ⟨b, o + x * 4 + 1, none⟩ = some (.int .i64 tx.need) ∧ w'.cell? ⟨b, o + x * 4 + 2, none⟩ = some (.int .i64 tx.try_) ∧ w'.cell? ⟨b, o + x * 4 + 3, none⟩ = some (.int .i64 tx.until_)) W' from fun W' hW' => ⟨OB.below hW', (hW'.cell (p := ⟨b9, _, none⟩) hs9).trans e0, (hW'.cell (p := ⟨b, _, none⟩) hs0).trans d0, (hW'.cell (p := ⟨b, _, none⟩) hs0).trans d1, (hW'.cell (p := ⟨b, _, none⟩) hs0).trans d2, (hW'.cell (p := ⟨b, _, none⟩) hs0).trans d3⟩)
   refine Go.wp_region_noPanic ?_
   refine wp_region_held_drew (S := (fun w' => DBox w1.heap.size [.int .i64 r.id, .int .i64 r.plan.prio, .int .i64 r.plan.most, .int .i64 r.plan.wait, .int .i64 r.plan.tasks, .slice A3 n3 c3, .int .i64 r.state, .slice (some ⟨b, o, none⟩) r.tasks.length c4] w' ∧ w'.cell? ⟨b9, o9 + k, none⟩ = some (.int .i64 (x : Int)) ∧ w'.cell? ⟨b, o + x * 4, none⟩ = some (.int .i64 tx.state) ∧ w'.cell? ⟨b, o + x * 4 + 1, none⟩ = some (.int .i64 tx.need) ∧ w'.cell? ⟨b, o + x * 4 + 2, none⟩ = some (.int .i64 tx.try_) ∧ w'.cell? ⟨b, o + x * 4 + 3, none⟩ = some (.int .i64 tx.until_))) (by kernel_rfl) (hSS.out _ (Below.refl _ _).drew) (fun hHeld => ?_)
   refine tZ 0 ?_ (hy := by (intro w' hSw; (try dsimp only at hSw); have h7 := hSw.1.cell 7 _ rfl; have g0 := hSw.2.1; have g1 := hSw.2.2.1; have g2 := hSw.2.2.2.1; have g3 := hSw.2.2.2.2.1; have g4 := hSw.2.2.2.2.2; go_simp; (try with_reducible rfl)))
   (try simp only [pS])
   refine tZ 1 ?_ (hy := by (intro w' hSw; (try dsimp only at hSw); have h7 := hSw.1.cell 7 _ rfl; have g0 := hSw.2.1; have g1 := hSw.2.2.1; have g2 := hSw.2.2.2.1; have g3 := hSw.2.2.2.2.1; have g4 := hSw.2.2.2.2.2; go_simp; (try with_reducible rfl)))
   (try simp only [pS])
   refine tZ 2 ?_ (hy := by (intro w' hSw; (try dsimp only at hSw); have h7 := hSw.1.cell 7 _ rfl; have g0 := hSw.2.1; have g1 := hSw.2.2.1; have g2 := hSw.2.2.2.1; have g3 := hSw.2.2.2.2.1; have g4 := hSw.2.2.2.2.2; go_simp; (try with_reducible rfl)))
   (try simp only [pS])
   refine tZ 3 ?_ (hy := by (intro w' hSw; (try dsimp only at hSw); have h7 := hSw.1.cell 7 _ rfl; have g0 := hSw.2.1; have g1 := hSw.2.2.1; have g2 := hSw.2.2.2.1; have g3 := hSw.2.2.2.2.1; have g4 := hSw.2.2.2.2.2; go_simp; (try with_reducible rfl)))
   (try simp only [pS])
   refine tZ 4 ?_ (hy := by (intro w' hSw; (try dsimp only at hSw); have h7 := hSw.1.cell 7 _ rfl; have g0 := hSw.2.1; have g1 := hSw.2.2.1; have g2 := hSw.2.2.2.1; have g3 := hSw.2.2.2.2.1; have g4 := hSw.2.2.2.2.2; go_simp; (try with_reducible rfl)))
   (try simp only [pS])
   refine tZ 5 ?_ (hy := by (intro w' hSw; (try dsimp only at hSw); have h7 := hSw.1.cell 7 _ rfl; have g0 := hSw.2.1; have g1 := hSw.2.2.1; have g2 := hSw.2.2.2.1; have g3 := hSw.2.2.2.2.1; have g4 := hSw.2.2.2.2.2; go_simp; (try with_reducible rfl)))
   (try simp only [pS])
   refine tZ 6 ?_ (hy := by (intro w' hSw; (try dsimp only at hSw); have h7 := hSw.1.cell 7 _ rfl; have g0 := hSw.2.1; have g1 := hSw.2.2.1; have g2 := hSw.2.2.2.1; have g3 := hSw.2.2.2.2.1; have g4 := hSw.2.2.2.2.2; go_simp; (try with_reducible rfl)))
   (try simp only [pS])
   refine tZ 7 ?_ (hy := by (intro w' hSw; (try dsimp only at hSw); have h7 := hSw.1.cell 7 _ rfl; have g0 := hSw.2.1; have g1 := hSw.2.2.1; have g2 := hSw.2.2.2.1; have g3 := hSw.2.2.2.2.1; have g4 := hSw.2.2.2.2.2; go_simp; (try with_reducible rfl)))
   (try simp only [pS])
   refine rC 8 (fun K_ hK => ?_)
   go_simp
   have bA : Below wr.heap.size wr ((wr.alloc (.cells #[.int .i64 0, .int .i64 0, .int .i64 0, .int .i64 0] 100)).drew) := ((Below.refl _ _).alloc (Nat.le_refl _) _).drew
   have XB := DBox.drew4 (DBox.new 100 [.int .i64 0, .int .i64 0, .int .i64 0, .int .i64 0] wr (b := wr.heap.size) rfl)
   generalize (wr.alloc (.cells #[.int .i64 0, .int .i64 0, .int .i64 0, .int .i64 0] 100)).drew = W1 at *
   refine hK.out _ _ (hSS.out _ bA) (fun hHeld => ?_)
   clear hK K_
   (try simp only [pS])
   have y0 := XB.cell 0 _ rfl
   have y1 := XB.cell 1 _ rfl
   have y2 := XB.cell 2 _ rfl
   have y3 := XB.cell 3 _ rfl
   have yf := XB.free
   have yl := XB.lt
   refine rC 9 (fun K_ hK => ?_)
   go_simp
   have bB : Below wr.heap.size wr ((((W1.setCell ⟨wr.heap.size, 0, none⟩ (.int .i64 tx.state)).setCell ⟨wr.heap.size, 1, none⟩ (.int .i64 tx.need)).setCell ⟨wr.heap.size, 2, none⟩ (.int .i64 tx.try_)).setCell ⟨wr.heap.size, 3, none⟩ (.int .i64 tx.until_)) := by
    repeat (first | (with_reducible exact bA) | refine Below.setCell ?_ (by simp <;> omega) _)
   have XB2 := DBox.row4 XB rfl (.int .i64 tx.state) (.int .i64 tx.need) (.int .i64 tx.try_) (.int .i64 tx.until_)
   generalize ((((W1.setCell ⟨wr.heap.size, 0, none⟩ (.int .i64 tx.state)).setCell ⟨wr.heap.size, 1, none⟩ (.int .i64 tx.need)).setCell ⟨wr.heap.size, 2, none⟩ (.int .i64 tx.try_)).setCell ⟨wr.heap.size, 3, none⟩ (.int .i64 tx.until_)) = W2 at *
   clear y0 y1 y2 y3 yf yl XB
   refine hK.out _ _ (hSS.out _ bB) (fun hHeld => ?_)
   clear hK K_
   (try simp only [pS])
   refine wpAnyH_done (by kernel_rfl) ?_ _
   refine NoPanic.normal ?_
   clear hHeld
   have OB2 := OB.below bB
   have RES2 := RES.below bB
   have hO2 := hO.out.below bB
   have e2 := (bB.cell (p := ⟨b9, o9 + k, none⟩) hs9).trans e0
   have hb2 := hb.trans (Chg.of_below [b] bB)
   have hs22 := bB.size
   have hsr := hb.size
   clear d0 d1 d2 d3
   clear OB_0 OB_1 OB_2 OB_3 OB_4 OB_5 OB_6 OB_7 OB_l
   clear RES_0 RES_1 RES_2 RES_3 RES_4 RES_5 RES_6 RES_7 RES_l
   have y0 := XB2.cell 0 _ rfl
   have y1 := XB2.cell 1 _ rfl
   have y2 := XB2.cell 2 _ rfl
   have y3 := XB2.cell 3 _ rfl
   have yf := XB2.free
   have yl := XB2.lt
   have hnb : wr.heap.size ≠ b := by omega
   by_cases q : tx.need - 1 = 0
   ·have q2 : (tx.need - 1 == 0) = true := by simp [q]
    have hnl := Lib.hid (show needLess tx = ⟨2, tx.need - 1, tx.try_, tx.until_⟩ by unfold needLess; rw [if_pos q])
    clear q
    go_wp2
    have bC : Below wr.heap.size wr ((W2.setCell ⟨wr.heap.size, 1, none⟩ (.int .i64 (tx.need - 1))).setCell ⟨wr.heap.size, 0, none⟩ (.int .i64 2)) := by
     repeat (first | (with_reducible exact bB) | refine Below.setCell ?_ (by simp <;> omega) _)
    have XB3 : DBox wr.heap.size [.int .i64 2, .int .i64 (tx.need - 1), .int .i64 tx.try_, .int .i64 tx.until_] ((W2.setCell ⟨wr.heap.size, 1, none⟩ (.int .i64 (tx.need - 1))).setCell ⟨wr.heap.size, 0, none⟩ (.int .i64 2)) := ((XB2.set 1 (by simp) (.int .i64 (tx.need - 1))).set 0 (by simp) (.int .i64 2))
    have OB3 := OB.below bC
    have RES3 := RES.below bC
    have hO3 := hO.out.below bC
    have e3 := (bC.cell (p := ⟨b9, o9 + k, none⟩) hs9).trans e0
    have hb3 := hb.trans (Chg.of_below [b] bC)
    have hs33 := bC.size
    clear y0 y1 y2 y3 yf yl XB2 OB2 RES2 hO2 e2 hb2
    generalize ((W2.setCell ⟨wr.heap.size, 1, none⟩ (.int .i64 (tx.need - 1))).setCell ⟨wr.heap.size, 0, none⟩ (.int .i64 2)) = W3 at *
    refine Go.wp_region_noPanic ?_
    refine wp_region_held_drew (S := (fun w' => DBox w1.heap.size [.int .i64 r.id, .int .i64 r.plan.prio, .int .i64 r.plan.most, .int .i64 r.plan.wait, .int .i64 r.plan.tasks, .slice A3 n3 c3, .int .i64 r.state, .slice (some ⟨b, o, none⟩) r.tasks.length c4] w' ∧ w'.cell? ⟨b9, o9 + k, none⟩ = some (.int .i64 (x : Int)) ∧ DBox wr.heap.size [.int .i64 2, .int .i64 (tx.need - 1), .int .i64 tx.try_, .int .i64 tx.until_] w')) (by kernel_rfl) ⟨DBox.drew4 OB3, e3, DBox.drew4 XB3⟩ (fun hHeld => ?_)
    have bD : Below W3.heap.size W3 W3.drew := (Below.refl _ _).drew
    replace OB3 := OB3.below bD
    replace RES3 := RES3.below bD
    replace XB3 := XB3.below bD
    replace hO3 := hO3.below bD
    replace hb3 := hb3.drew
    replace hs33 := Nat.le_trans hs33 bD.size
    clear bD
    generalize W3.drew = W4 at *
    refine tZ 0 ?_ (hy := by (intro w' hSw; (try dsimp only at hSw); have h7 := hSw.1.cell 7 _ rfl; have g0 := hSw.2.1; have g1 := hSw.2.2.cell 0 _ rfl; have g2 := hSw.2.2.cell 1 _ rfl; have g3 := hSw.2.2.cell 2 _ rfl; have g4 := hSw.2.2.cell 3 _ rfl; go_simp; (try with_reducible rfl)))
    (try simp only [pS])
    refine tZ 1 ?_ (hy := by (intro w' hSw; (try dsimp only at hSw); have h7 := hSw.1.cell 7 _ rfl; have g0 := hSw.2.1; have g1 := hSw.2.2.cell 0 _ rfl; have g2 := hSw.2.2.cell 1 _ rfl; have g3 := hSw.2.2.cell 2 _ rfl; have g4 := hSw.2.2.cell 3 _ rfl; go_simp; (try with_reducible rfl)))
    (try simp only [pS])
    refine tZ 2 ?_ (hy := by (intro w' hSw; (try dsimp only at hSw); have h7 := hSw.1.cell 7 _ rfl; have g0 := hSw.2.1; have g1 := hSw.2.2.cell 0 _ rfl; have g2 := hSw.2.2.cell 1 _ rfl; have g3 := hSw.2.2.cell 2 _ rfl; have g4 := hSw.2.2.cell 3 _ rfl; go_simp; (try with_reducible rfl)))
    (try simp only [pS])
    refine tZ 3 ?_ (hy := by (intro w' hSw; (try dsimp only at hSw); have h7 := hSw.1.cell 7 _ rfl; have g0 := hSw.2.1; have g1 := hSw.2.2.cell 0 _ rfl; have g2 := hSw.2.2.cell 1 _ rfl; have g3 := hSw.2.2.cell 2 _ rfl; have g4 := hSw.2.2.cell 3 _ rfl; go_simp; (try with_reducible rfl)))
    (try simp only [pS])
    refine tZ 4 ?_ (hy := by (intro w' hSw; (try dsimp only at hSw); have h7 := hSw.1.cell 7 _ rfl; have g0 := hSw.2.1; have g1 := hSw.2.2.cell 0 _ rfl; have g2 := hSw.2.2.cell 1 _ rfl; have g3 := hSw.2.2.cell 2 _ rfl; have g4 := hSw.2.2.cell 3 _ rfl; go_simp; (try with_reducible rfl)))
    (try simp only [pS])
    refine tZ 5 ?_ (hy := by (intro w' hSw; (try dsimp only at hSw); have h7 := hSw.1.cell 7 _ rfl; have g0 := hSw.2.1; have g1 := hSw.2.2.cell 0 _ rfl; have g2 := hSw.2.2.cell 1 _ rfl; have g3 := hSw.2.2.cell 2 _ rfl; have g4 := hSw.2.2.cell 3 _ rfl; go_simp; (try with_reducible rfl)))
    (try simp only [pS])
    refine tZ 6 ?_ (hy := by (intro w' hSw; (try dsimp only at hSw); have h7 := hSw.1.cell 7 _ rfl; have g0 := hSw.2.1; have g1 := hSw.2.2.cell 0 _ rfl; have g2 := hSw.2.2.cell 1 _ rfl; have g3 := hSw.2.2.cell 2 _ rfl; have g4 := hSw.2.2.cell 3 _ rfl; go_simp; (try with_reducible rfl)))
    (try simp only [pS])
    refine tZ 7 ?_ (hy := by (intro w' hSw; (try dsimp only at hSw); have h7 := hSw.1.cell 7 _ rfl; have g0 := hSw.2.1; have g1 := hSw.2.2.cell 0 _ rfl; have g2 := hSw.2.2.cell 1 _ rfl; have g3 := hSw.2.2.cell 2 _ rfl; have g4 := hSw.2.2.cell 3 _ rfl; go_simp; (try with_reducible rfl)))
    (try simp only [pS])
    obtain ⟨b', o', hA', hbb', d0, d1, d2, d3⟩ := hO3.rd.tsk hxl
    simp only [Option.some.injEq, Addr.mk.injEq, and_true] at hA'
    obtain ⟨rfl, rfl⟩ := hA'
    have hff := (hO3.block (by omega)).2.2
    have hO5 : Hw tskE ((((W4.setCell ⟨b, o + x * 4, none⟩ (.int .i64 2)).setCell ⟨b, o + x * 4 + 1, none⟩ (.int .i64 (tx.need - 1))).setCell ⟨b, o + x * 4 + 2, none⟩ (.int .i64 tx.try_)).setCell ⟨b, o + x * 4 + 3, none⟩ (.int .i64 tx.until_)) [b] (.slice (some ⟨b, o, none⟩) r.tasks.length c4) _ := hO3.task4 hxl ⟨2, tx.need - 1, tx.try_, tx.until_⟩
    have hC5 : Chg [b] W4 ((((W4.setCell ⟨b, o + x * 4, none⟩ (.int .i64 2)).setCell ⟨b, o + x * 4 + 1, none⟩ (.int .i64 (tx.need - 1))).setCell ⟨b, o + x * 4 + 2, none⟩ (.int .i64 tx.try_)).setCell ⟨b, o + x * 4 + 3, none⟩ (.int .i64 tx.until_)) := (((Chg.setCell W4 b _ _).trans (Chg.setCell _ b _ _)).trans (Chg.setCell _ b _ _)).trans (Chg.setCell _ b _ _)
    refine rC 8 (fun K_ hK => ?_)
    go_simp
    clear d0 d1 d2 d3 hff hbb'
    have hob : w1.heap.size ∉ [b] := by simp only [List.mem_singleton]; omega
    have hrb : w.heap.size + 1 ∉ [b] := by simp only [List.mem_singleton]; omega
    have hxb : wr.heap.size ∉ [b] := by simp only [List.mem_singleton]; omega
    have OB5 := OB3.chg hC5 hob
    have RES5 := RES3.chg hC5 hrb
    have XB5 := XB3.chg hC5 hxb
    have e5 := (hC5.cell (p := ⟨b9, o9 + k, none⟩) (by show b9 < W4.heap.size; omega) (by simp only [List.mem_singleton]; omega)).trans hHeld.2.1
    have hb5 := hb3.trans hC5
    generalize ((((W4.setCell ⟨b, o + x * 4, none⟩ (.int .i64 2)).setCell ⟨b, o + x * 4 + 1, none⟩ (.int .i64 (tx.need - 1))).setCell ⟨b, o + x * 4 + 2, none⟩ (.int .i64 tx.try_)).setCell ⟨b, o + x * 4 + 3, none⟩ (.int .i64 tx.until_)) = W5 at *
    refine hK.out _ _ ⟨OB5, e5, XB5⟩ (fun hHeld => ?_)
    clear hK K_
    (try simp only [pS])
    refine wpAnyH_done (by kernel_rfl) ?_ _
    refine NoPanic.normal ?_
    clear hHeld
    go_wp2
    exact ⟨⟨k + 1, by omega, by go_num, by rw [hfin.out, hnl.out]; exact hO5, OB5, RES5, hb5⟩, by simp [intOf]; omega⟩
   ·have q2 : (tx.need - 1 == 0) = false := by simp [q]
    have hnl := Lib.hid (show needLess tx = ⟨tx.state, tx.need - 1, tx.try_, tx.until_⟩ by unfold needLess; rw [if_neg q])
    clear q
    go_wp2
    have bC : Below wr.heap.size wr (W2.setCell ⟨wr.heap.size, 1, none⟩ (.int .i64 (tx.need - 1))) := by
     repeat (first | (with_reducible exact bB) | refine Below.setCell ?_ (by simp <;> omega) _)
    have XB3 : DBox wr.heap.size [.int .i64 tx.state, .int .i64 (tx.need - 1), .int .i64 tx.try_, .int .i64 tx.until_] (W2.setCell ⟨wr.heap.size, 1, none⟩ (.int .i64 (tx.need - 1))) := (XB2.set 1 (by simp) (.int .i64 (tx.need - 1)))
    have OB3 := OB.below bC
    have RES3 := RES.below bC
    have hO3 := hO.out.below bC
    have e3 := (bC.cell (p := ⟨b9, o9 + k, none⟩) hs9).trans e0
    have hb3 := hb.trans (Chg.of_below [b] bC)
    have hs33 := bC.size
    clear y0 y1 y2 y3 yf yl XB2 OB2 RES2 hO2 e2 hb2
    generalize (W2.setCell ⟨wr.heap.size, 1, none⟩ (.int .i64 (tx.need - 1))) = W3 at *
    refine Go.wp_region_noPanic ?_
    refine wp_region_held_drew (S := (fun w' => DBox w1.heap.size [.int .i64 r.id, .int .i64 r.plan.prio, .int .i64 r.plan.most, .int .i64 r.plan.wait, .int .i64 r.plan.tasks, .slice A3 n3 c3, .int .i64 r.state, .slice (some ⟨b, o, none⟩) r.tasks.length c4] w' ∧ w'.cell? ⟨b9, o9 + k, none⟩ = some (.int .i64 (x : Int)) ∧ DBox wr.heap.size [.int .i64 tx.state, .int .i64 (tx.need - 1), .int .i64 tx.try_, .int .i64 tx.until_] w')) (by kernel_rfl) ⟨DBox.drew4 OB3, e3, DBox.drew4 XB3⟩ (fun hHeld => ?_)
    have bD : Below W3.heap.size W3 W3.drew := (Below.refl _ _).drew
    replace OB3 := OB3.below bD
    replace RES3 := RES3.below bD
    replace XB3 := XB3.below bD
    replace hO3 := hO3.below bD
    replace hb3 := hb3.drew
    replace hs33 := Nat.le_trans hs33 bD.size
    clear bD
    generalize W3.drew = W4 at *
    refine tZ 0 ?_ (hy := by (intro w' hSw; (try dsimp only at hSw); have h7 := hSw.1.cell 7 _ rfl; have g0 := hSw.2.1; have g1 := hSw.2.2.cell 0 _ rfl; have g2 := hSw.2.2.cell 1 _ rfl; have g3 := hSw.2.2.cell 2 _ rfl; have g4 := hSw.2.2.cell 3 _ rfl; go_simp; (try with_reducible rfl)))
    (try simp only [pS])
    refine tZ 1 ?_ (hy := by (intro w' hSw; (try dsimp only at hSw); have h7 := hSw.1.cell 7 _ rfl; have g0 := hSw.2.1; have g1 := hSw.2.2.cell 0 _ rfl; have g2 := hSw.2.2.cell 1 _ rfl; have g3 := hSw.2.2.cell 2 _ rfl; have g4 := hSw.2.2.cell 3 _ rfl; go_simp; (try with_reducible rfl)))
    (try simp only [pS])
    refine tZ 2 ?_ (hy := by (intro w' hSw; (try dsimp only at hSw); have h7 := hSw.1.cell 7 _ rfl; have g0 := hSw.2.1; have g1 := hSw.2.2.cell 0 _ rfl; have g2 := hSw.2.2.cell 1 _ rfl; have g3 := hSw.2.2.cell 2 _ rfl; have g4 := hSw.2.2.cell 3 _ rfl; go_simp; (try with_reducible rfl)))
    (try simp only [pS])
    refine tZ 3 ?_ (hy := by (intro w' hSw; (try dsimp only at hSw); have h7 := hSw.1.cell 7 _ rfl; have g0 := hSw.2.1; have g1 := hSw.2.2.cell 0 _ rfl; have g2 := hSw.2.2.cell 1 _ rfl; have g3 := hSw.2.2.cell 2 _ rfl; have g4 := hSw.2.2.cell 3 _ rfl; go_simp; (try with_reducible rfl)))
    (try simp only [pS])
    refine tZ 4 ?_ (hy := by (intro w' hSw; (try dsimp only at hSw); have h7 := hSw.1.cell 7 _ rfl; have g0 := hSw.2.1; have g1 := hSw.2.2.cell 0 _ rfl; have g2 := hSw.2.2.cell 1 _ rfl; have g3 := hSw.2.2.cell 2 _ rfl; have g4 := hSw.2.2.cell 3 _ rfl; go_simp; (try with_reducible rfl)))
    (try simp only [pS])
    refine tZ 5 ?_ (hy := by (intro w' hSw; (try dsimp only at hSw); have h7 := hSw.1.cell 7 _ rfl; have g0 := hSw.2.1; have g1 := hSw.2.2.cell 0 _ rfl; have g2 := hSw.2.2.cell 1 _ rfl; have g3 := hSw.2.2.cell 2 _ rfl; have g4 := hSw.2.2.cell 3 _ rfl; go_simp; (try with_reducible rfl)))
    (try simp only [pS])
    refine tZ 6 ?_ (hy := by (intro w' hSw; (try dsimp only at hSw); have h7 := hSw.1.cell 7 _ rfl; have g0 := hSw.2.1; have g1 := hSw.2.2.cell 0 _ rfl; have g2 := hSw.2.2.cell 1 _ rfl; have g3 := hSw.2.2.cell 2 _ rfl; have g4 := hSw.2.2.cell 3 _ rfl; go_simp; (try with_reducible rfl)))
    (try simp only [pS])
    refine tZ 7 ?_ (hy := by (intro w' hSw; (try dsimp only at hSw); have h7 := hSw.1.cell 7 _ rfl; have g0 := hSw.2.1; have g1 := hSw.2.2.cell 0 _ rfl; have g2 := hSw.2.2.cell 1 _ rfl; have g3 := hSw.2.2.cell 2 _ rfl; have g4 := hSw.2.2.cell 3 _ rfl; go_simp; (try with_reducible rfl)))
    (try simp only [pS])
    obtain ⟨b', o', hA', hbb', d0, d1, d2, d3⟩ := hO3.rd.tsk hxl
    simp only [Option.some.injEq, Addr.mk.injEq, and_true] at hA'
    obtain ⟨rfl, rfl⟩ := hA'
    have hff := (hO3.block (by omega)).2.2
    have hO5 : Hw tskE ((((W4.setCell ⟨b, o + x * 4, none⟩ (.int .i64 tx.state)).setCell ⟨b, o + x * 4 + 1, none⟩ (.int .i64 (tx.need - 1))).setCell ⟨b, o + x * 4 + 2, none⟩ (.int .i64 tx.try_)).setCell ⟨b, o + x * 4 + 3, none⟩ (.int .i64 tx.until_)) [b] (.slice (some ⟨b, o, none⟩) r.tasks.length c4) _ := hO3.task4 hxl ⟨tx.state, tx.need - 1, tx.try_, tx.until_⟩
    have hC5 : Chg [b] W4 ((((W4.setCell ⟨b, o + x * 4, none⟩ (.int .i64 tx.state)).setCell ⟨b, o + x * 4 + 1, none⟩ (.int .i64 (tx.need - 1))).setCell ⟨b, o + x * 4 + 2, none⟩ (.int .i64 tx.try_)).setCell ⟨b, o + x * 4 + 3, none⟩ (.int .i64 tx.until_)) := (((Chg.setCell W4 b _ _).trans (Chg.setCell _ b _ _)).trans (Chg.setCell _ b _ _)).trans (Chg.setCell _ b _ _)
    refine rC 8 (fun K_ hK => ?_)
    go_simp
    clear d0 d1 d2 d3 hff hbb'
    have hob : w1.heap.size ∉ [b] := by simp only [List.mem_singleton]; omega
    have hrb : w.heap.size + 1 ∉ [b] := by simp only [List.mem_singleton]; omega
    have hxb : wr.heap.size ∉ [b] := by simp only [List.mem_singleton]; omega
    have OB5 := OB3.chg hC5 hob
    have RES5 := RES3.chg hC5 hrb
    have XB5 := XB3.chg hC5 hxb
    have e5 := (hC5.cell (p := ⟨b9, o9 + k, none⟩) (by show b9 < W4.heap.size; omega) (by simp only [List.mem_singleton]; omega)).trans hHeld.2.1
    have hb5 := hb3.trans hC5
    generalize ((((W4.setCell ⟨b, o + x * 4, none⟩ (.int .i64 tx.state)).setCell ⟨b, o + x * 4 + 1, none⟩ (.int .i64 (tx.need - 1))).setCell ⟨b, o + x * 4 + 2, none⟩ (.int .i64 tx.try_)).setCell ⟨b, o + x * 4 + 3, none⟩ (.int .i64 tx.until_)) = W5 at *
    refine hK.out _ _ ⟨OB5, e5, XB5⟩ (fun hHeld => ?_)
    clear hK K_
    (try simp only [pS])
    refine wpAnyH_done (by kernel_rfl) ?_ _
    refine NoPanic.normal ?_
    clear hHeld
    go_wp2
    exact ⟨⟨k + 1, by omega, by go_num, by rw [hfin.out, hnl.out]; exact hO5, OB5, RES5, hb5⟩, by simp [intOf]; omega⟩
  ·have hltI : ¬ (k : Int) < (BL.length : Int) := by omega
   have hO1 := hO.out
   rw [List.take_of_length_le (by omega)] at hO1
   have hD := Lib.hid (show doneR r u = ⟨r.id, r.plan, stL (BL.foldl (fun l b => modT l b needLess) L0), BL.foldl (fun l b => modT l b needLess) L0⟩ by rw [hD0.out]; unfold doneL; rw [hL0.out])
   have hst := Lib.hid (fold_need BL L0 0 hbnd.out (Int.le_refl 0))
   have hln := Lib.hid (show (BL.foldl (fun l b => modT l b needLess) L0).length = r.tasks.length by rw [doneL_len r u, hL0l.out])
   generalize BL.foldl (fun l b => modT l b needLess) L0 = DL at *
   clear hO
   have opr := planD.ow_chg op5 hb (fun x hx h => by simp only [List.mem_singleton] at h; subst h; exact hbF1 hx)
   have CS := Lib.hid (specState_any ⟨r.id, r.plan, r.state, DL⟩ (⟨A3, n3, c3⟩, ⟨some ⟨b, o, none⟩, r.tasks.length, c4⟩) wr (by show DL.length ≤ 2000000; rw [hln.out]; omega) (fun x hx => (hst.out x hx).2.2) ⟨planD.ow_rd opr, (task_owl hO1).rd⟩)
   obtain ⟨OB_0, OB_1, OB_2, OB_3, OB_4, OB_5, OB_6, OB_7, OB_l⟩ := OB.g8
   have hsr := hb.size
   go_wp2_with fail
   refine CS.out.mono ?_
   rintro e w6 ⟨rfl, b6⟩
   have hO2 := hO1.below b6
   have op6 := planD.ow_below opr b6
   have B6 : Below w.heap.size w w6 := bnext (B5.trans (hb.below (by omega) (fun x hx => by simp only [List.mem_singleton] at hx; omega))) b6
   have hs66 := b6.size
   clear OB_0 OB_1 OB_2 OB_3 OB_4 OB_5 OB_6 OB_7 OB_l
   replace OB := OB.below b6
   replace RES := RES.below b6
   obtain ⟨OB_0, OB_1, OB_2, OB_3, OB_4, OB_5, OB_6, OB_7, OB_l⟩ := OB.g8
   obtain ⟨RES_0, RES_1, RES_2, RES_3, RES_4, RES_5, RES_6, RES_7, RES_l⟩ := RES.g8
   have obf := OB.free
   have rf := RES.free
   go_wp2
   have hor : w.heap.size + 1 ≠ w1.heap.size := by omega
   refine bodyPost_ret (RunDone_res (DBox.row8 (RES.setOther (a := ⟨w1.heap.size, 6, none⟩) hor (.int .i64 (stL DL))) rfl _ _ _ _ _ _ _ _)) rfl ⟨(⟨A3, n3, c3⟩, ⟨some ⟨b, o, none⟩, r.tasks.length, c4⟩), F1 ++ [b], by rw [hD.out], ⟨F1, [b], rfl, hnd, ?_, ?_⟩, ?_, ?_⟩
   ·have e2 : w.heap.size + 1 ∉ F1 := fun hx => by have := nF _ (List.mem_append_left _ hx); omega
    have e3 : w1.heap.size ∉ F1 := fun hx => by have := hFlt.out _ hx; omega
    rw [hD.out]
    show planD.ow _ F1 r.plan _
    exact (by (repeat (refine Dt.ow_set planD ?_ (by first | exact e3 | exact e2) _)); exact op6)
   ·have e1 : w.heap.size + 1 ∉ [b] := by simp only [List.mem_singleton]; omega
    have e0 : w1.heap.size ∉ [b] := by simp only [List.mem_singleton]; omega
    rw [hD.out]
    show OwL taskD _ [b] _ DL
    exact task_owl (((((((((hO2.set (a := ⟨w1.heap.size, _, none⟩) e0 _).set (a := ⟨w.heap.size + 1, _, none⟩) e1 _).set (a := ⟨w.heap.size + 1, _, none⟩) e1 _).set (a := ⟨w.heap.size + 1, _, none⟩) e1 _).set (a := ⟨w.heap.size + 1, _, none⟩) e1 _).set (a := ⟨w.heap.size + 1, _, none⟩) e1 _).set (a := ⟨w.heap.size + 1, _, none⟩) e1 _).set (a := ⟨w.heap.size + 1, _, none⟩) e1 _).set (a := ⟨w.heap.size + 1, _, none⟩) e1 _)
   ·intro x hx
    have := nF x hx
    omega
   ·repeat (first | (with_reducible exact B6) | refine Below.setCell ?_ (by simp <;> omega) _)
end Go.Proofs.Ytonlnjdempbfoaa
end
section
namespace Go.Proofs.Ytonlnjdempbfoaa
open Go.RowKit
set_option maxRecDepth 100000
set_option maxHeartbeats 2000000
set_option linter.unusedVariables false
set_option linter.unusedSimpArgs false
/-- a shelf of one's own yard is laid anew -/
theorem yard_setShelf {y : Yard} {w : World} {F Fy : List Nat} {g o n c : Nat} {R : Sl} (h : yardD.ow w F y (⟨some ⟨g, o, none⟩, n, c⟩, R)) {i : Nat} (hi : i < y.shelf.length) {l : List Entry} {t : Sl} (hl : OwL entryD w Fy t.v l) (hd : ∀ x ∈ Fy, x ∉ F) :
  ∃ F', yardD.ow (w.setCell ⟨g, o + i, none⟩ (.slice t.a t.n t.c)) F' ⟨y.now, y.seq, y.shelf.set i l, y.runs⟩ (⟨some ⟨g, o, none⟩, n, c⟩, R) ∧ (∀ x ∈ F', x ∈ F ∨ x ∈ Fy) ∧ g ∈ F := by
 obtain ⟨F1, F2, rfl, hnd, os, orr⟩ := h
 replace os : OwL (Dt.list entryD) w F1 (.slice (some ⟨g, o, none⟩) n c) y.shelf := os
 replace orr : OwL runD w F2 R.v y.runs := orr
 obtain ⟨F', p1, p2, p3, p4⟩ := OwL.swap os hi (y := l) (s := t) (Fy := Fy) hl (fun x hx hxF => hd x hx (List.mem_append_left _ hxF))
 have hw3 : wSeq w g (o + i * (Dt.list entryD).enc.sz) ((Dt.list entryD).enc.cells (l, t)) = w.setCell ⟨g, o + i, none⟩ (.slice t.a t.n t.c) := by
  rw [show (Dt.list entryD).enc.sz = 1 from rfl, Nat.mul_one]; rfl
 rw [hw3] at p1
 have hdis := (List.nodup_append.1 hnd).2.2
 refine ⟨F' ++ F2, ⟨F', F2, rfl, ?_, p1, ?_⟩, fun x hx => ?_, List.mem_append_left _ p3⟩
 ·rw [List.nodup_append]
  refine ⟨p1.nodup, (List.nodup_append.1 hnd).2.1, fun a ha b hb e => ?_⟩
  subst e
  rcases p2 a ha with h1 | h1
  ·exact hdis a h1 a hb rfl
  ·exact hd a h1 (List.mem_append_right _ hb)
 ·exact orr.chg (Chg.setCell w g _ _) (fun x hx hg => by simp only [List.mem_singleton] at hg; subst hg; exact hdis x p3 x hx rfl)
 ·rcases List.mem_append.1 hx with h1 | h1
  ·rcases p2 x h1 with h2 | h2
   ·exact .inl (List.mem_append_left _ h2)
   ·exact .inr h2
  ·exact .inl (List.mem_append_right _ h1)
/-- a run of one's own yard is laid anew -/
theorem yard_setRun {y : Yard} {w : World} {F Fy : List Nat} {g o n c : Nat} {R : Sl} (h : yardD.ow w F y (R, ⟨some ⟨g, o, none⟩, n, c⟩)) {k : Nat} (hk : k < y.runs.length) {r : Run} {sr : Sl × Sl} (hr : runD.ow w Fy r sr) (hd : ∀ x ∈ Fy, x ∉ F) :
  ∃ F', yardD.ow ((((((((w.setCell ⟨g, o + k * 8, none⟩ (.int .i64 r.id)).setCell ⟨g, o + k * 8 + 1, none⟩ (.int .i64 r.plan.prio)).setCell ⟨g, o + k * 8 + 2, none⟩ (.int .i64 r.plan.most)).setCell ⟨g, o + k * 8 + 3, none⟩ (.int .i64 r.plan.wait)).setCell ⟨g, o + k * 8 + 4, none⟩ (.int .i64 r.plan.tasks)).setCell ⟨g, o + k * 8 + 5, none⟩ (.slice sr.1.a sr.1.n sr.1.c)).setCell ⟨g, o + k * 8 + 6, none⟩ (.int .i64 r.state)).setCell ⟨g, o + k * 8 + 7, none⟩ (.slice sr.2.a sr.2.n sr.2.c)) F' ⟨y.now, y.seq, y.shelf, y.runs.set k r⟩ (R, ⟨some ⟨g, o, none⟩, n, c⟩) ∧ (∀ x ∈ F', x ∈ F ∨ x ∈ Fy) ∧ g ∈ F := by
 obtain ⟨F1, F2, rfl, hnd, os, orr⟩ := h
 replace os : OwL (Dt.list entryD) w F1 R.v y.shelf := os
 replace orr : OwL runD w F2 (.slice (some ⟨g, o, none⟩) n c) y.runs := orr
 obtain ⟨F', p1, p2, p3, p4⟩ := OwL.swap orr hk (y := r) (s := sr) (Fy := Fy) hr (fun x hx hxF => hd x hx (List.mem_append_right _ hxF))
 have hC := wSeq_chg (runD.enc.cells (r, sr)) w g (o + k * runD.enc.sz)
 have hw3 : wSeq w g (o + k * runD.enc.sz) (runD.enc.cells (r, sr)) = ((((((((w.setCell ⟨g, o + k * 8, none⟩ (.int .i64 r.id)).setCell ⟨g, o + k * 8 + 1, none⟩ (.int .i64 r.plan.prio)).setCell ⟨g, o + k * 8 + 2, none⟩ (.int .i64 r.plan.most)).setCell ⟨g, o + k * 8 + 3, none⟩ (.int .i64 r.plan.wait)).setCell ⟨g, o + k * 8 + 4, none⟩ (.int .i64 r.plan.tasks)).setCell ⟨g, o + k * 8 + 5, none⟩ (.slice sr.1.a sr.1.n sr.1.c)).setCell ⟨g, o + k * 8 + 6, none⟩ (.int .i64 r.state)).setCell ⟨g, o + k * 8 + 7, none⟩ (.slice sr.2.a sr.2.n sr.2.c)) := rfl
 rw [hw3] at p1 hC
 have hdis := (List.nodup_append.1 hnd).2.2
 refine ⟨F1 ++ F', ⟨F1, F', rfl, ?_, ?_, p1⟩, fun x hx => ?_, List.mem_append_right _ p3⟩
 ·rw [List.nodup_append]
  refine ⟨(List.nodup_append.1 hnd).1, p1.nodup, fun a ha b hb e => ?_⟩
  subst e
  rcases p2 a hb with h1 | h1
  ·exact hdis a ha a h1 rfl
  ·exact hd a h1 (List.mem_append_left _ ha)
 ·exact os.chg hC (fun x hx hg => by simp only [List.mem_singleton] at hg; subst hg; exact hdis x hx x p3 rfl)
 ·rcases List.mem_append.1 hx with h1 | h1
  ·exact .inl (List.mem_append_left _ h1)
  ·rcases p2 x h1 with h2 | h2
   ·exact .inl (List.mem_append_right _ h2)
   ·exact .inr h2
theorem filter_take_yes {α : Type} {p : α → Bool} {l : List α} {k : Nat} (hk : k < l.length) (h : p l[k] = true) : (l.take (k + 1)).filter p = (l.take k).filter p ++ [l[k]] := by
 rw [take_snoc l k hk, List.filter_append]
 simp [h]
theorem filter_take_no {α : Type} {p : α → Bool} {l : List α} {k : Nat} (hk : k < l.length) (h : p l[k] = false) : (l.take (k + 1)).filter p = (l.take k).filter p := by
 rw [take_snoc l k hk, List.filter_append]
 simp [h]
theorem Swept_res {b : Nat} {w : World} {u0 u1 u2 u3 : Value} (X : DBox b [u0, u1, u2, u3] w) {v0 v1 v2 v3 : Value} {rest : List Value} :
  (results Try.f67 (v0 :: v1 :: v2 :: v3 :: .pointer (some ⟨b, 0, none⟩) :: rest).toArray).run Try.prog w = .ok (.agg #[u0, u1, u2, u3]) w := by
 have c0 := X.cell 0 _ rfl
 have c1 := X.cell 1 _ rfl
 have c2 := X.cell 2 _ rfl
 have c3 := X.cell 3 _ rfl
 simp [results, Try.results67, go_sem, c0, c1, c2, c3]
theorem specSwept_own (y : Yard) (s : Sl × Sl) (i : Nat) (w : World) (hi : i < y.shelf.length) (hl : cntYard y ≤ 2000000) (h : yardD.rd w w.heap.size y s) :
  Calls Try.prog 67 #[yardW y s, .int .i64 i] w (OwnPost yardD yardW (sweptY y i) w) := by
 have HR := Lib.hid (show ∀ W, Below w.heap.size w W → yardD.rd W W.heap.size y s from fun W hW => yardD.rd_more (yardD.rd_below h hW) hW.size)
 obtain ⟨⟨A1, n1, c1⟩, ⟨A2, n2, c2⟩⟩ := s
 obtain rfl : n1 = y.shelf.length := RdL.at1 (s := ⟨A1, n1, c1⟩) h.1
 have CC := Lib.hid (fun W hW => specCopyYard_own y (⟨A1, y.shelf.length, c1⟩, ⟨A2, n2, c2⟩) W hl (HR.out W hW))
 have CF := Lib.hid (fun W hW e => specFresh_any y (⟨A1, y.shelf.length, c1⟩, ⟨A2, n2, c2⟩) e W hl (HR.out W hW))
 have hS := Lib.hid (show ∀ W, Below w.heap.size w W → RdL (Dt.list entryD) W W.heap.size (.slice A1 y.shelf.length c1) y.shelf from fun W hW => (HR.out W hW).1)
 have hsl : y.shelf[i].length ≤ 2000000 := by
  have h1 := cntL_mem (cnt := cntEntryS) (List.getElem_mem hi)
  have h2 : y.shelf[i].length ≤ cntEntryS y.shelf[i] := cntL_len _ _
  unfold cntYard at hl
  omega
 have hshl : y.shelf.length ≤ 2000000 := Nat.le_trans (cntL_len cntEntryS _) (by unfold cntYard at hl; omega)
 obtain ⟨i0, hi0, hz0, hz1, hz2⟩ := info_parts entE_info
 clear h hl HR
 have hiI : (i : Int) < (y.shelf.length : Int) := by omega
 have hi00 : (0 : Int) ≤ (i : Int) := by omega
 have X := (DBox.new 61 [.int .i64 y.now, .int .i64 y.seq, .slice A1 y.shelf.length c1, .slice A2 n2 c2] w (b := w.heap.size) rfl).below ((Below.refl _ _).alloc (Nat.le_refl _) (.cells #[.int .i64 0, .int .i64 0, .slice none 0 0, .slice none 0 0] 61))
 have RES := DBox.new 61 [.int .i64 0, .int .i64 0, .slice none 0 0, .slice none 0 0] (w.alloc (.cells #[.int .i64 y.now, .int .i64 y.seq, .slice A1 y.shelf.length c1, .slice A2 n2 c2] 61)) (b := w.heap.size + 1) (by simp)
 have B0 : Below w.heap.size w ((w.alloc (.cells #[.int .i64 y.now, .int .i64 y.seq, .slice A1 y.shelf.length c1, .slice A2 n2 c2] 61)).alloc (.cells #[.int .i64 0, .int .i64 0, .slice none 0 0, .slice none 0 0] 61)) := by repeat (first | exact Below.refl _ _ | refine Below.alloc ?_ (by simp <;> omega) _)
 go_enter Try.func67, Try.ntmps67
 go_wp2_with fail
 generalize ((w.alloc (.cells #[.int .i64 y.now, .int .i64 y.seq, .slice A1 y.shelf.length c1, .slice A2 n2 c2] 61)).alloc (.cells #[.int .i64 0, .int .i64 0, .slice none 0 0, .slice none 0 0] 61)) = W at *
 refine (CC.out _ B0).mono ?_
 rintro e1 w1 ⟨⟨⟨B1, m1, e1⟩, ⟨B2, m2, e2⟩⟩, F, rfl, oy, nF, b1⟩
 have hXl := X.lt
 have hRl := RES.lt
 replace X := X.below b1
 replace RES := RES.below b1
 replace B0 := bnext B0 b1
 have hFlt := yardD.ow_lt (F := F) (x := y) (s := (⟨B1, m1, e1⟩, ⟨B2, m2, e2⟩)) oy
 have hs1 := b1.size
 clear b1
 go_upto_region 2 with fail
 have OB := DBox.new 61 [.int .i64 y.now, .int .i64 y.seq, .slice B1 m1 e1, .slice B2 m2 e2] w1 (b := w1.heap.size) rfl
 have b2 : Below w1.heap.size w1 (w1.alloc (.cells #[.int .i64 y.now, .int .i64 y.seq, .slice B1 m1 e1, .slice B2 m2 e2] 61)) := (Below.refl _ _).alloc (Nat.le_refl _) _
 replace B0 := bnext B0 b2
 replace X := X.below b2
 replace RES := RES.below b2
 replace oy := yardD.ow_below (F := F) (x := y) (s := (⟨B1, m1, e1⟩, ⟨B2, m2, e2⟩)) oy b2
 have hs2 := b2.size
 have ow1 := OB.lt
 generalize w1.alloc (.cells #[.int .i64 y.now, .int .i64 y.seq, .slice B1 m1 e1, .slice B2 m2 e2] 61) = w2 at *
 obtain ⟨X_0, X_1, X_2, X_3, X_l⟩ := X.g4
 have wr1 : IntKind.i64.wrap ((y.shelf.length : Int) - 1) = (y.shelf.length : Int) - 1 := IntWalk.i64_in _ (by omega)
 have q : inB (i : Int) 0 ((y.shelf.length : Int) - 1) = true := inB_iff.2 (by omega)
 clear b2 CC
 have q0 : Below w2.heap.size w2 (w2.alloc (.cells #[] 116)) := (Below.refl _ _).alloc (Nat.le_refl _) _
 go_wp2_with (go_at_call 30; refine (l01In_any _ _ _ _).mono ?_; rintro e w9 ⟨rfl, rfl⟩; rw [q])
 clear X_0 X_1 X_2 X_3 X_l
 have hB2 := B0.size
 have o0 := Ow.empty entE 116 w2 rfl
 go_loopw [6, 7] (fun v j wr => ∃ k : Nat, k ≤ y.shelf[i].length ∧ j = .int .i64 k ∧ Hid (Ow entE 116 wr w2.heap.size v ((y.shelf[i].take k).filter fun e => freshB y e)) ∧ Below w2.heap.size w2 wr) (fun _ j _ => y.shelf[i].length - (intOf j).toNat)
 case atStart => exact ⟨0, Nat.zero_le _, rfl, o0, q0⟩
 case round =>
  clear o0 q0
  obtain ⟨k, hk, rfl, hO, hb⟩ := hrel
  replace X := X.below hb
  have hB := bnext B0 hb
  have hbs := hb.size
  obtain ⟨g, o, ⟨a9, n9, c9⟩, rfl, hg9, hr9, ck⟩ := (hS.out w2 B0).entryS hi
  replace hr9 : RdL entryD w2 w2.heap.size (.slice a9 n9 c9) y.shelf[i] := hr9
  obtain rfl : n9 = y.shelf[i].length := RdL.at1 (s := ⟨a9, n9, c9⟩) hr9
  replace ck := (hb.cell (p := ⟨g, _, none⟩) hg9).trans ck
  have hgw : g < wr.heap.size := by omega
  obtain ⟨X_0, X_1, X_2, X_3, X_l⟩ := X.g4
  by_cases hlt : k < y.shelf[i].length
  ·have hltI : (k : Int) < (y.shelf[i].length : Int) := by omega
   have hk0 : (0 : Int) ≤ (k : Int) := by omega
   obtain ⟨g2, o2, _, rfl, hg2, _, d0, d1, d2, d3⟩ := hr9.entry hlt
   replace d0 := (hb.cell (p := ⟨g2, _, none⟩) hg2).trans d0
   replace d1 := (hb.cell (p := ⟨g2, _, none⟩) hg2).trans d1
   replace d2 := (hb.cell (p := ⟨g2, _, none⟩) hg2).trans d2
   replace d3 := (hb.cell (p := ⟨g2, _, none⟩) hg2).trans d3
   have hg2w : g2 < wr.heap.size := by omega
   have hlc := later_cell wr
   have Hl := Lib.hid (show ((y.shelf[i].take k).filter fun e => freshB y e).length ≤ 3000000 by have h1 := List.length_filter_le (fun e => freshB y e) (y.shelf[i].take k); rw [List.length_take] at h1; omega)
   cases qf : freshB y y.shelf[i][k]
   ·have S := Lib.hid (filter_take_no (p := fun e => freshB y e) hlt qf)
    have qF := Lib.hid qf
    clear qf
    go_wp2
    refine wp_region_pure (by kernel_rfl) (by kernel_rfl) ?_
    repeat (go_big_quiet_step ((go_at_call 89; rename_i x; have h1 := CF.out x.1 (bnext hB x.2) y.shelf[i][k]; rw [qF.out] at h1; exact pure_of h1)))
    refine wpQuiet_nil ?_
    rintro w3 ⟨⟨_, b3⟩, rfl⟩
    clear hlc
    go_wp2
    exact ⟨⟨k + 1, by omega, by go_num, by rw [S.out]; exact hO.out.below b3, bnext hb b3⟩, by simp [intOf]; omega⟩
   ·have S := Lib.hid (filter_take_yes (p := fun e => freshB y e) hlt qf)
    have qF := Lib.hid qf
    clear qf
    go_wp2
    refine wp_region_pure (by kernel_rfl) (by kernel_rfl) ?_
    repeat (go_big_quiet_step ((go_at_call 89; rename_i x; have h1 := CF.out x.1 (bnext hB x.2) y.shelf[i][k]; rw [qF.out] at h1; exact pure_of h1)))
    refine wpQuiet_nil ?_
    rintro w3 ⟨⟨_, b3⟩, rfl⟩
    clear hlc
    have hb3 := bnext hb b3
    have hO3 := hO.out.below b3
    clear X_0 X_1 X_2 X_3 X_l
    replace X := X.below b3
    obtain ⟨X_0, X_1, X_2, X_3, X_l⟩ := X.g4
    replace ck := (b3.cell (p := ⟨g, _, none⟩) hgw).trans ck
    replace d0 := (b3.cell (p := ⟨g2, _, none⟩) hg2w).trans d0
    replace d1 := (b3.cell (p := ⟨g2, _, none⟩) hg2w).trans d1
    replace d2 := (b3.cell (p := ⟨g2, _, none⟩) hg2w).trans d2
    replace d3 := (b3.cell (p := ⟨g2, _, none⟩) hg2w).trans d3
    have hs3 := b3.size
    have hgw3 : g < w3.heap.size := by omega
    have hg2w3 : g2 < w3.heap.size := by omega
    generalize y.shelf[i][k] = e9 at *
    have ha : Hid (∀ w : World, Below w.heap.size w (w.alloc (.cells #[.int .i64 e9.prio, .int .i64 e9.seq, .int .i64 e9.run, .int .i64 e9.task] 116))) := fun w => (Below.refl _ _).alloc (Nat.le_refl _) _
    go_wp2_with (at_builtin; go_loud (refine wpList_push_all _ entE (by decide) rfl (.tmp 39) (.tmp 48) rfl Try.underlying77 hi0 hz0 hz1 hz2 rfl (base := w2.heap.size) (l := (y.shelf[i].take k).filter fun e => freshB y e) rfl (hO3.below (ha.out w3)) rfl (Rd.one entE _ _ e9 rfl rfl 1 (Nat.le_refl _) (Nat.lt_succ_self _)) Hl.out (by simp) (by decide) (by simp; omega) ?_); intro v5 w5 o5 g5 _)
    have hb5 : Below w2.heap.size w2 w5 := (bnext hb3 (ha.out w3)).grown g5 (bnext hb3 (ha.out w3)).size (fun g hg => by have := hO3.within _ hg; omega)
    exact ⟨⟨k + 1, by omega, by go_num, by rw [S.out]; exact o5, hb5⟩, by simp [intOf]; omega⟩
  ·have hltI : ¬ (k : Int) < (y.shelf[i].length : Int) := by omega
   have hO1 := hO.out
   rw [List.take_of_length_le (by omega)] at hO1
   obtain ⟨⟨a8, n8, c8⟩, F9, rfl, o9, nF9⟩ := entry_ow hO1
   have oy3 := yardD.ow_below (F := F) (x := y) (s := (⟨B1, m1, e1⟩, ⟨B2, m2, e2⟩)) oy hb
   replace OB := OB.below hb
   replace RES := RES.below hb
   have H : Hid (sweptY y i = ⟨y.now, y.seq, y.shelf.set i (y.shelf[i].filter fun e => freshB y e), y.runs⟩) := by
    show sweptY y i = _
    unfold sweptY
    rw [shelf_getD hi]
   generalize (y.shelf[i].filter fun e => freshB y e) = L at *
   clear hO hO1
   obtain ⟨g1, o1, s1, rfl, hg1, _, _⟩ := (RdL.entryS (show RdL (Dt.list entryD) wr wr.heap.size (.slice B1 m1 e1) y.shelf from (yardD.ow_rd oy3).1) hi)
   obtain rfl : m1 = y.shelf.length := RdL.at1 (s := ⟨some ⟨g1, o1, none⟩, m1, e1⟩) (yardD.ow_rd oy3).1
   obtain ⟨F', p1, p2, p3⟩ := yard_setShelf oy3 hi (l := L) (t := ⟨a8, n8, c8⟩) o9 (fun x hx hxF => by have h1 := nF9 x hx; have h2 := hFlt x hxF; omega)
   obtain ⟨F1, F2, hFF, _, os, _⟩ := oy3
   have hgf := OwL.free0 (show OwL (Dt.list entryD) wr F1 (.slice (some ⟨g1, o1, none⟩) y.shelf.length e1) y.shelf from os) (by omega)
   have hg1F := hFlt g1 p3
   have hg1n := nF g1 p3
   obtain ⟨OB_0, OB_1, OB_2, OB_3, OB_l⟩ := OB.g4
   obtain ⟨RES_0, RES_1, RES_2, RES_3, RES_l⟩ := RES.g4
   have rf := RES.free
   obtain ⟨_, _, _, hA9, _, _, ckk⟩ := (RdL.entryS (show RdL (Dt.list entryD) wr wr.heap.size (.slice (some ⟨g1, o1, none⟩) y.shelf.length e1) y.shelf from os.rd) hi)
   simp only [Option.some.injEq, Addr.mk.injEq, and_true] at hA9
   obtain ⟨rfl, rfl⟩ := hA9
   have B8 : Below w.heap.size w (wr.setCell ⟨g1, o1 + i, none⟩ (.slice a8 n8 c8)) := by
    repeat (first | (with_reducible exact hB) | refine Below.setCell ?_ (by simp <;> omega) _)
   go_upto_region 11 with fail
   clear X_0 X_1 X_2 X_3 X_l
   clear OB_0 OB_1 OB_2 OB_3 OB_l
   clear RES_0 RES_1 RES_2 RES_3 RES_l
   clear X ck
   replace OB := OB.setOther (a := ⟨g1, o1 + i, none⟩) (by show w1.heap.size ≠ g1; omega) (.slice a8 n8 c8)
   replace RES := RES.setOther (a := ⟨g1, o1 + i, none⟩) (by show w.heap.size + 1 ≠ g1; omega) (.slice a8 n8 c8)
   generalize wr.setCell ⟨g1, o1 + i, none⟩ (.slice a8 n8 c8) = w8 at *
   obtain ⟨OB_0, OB_1, OB_2, OB_3, OB_l⟩ := OB.g4
   obtain ⟨RES_0, RES_1, RES_2, RES_3, RES_l⟩ := RES.g4
   have rf := RES.free
   go_wp2
   have en1 : w.heap.size + 1 ∉ F' := fun hx => by
    rcases p2 _ hx with h | h
    ·have := nF _ h; omega
    ·have := nF9 _ h; omega
   refine bodyPost_ret (Swept_res (DBox.row4 RES rfl _ _ _ _)) rfl ⟨(⟨some ⟨g1, o1, none⟩, y.shelf.length, e1⟩, ⟨B2, m2, e2⟩), F', by rw [H.out], by rw [H.out]; exact (by (repeat (refine Dt.ow_set yardD ?_ en1 _)); exact p1), fun x hx => ?_, ?_⟩
   ·rcases p2 x hx with h | h
    ·have := nF x h; omega
    ·have := nF9 x h; omega
   ·repeat (first | (with_reducible exact B8) | refine Below.setCell ?_ (by simp <;> omega) _)
end Go.Proofs.Ytonlnjdempbfoaa
end
