/-
  DeedOk of the reference. Written by program (vh.py).
-/
import Derived.Test.YtjobmbjadpldfaaVg
import Derived.Deep.Cut
namespace Go.Proofs.Ytjobmbjadpldfaa
open Go.RowKit
set_option maxRecDepth 100000
set_option maxHeartbeats 800000
set_option linter.unusedVariables false
set_option linter.unusedSimpArgs false

theorem specDeedOk1 (d : Deed) (s : Sl) (w : World) (hk : d.kind = 1) (h : deedD.rd w w.heap.size d s) :
    Calls Try.prog 55 #[deedW d s] w fun e w' => e = .returned (.bool (deedOk d)) ∧ Below w.heap.size w w' := by
  have h2 : planD.rd w w.heap.size d.plan s := h
  have HR := Lib.hid (show ∀ W, Below w.heap.size w W → planD.rd W W.heap.size d.plan s from fun W hW => planD.rd_more (planD.rd_below h2 hW) hW.size)
  clear h h2
  obtain ⟨A, n, c⟩ := s
  obtain ⟨kd, rn, p, tk, ty, wk, dr⟩ := d
  obtain rfl : kd = 1 := hk
  have X := DBox.new 74 [.int .i64 1, .int .i64 rn, .int .i64 p.prio, .int .i64 p.most, .int .i64 p.wait, .int .i64 p.tasks, .slice A n c, .int .i64 tk, .int .i64 ty, .int .i64 wk, .int .i64 dr] w (b := w.heap.size) rfl
  have B0 : Below w.heap.size w (w.alloc (.cells #[.int .i64 1, .int .i64 rn, .int .i64 p.prio, .int .i64 p.most, .int .i64 p.wait, .int .i64 p.tasks, .slice A n c, .int .i64 tk, .int .i64 ty, .int .i64 wk, .int .i64 dr] 74)) := by repeat (first | exact Below.refl _ _ | refine Below.alloc ?_ (by simp <;> omega) _)
  have e0 : inB 1 1 8 = true := rfl
  have HD := Lib.hid (show deedOk ⟨1, rn, p, tk, ty, wk, dr⟩ = (numB rn && (tk == 0) && (ty == 0) && (wk == 0) && (dr == 0) && planNums p) by simp [deedOk, inB, Bool.and_assoc])
  cases a0 : inB rn 0 1000000000
  case false =>
    have c0 : numB rn = false := a0
    have H := Lib.hid (show deedOk ⟨1, rn, p, tk, ty, wk, dr⟩ = false by rw [HD.out, c0]; simp)
    clear c0
    go_enter Try.func55, Try.ntmps55
    go_upto_region 6 with (first | (go_at_call 82; refine (l16Num_any _ _).mono ?_; rintro e w9 ⟨rfl, rfl⟩; (try (with_reducible first | rw [e0] | rw [a0] | rw [a1] | rw [a2] | rw [a3] | rw [a4])); dsimp only) | (go_at_call 56; refine (l01In_any _ _ _ _).mono ?_; rintro e w9 ⟨rfl, rfl⟩; (try (with_reducible first | rw [e0] | rw [a0] | rw [a1] | rw [a2] | rw [a3] | rw [a4])); dsimp only))
    dsimp only [List.append]
    go_wp2_with (first | (go_at_call 82; refine (l16Num_any _ _).mono ?_; rintro e w9 ⟨rfl, rfl⟩; (try (with_reducible first | rw [e0] | rw [a0] | rw [a1] | rw [a2] | rw [a3] | rw [a4])); dsimp only) | (go_at_call 56; refine (l01In_any _ _ _ _).mono ?_; rintro e w9 ⟨rfl, rfl⟩; (try (with_reducible first | rw [e0] | rw [a0] | rw [a1] | rw [a2] | rw [a3] | rw [a4])); dsimp only))
    go_ret
    exact ⟨ret_bool H.out.symm, B0⟩
  have c0 : numB rn = true := a0
  cases a1 : (tk != 0)
  case true =>
    have c1 : (tk == 0) = false := by rw [bne, Bool.not_eq_true'] at a1; exact a1
    have H := Lib.hid (show deedOk ⟨1, rn, p, tk, ty, wk, dr⟩ = false by rw [HD.out, c0, c1]; simp)
    clear c0
    clear c1
    go_enter Try.func55, Try.ntmps55
    go_upto_region 6 with (first | (go_at_call 82; refine (l16Num_any _ _).mono ?_; rintro e w9 ⟨rfl, rfl⟩; (try (with_reducible first | rw [e0] | rw [a0] | rw [a1] | rw [a2] | rw [a3] | rw [a4])); dsimp only) | (go_at_call 56; refine (l01In_any _ _ _ _).mono ?_; rintro e w9 ⟨rfl, rfl⟩; (try (with_reducible first | rw [e0] | rw [a0] | rw [a1] | rw [a2] | rw [a3] | rw [a4])); dsimp only))
    dsimp only [List.append]
    go_wp2_with (first | (go_at_call 82; refine (l16Num_any _ _).mono ?_; rintro e w9 ⟨rfl, rfl⟩; (try (with_reducible first | rw [e0] | rw [a0] | rw [a1] | rw [a2] | rw [a3] | rw [a4])); dsimp only) | (go_at_call 56; refine (l01In_any _ _ _ _).mono ?_; rintro e w9 ⟨rfl, rfl⟩; (try (with_reducible first | rw [e0] | rw [a0] | rw [a1] | rw [a2] | rw [a3] | rw [a4])); dsimp only))
    go_ret
    exact ⟨ret_bool H.out.symm, B0⟩
  have c1 : (tk == 0) = true := by rw [bne, Bool.not_eq_false'] at a1; exact a1
  cases a2 : (ty != 0)
  case true =>
    have c2 : (ty == 0) = false := by rw [bne, Bool.not_eq_true'] at a2; exact a2
    have H := Lib.hid (show deedOk ⟨1, rn, p, tk, ty, wk, dr⟩ = false by rw [HD.out, c0, c1, c2]; simp)
    clear c0 c1
    clear c2
    go_enter Try.func55, Try.ntmps55
    go_upto_region 6 with (first | (go_at_call 82; refine (l16Num_any _ _).mono ?_; rintro e w9 ⟨rfl, rfl⟩; (try (with_reducible first | rw [e0] | rw [a0] | rw [a1] | rw [a2] | rw [a3] | rw [a4])); dsimp only) | (go_at_call 56; refine (l01In_any _ _ _ _).mono ?_; rintro e w9 ⟨rfl, rfl⟩; (try (with_reducible first | rw [e0] | rw [a0] | rw [a1] | rw [a2] | rw [a3] | rw [a4])); dsimp only))
    dsimp only [List.append]
    go_wp2_with (first | (go_at_call 82; refine (l16Num_any _ _).mono ?_; rintro e w9 ⟨rfl, rfl⟩; (try (with_reducible first | rw [e0] | rw [a0] | rw [a1] | rw [a2] | rw [a3] | rw [a4])); dsimp only) | (go_at_call 56; refine (l01In_any _ _ _ _).mono ?_; rintro e w9 ⟨rfl, rfl⟩; (try (with_reducible first | rw [e0] | rw [a0] | rw [a1] | rw [a2] | rw [a3] | rw [a4])); dsimp only))
    go_ret
    exact ⟨ret_bool H.out.symm, B0⟩
  have c2 : (ty == 0) = true := by rw [bne, Bool.not_eq_false'] at a2; exact a2
  cases a3 : (wk != 0)
  case true =>
    have c3 : (wk == 0) = false := by rw [bne, Bool.not_eq_true'] at a3; exact a3
    have H := Lib.hid (show deedOk ⟨1, rn, p, tk, ty, wk, dr⟩ = false by rw [HD.out, c0, c1, c2, c3]; simp)
    clear c0 c1 c2
    clear c3
    go_enter Try.func55, Try.ntmps55
    go_upto_region 6 with (first | (go_at_call 82; refine (l16Num_any _ _).mono ?_; rintro e w9 ⟨rfl, rfl⟩; (try (with_reducible first | rw [e0] | rw [a0] | rw [a1] | rw [a2] | rw [a3] | rw [a4])); dsimp only) | (go_at_call 56; refine (l01In_any _ _ _ _).mono ?_; rintro e w9 ⟨rfl, rfl⟩; (try (with_reducible first | rw [e0] | rw [a0] | rw [a1] | rw [a2] | rw [a3] | rw [a4])); dsimp only))
    dsimp only [List.append]
    go_wp2_with (first | (go_at_call 82; refine (l16Num_any _ _).mono ?_; rintro e w9 ⟨rfl, rfl⟩; (try (with_reducible first | rw [e0] | rw [a0] | rw [a1] | rw [a2] | rw [a3] | rw [a4])); dsimp only) | (go_at_call 56; refine (l01In_any _ _ _ _).mono ?_; rintro e w9 ⟨rfl, rfl⟩; (try (with_reducible first | rw [e0] | rw [a0] | rw [a1] | rw [a2] | rw [a3] | rw [a4])); dsimp only))
    go_ret
    exact ⟨ret_bool H.out.symm, B0⟩
  have c3 : (wk == 0) = true := by rw [bne, Bool.not_eq_false'] at a3; exact a3
  cases a4 : (dr != 0)
  case true =>
    have c4 : (dr == 0) = false := by rw [bne, Bool.not_eq_true'] at a4; exact a4
    have H := Lib.hid (show deedOk ⟨1, rn, p, tk, ty, wk, dr⟩ = false by rw [HD.out, c0, c1, c2, c3, c4]; simp)
    clear c0 c1 c2 c3
    clear c4
    go_enter Try.func55, Try.ntmps55
    go_upto_region 6 with (first | (go_at_call 82; refine (l16Num_any _ _).mono ?_; rintro e w9 ⟨rfl, rfl⟩; (try (with_reducible first | rw [e0] | rw [a0] | rw [a1] | rw [a2] | rw [a3] | rw [a4])); dsimp only) | (go_at_call 56; refine (l01In_any _ _ _ _).mono ?_; rintro e w9 ⟨rfl, rfl⟩; (try (with_reducible first | rw [e0] | rw [a0] | rw [a1] | rw [a2] | rw [a3] | rw [a4])); dsimp only))
    dsimp only [List.append]
    go_wp2_with (first | (go_at_call 82; refine (l16Num_any _ _).mono ?_; rintro e w9 ⟨rfl, rfl⟩; (try (with_reducible first | rw [e0] | rw [a0] | rw [a1] | rw [a2] | rw [a3] | rw [a4])); dsimp only) | (go_at_call 56; refine (l01In_any _ _ _ _).mono ?_; rintro e w9 ⟨rfl, rfl⟩; (try (with_reducible first | rw [e0] | rw [a0] | rw [a1] | rw [a2] | rw [a3] | rw [a4])); dsimp only))
    go_ret
    exact ⟨ret_bool H.out.symm, B0⟩
  have c4 : (dr == 0) = true := by rw [bne, Bool.not_eq_false'] at a4; exact a4
  have H := Lib.hid (show deedOk ⟨1, rn, p, tk, ty, wk, dr⟩ = planNums p by rw [HD.out, c0, c1, c2, c3, c4]; simp)
  clear c0 c1 c2 c3 c4
  have C := specNumPlan_any p ⟨A, n, c⟩ _ (HR.out _ B0)
  go_enter Try.func55, Try.ntmps55
  go_upto_region 6 with (first | (go_at_call 82; refine (l16Num_any _ _).mono ?_; rintro e w9 ⟨rfl, rfl⟩; (try (with_reducible first | rw [e0] | rw [a0] | rw [a1] | rw [a2] | rw [a3] | rw [a4])); dsimp only) | (go_at_call 56; refine (l01In_any _ _ _ _).mono ?_; rintro e w9 ⟨rfl, rfl⟩; (try (with_reducible first | rw [e0] | rw [a0] | rw [a1] | rw [a2] | rw [a3] | rw [a4])); dsimp only) | (go_at_call 83; refine C.mono ?_; rintro e w1 ⟨rfl, b1⟩))
  dsimp only [List.append]
  go_wp2_with (first | (go_at_call 82; refine (l16Num_any _ _).mono ?_; rintro e w9 ⟨rfl, rfl⟩; (try (with_reducible first | rw [e0] | rw [a0] | rw [a1] | rw [a2] | rw [a3] | rw [a4])); dsimp only) | (go_at_call 56; refine (l01In_any _ _ _ _).mono ?_; rintro e w9 ⟨rfl, rfl⟩; (try (with_reducible first | rw [e0] | rw [a0] | rw [a1] | rw [a2] | rw [a3] | rw [a4])); dsimp only) | (go_at_call 83; refine C.mono ?_; rintro e w1 ⟨rfl, b1⟩))
  go_ret
  exact ⟨ret_bool H.out.symm, bnext B0 b1⟩
theorem specDeedOk2 (d : Deed) (s : Sl) (w : World) (hk : d.kind = 2) (h : deedD.rd w w.heap.size d s) :
    Calls Try.prog 55 #[deedW d s] w fun e w' => e = .returned (.bool (deedOk d)) ∧ Below w.heap.size w w' := by
  have h2 : planD.rd w w.heap.size d.plan s := h
  have HR := Lib.hid (show ∀ W, Below w.heap.size w W → planD.rd W W.heap.size d.plan s from fun W hW => planD.rd_more (planD.rd_below h2 hW) hW.size)
  clear h h2
  obtain ⟨A, n, c⟩ := s
  obtain ⟨kd, rn, p, tk, ty, wk, dr⟩ := d
  obtain rfl : kd = 2 := hk
  have X := DBox.new 74 [.int .i64 2, .int .i64 rn, .int .i64 p.prio, .int .i64 p.most, .int .i64 p.wait, .int .i64 p.tasks, .slice A n c, .int .i64 tk, .int .i64 ty, .int .i64 wk, .int .i64 dr] w (b := w.heap.size) rfl
  have B0 : Below w.heap.size w (w.alloc (.cells #[.int .i64 2, .int .i64 rn, .int .i64 p.prio, .int .i64 p.most, .int .i64 p.wait, .int .i64 p.tasks, .slice A n c, .int .i64 tk, .int .i64 ty, .int .i64 wk, .int .i64 dr] 74)) := by repeat (first | exact Below.refl _ _ | refine Below.alloc ?_ (by simp <;> omega) _)
  have e0 : inB 2 1 8 = true := rfl
  have HD := Lib.hid (show deedOk ⟨2, rn, p, tk, ty, wk, dr⟩ = ((rn == 0) && (tk == 0) && (ty == 0) && numB wk && numB dr && planNone p) by simp [deedOk, inB, Bool.and_assoc])
  cases a0 : (rn != 0)
  case true =>
    have c0 : (rn == 0) = false := by rw [bne, Bool.not_eq_true'] at a0; exact a0
    have H := Lib.hid (show deedOk ⟨2, rn, p, tk, ty, wk, dr⟩ = false by rw [HD.out, c0]; simp)
    clear c0
    go_enter Try.func55, Try.ntmps55
    go_upto_region 6 with (first | (go_at_call 82; refine (l16Num_any _ _).mono ?_; rintro e w9 ⟨rfl, rfl⟩; (try (with_reducible first | rw [e0] | rw [a0] | rw [a1] | rw [a2] | rw [a3] | rw [a4])); dsimp only) | (go_at_call 56; refine (l01In_any _ _ _ _).mono ?_; rintro e w9 ⟨rfl, rfl⟩; (try (with_reducible first | rw [e0] | rw [a0] | rw [a1] | rw [a2] | rw [a3] | rw [a4])); dsimp only))
    dsimp only [List.append]
    go_wp2_with (first | (go_at_call 82; refine (l16Num_any _ _).mono ?_; rintro e w9 ⟨rfl, rfl⟩; (try (with_reducible first | rw [e0] | rw [a0] | rw [a1] | rw [a2] | rw [a3] | rw [a4])); dsimp only) | (go_at_call 56; refine (l01In_any _ _ _ _).mono ?_; rintro e w9 ⟨rfl, rfl⟩; (try (with_reducible first | rw [e0] | rw [a0] | rw [a1] | rw [a2] | rw [a3] | rw [a4])); dsimp only))
    go_ret
    exact ⟨ret_bool H.out.symm, B0⟩
  have c0 : (rn == 0) = true := by rw [bne, Bool.not_eq_false'] at a0; exact a0
  cases a1 : (tk != 0)
  case true =>
    have c1 : (tk == 0) = false := by rw [bne, Bool.not_eq_true'] at a1; exact a1
    have H := Lib.hid (show deedOk ⟨2, rn, p, tk, ty, wk, dr⟩ = false by rw [HD.out, c0, c1]; simp)
    clear c0
    clear c1
    go_enter Try.func55, Try.ntmps55
    go_upto_region 6 with (first | (go_at_call 82; refine (l16Num_any _ _).mono ?_; rintro e w9 ⟨rfl, rfl⟩; (try (with_reducible first | rw [e0] | rw [a0] | rw [a1] | rw [a2] | rw [a3] | rw [a4])); dsimp only) | (go_at_call 56; refine (l01In_any _ _ _ _).mono ?_; rintro e w9 ⟨rfl, rfl⟩; (try (with_reducible first | rw [e0] | rw [a0] | rw [a1] | rw [a2] | rw [a3] | rw [a4])); dsimp only))
    dsimp only [List.append]
    go_wp2_with (first | (go_at_call 82; refine (l16Num_any _ _).mono ?_; rintro e w9 ⟨rfl, rfl⟩; (try (with_reducible first | rw [e0] | rw [a0] | rw [a1] | rw [a2] | rw [a3] | rw [a4])); dsimp only) | (go_at_call 56; refine (l01In_any _ _ _ _).mono ?_; rintro e w9 ⟨rfl, rfl⟩; (try (with_reducible first | rw [e0] | rw [a0] | rw [a1] | rw [a2] | rw [a3] | rw [a4])); dsimp only))
    go_ret
    exact ⟨ret_bool H.out.symm, B0⟩
  have c1 : (tk == 0) = true := by rw [bne, Bool.not_eq_false'] at a1; exact a1
  cases a2 : (ty != 0)
  case true =>
    have c2 : (ty == 0) = false := by rw [bne, Bool.not_eq_true'] at a2; exact a2
    have H := Lib.hid (show deedOk ⟨2, rn, p, tk, ty, wk, dr⟩ = false by rw [HD.out, c0, c1, c2]; simp)
    clear c0 c1
    clear c2
    go_enter Try.func55, Try.ntmps55
    go_upto_region 6 with (first | (go_at_call 82; refine (l16Num_any _ _).mono ?_; rintro e w9 ⟨rfl, rfl⟩; (try (with_reducible first | rw [e0] | rw [a0] | rw [a1] | rw [a2] | rw [a3] | rw [a4])); dsimp only) | (go_at_call 56; refine (l01In_any _ _ _ _).mono ?_; rintro e w9 ⟨rfl, rfl⟩; (try (with_reducible first | rw [e0] | rw [a0] | rw [a1] | rw [a2] | rw [a3] | rw [a4])); dsimp only))
    dsimp only [List.append]
    go_wp2_with (first | (go_at_call 82; refine (l16Num_any _ _).mono ?_; rintro e w9 ⟨rfl, rfl⟩; (try (with_reducible first | rw [e0] | rw [a0] | rw [a1] | rw [a2] | rw [a3] | rw [a4])); dsimp only) | (go_at_call 56; refine (l01In_any _ _ _ _).mono ?_; rintro e w9 ⟨rfl, rfl⟩; (try (with_reducible first | rw [e0] | rw [a0] | rw [a1] | rw [a2] | rw [a3] | rw [a4])); dsimp only))
    go_ret
    exact ⟨ret_bool H.out.symm, B0⟩
  have c2 : (ty == 0) = true := by rw [bne, Bool.not_eq_false'] at a2; exact a2
  cases a3 : inB wk 0 1000000000
  case false =>
    have c3 : numB wk = false := a3
    have H := Lib.hid (show deedOk ⟨2, rn, p, tk, ty, wk, dr⟩ = false by rw [HD.out, c0, c1, c2, c3]; simp)
    clear c0 c1 c2
    clear c3
    go_enter Try.func55, Try.ntmps55
    go_upto_region 6 with (first | (go_at_call 82; refine (l16Num_any _ _).mono ?_; rintro e w9 ⟨rfl, rfl⟩; (try (with_reducible first | rw [e0] | rw [a0] | rw [a1] | rw [a2] | rw [a3] | rw [a4])); dsimp only) | (go_at_call 56; refine (l01In_any _ _ _ _).mono ?_; rintro e w9 ⟨rfl, rfl⟩; (try (with_reducible first | rw [e0] | rw [a0] | rw [a1] | rw [a2] | rw [a3] | rw [a4])); dsimp only))
    dsimp only [List.append]
    go_wp2_with (first | (go_at_call 82; refine (l16Num_any _ _).mono ?_; rintro e w9 ⟨rfl, rfl⟩; (try (with_reducible first | rw [e0] | rw [a0] | rw [a1] | rw [a2] | rw [a3] | rw [a4])); dsimp only) | (go_at_call 56; refine (l01In_any _ _ _ _).mono ?_; rintro e w9 ⟨rfl, rfl⟩; (try (with_reducible first | rw [e0] | rw [a0] | rw [a1] | rw [a2] | rw [a3] | rw [a4])); dsimp only))
    go_ret
    exact ⟨ret_bool H.out.symm, B0⟩
  have c3 : numB wk = true := a3
  cases a4 : inB dr 0 1000000000
  case false =>
    have c4 : numB dr = false := a4
    have H := Lib.hid (show deedOk ⟨2, rn, p, tk, ty, wk, dr⟩ = false by rw [HD.out, c0, c1, c2, c3, c4]; simp)
    clear c0 c1 c2 c3
    clear c4
    go_enter Try.func55, Try.ntmps55
    go_upto_region 6 with (first | (go_at_call 82; refine (l16Num_any _ _).mono ?_; rintro e w9 ⟨rfl, rfl⟩; (try (with_reducible first | rw [e0] | rw [a0] | rw [a1] | rw [a2] | rw [a3] | rw [a4])); dsimp only) | (go_at_call 56; refine (l01In_any _ _ _ _).mono ?_; rintro e w9 ⟨rfl, rfl⟩; (try (with_reducible first | rw [e0] | rw [a0] | rw [a1] | rw [a2] | rw [a3] | rw [a4])); dsimp only))
    dsimp only [List.append]
    go_wp2_with (first | (go_at_call 82; refine (l16Num_any _ _).mono ?_; rintro e w9 ⟨rfl, rfl⟩; (try (with_reducible first | rw [e0] | rw [a0] | rw [a1] | rw [a2] | rw [a3] | rw [a4])); dsimp only) | (go_at_call 56; refine (l01In_any _ _ _ _).mono ?_; rintro e w9 ⟨rfl, rfl⟩; (try (with_reducible first | rw [e0] | rw [a0] | rw [a1] | rw [a2] | rw [a3] | rw [a4])); dsimp only))
    go_ret
    exact ⟨ret_bool H.out.symm, B0⟩
  have c4 : numB dr = true := a4
  have H := Lib.hid (show deedOk ⟨2, rn, p, tk, ty, wk, dr⟩ = planNone p by rw [HD.out, c0, c1, c2, c3, c4]; simp)
  clear c0 c1 c2 c3 c4
  have C := specNoPlan_any p ⟨A, n, c⟩ _ (HR.out _ B0)
  go_enter Try.func55, Try.ntmps55
  go_upto_region 6 with (first | (go_at_call 82; refine (l16Num_any _ _).mono ?_; rintro e w9 ⟨rfl, rfl⟩; (try (with_reducible first | rw [e0] | rw [a0] | rw [a1] | rw [a2] | rw [a3] | rw [a4])); dsimp only) | (go_at_call 56; refine (l01In_any _ _ _ _).mono ?_; rintro e w9 ⟨rfl, rfl⟩; (try (with_reducible first | rw [e0] | rw [a0] | rw [a1] | rw [a2] | rw [a3] | rw [a4])); dsimp only) | (go_at_call 84; refine C.mono ?_; rintro e w1 ⟨rfl, b1⟩))
  dsimp only [List.append]
  go_wp2_with (first | (go_at_call 82; refine (l16Num_any _ _).mono ?_; rintro e w9 ⟨rfl, rfl⟩; (try (with_reducible first | rw [e0] | rw [a0] | rw [a1] | rw [a2] | rw [a3] | rw [a4])); dsimp only) | (go_at_call 56; refine (l01In_any _ _ _ _).mono ?_; rintro e w9 ⟨rfl, rfl⟩; (try (with_reducible first | rw [e0] | rw [a0] | rw [a1] | rw [a2] | rw [a3] | rw [a4])); dsimp only) | (go_at_call 84; refine C.mono ?_; rintro e w1 ⟨rfl, b1⟩))
  go_ret
  exact ⟨ret_bool H.out.symm, bnext B0 b1⟩
theorem specDeedOk3 (d : Deed) (s : Sl) (w : World) (hk : d.kind = 3) (h : deedD.rd w w.heap.size d s) :
    Calls Try.prog 55 #[deedW d s] w fun e w' => e = .returned (.bool (deedOk d)) ∧ Below w.heap.size w w' := by
  have h2 : planD.rd w w.heap.size d.plan s := h
  have HR := Lib.hid (show ∀ W, Below w.heap.size w W → planD.rd W W.heap.size d.plan s from fun W hW => planD.rd_more (planD.rd_below h2 hW) hW.size)
  clear h h2
  obtain ⟨A, n, c⟩ := s
  obtain ⟨kd, rn, p, tk, ty, wk, dr⟩ := d
  obtain rfl : kd = 3 := hk
  have X := DBox.new 74 [.int .i64 3, .int .i64 rn, .int .i64 p.prio, .int .i64 p.most, .int .i64 p.wait, .int .i64 p.tasks, .slice A n c, .int .i64 tk, .int .i64 ty, .int .i64 wk, .int .i64 dr] w (b := w.heap.size) rfl
  have B0 : Below w.heap.size w (w.alloc (.cells #[.int .i64 3, .int .i64 rn, .int .i64 p.prio, .int .i64 p.most, .int .i64 p.wait, .int .i64 p.tasks, .slice A n c, .int .i64 tk, .int .i64 ty, .int .i64 wk, .int .i64 dr] 74)) := by repeat (first | exact Below.refl _ _ | refine Below.alloc ?_ (by simp <;> omega) _)
  have e0 : inB 3 1 8 = true := rfl
  have HD := Lib.hid (show deedOk ⟨3, rn, p, tk, ty, wk, dr⟩ = (numB rn && numB tk && numB ty && (wk == 0) && (dr == 0) && planNone p) by simp [deedOk, inB, Bool.and_assoc])
  cases a0 : inB rn 0 1000000000
  case false =>
    have c0 : numB rn = false := a0
    have H := Lib.hid (show deedOk ⟨3, rn, p, tk, ty, wk, dr⟩ = false by rw [HD.out, c0]; simp)
    clear c0
    go_enter Try.func55, Try.ntmps55
    go_upto_region 6 with (first | (go_at_call 82; refine (l16Num_any _ _).mono ?_; rintro e w9 ⟨rfl, rfl⟩; (try (with_reducible first | rw [e0] | rw [a0] | rw [a1] | rw [a2] | rw [a3] | rw [a4])); dsimp only) | (go_at_call 56; refine (l01In_any _ _ _ _).mono ?_; rintro e w9 ⟨rfl, rfl⟩; (try (with_reducible first | rw [e0] | rw [a0] | rw [a1] | rw [a2] | rw [a3] | rw [a4])); dsimp only))
    dsimp only [List.append]
    go_wp2_with (first | (go_at_call 82; refine (l16Num_any _ _).mono ?_; rintro e w9 ⟨rfl, rfl⟩; (try (with_reducible first | rw [e0] | rw [a0] | rw [a1] | rw [a2] | rw [a3] | rw [a4])); dsimp only) | (go_at_call 56; refine (l01In_any _ _ _ _).mono ?_; rintro e w9 ⟨rfl, rfl⟩; (try (with_reducible first | rw [e0] | rw [a0] | rw [a1] | rw [a2] | rw [a3] | rw [a4])); dsimp only))
    go_ret
    exact ⟨ret_bool H.out.symm, B0⟩
  have c0 : numB rn = true := a0
  cases a1 : inB tk 0 1000000000
  case false =>
    have c1 : numB tk = false := a1
    have H := Lib.hid (show deedOk ⟨3, rn, p, tk, ty, wk, dr⟩ = false by rw [HD.out, c0, c1]; simp)
    clear c0
    clear c1
    go_enter Try.func55, Try.ntmps55
    go_upto_region 6 with (first | (go_at_call 82; refine (l16Num_any _ _).mono ?_; rintro e w9 ⟨rfl, rfl⟩; (try (with_reducible first | rw [e0] | rw [a0] | rw [a1] | rw [a2] | rw [a3] | rw [a4])); dsimp only) | (go_at_call 56; refine (l01In_any _ _ _ _).mono ?_; rintro e w9 ⟨rfl, rfl⟩; (try (with_reducible first | rw [e0] | rw [a0] | rw [a1] | rw [a2] | rw [a3] | rw [a4])); dsimp only))
    dsimp only [List.append]
    go_wp2_with (first | (go_at_call 82; refine (l16Num_any _ _).mono ?_; rintro e w9 ⟨rfl, rfl⟩; (try (with_reducible first | rw [e0] | rw [a0] | rw [a1] | rw [a2] | rw [a3] | rw [a4])); dsimp only) | (go_at_call 56; refine (l01In_any _ _ _ _).mono ?_; rintro e w9 ⟨rfl, rfl⟩; (try (with_reducible first | rw [e0] | rw [a0] | rw [a1] | rw [a2] | rw [a3] | rw [a4])); dsimp only))
    go_ret
    exact ⟨ret_bool H.out.symm, B0⟩
  have c1 : numB tk = true := a1
  cases a2 : inB ty 0 1000000000
  case false =>
    have c2 : numB ty = false := a2
    have H := Lib.hid (show deedOk ⟨3, rn, p, tk, ty, wk, dr⟩ = false by rw [HD.out, c0, c1, c2]; simp)
    clear c0 c1
    clear c2
    go_enter Try.func55, Try.ntmps55
    go_upto_region 6 with (first | (go_at_call 82; refine (l16Num_any _ _).mono ?_; rintro e w9 ⟨rfl, rfl⟩; (try (with_reducible first | rw [e0] | rw [a0] | rw [a1] | rw [a2] | rw [a3] | rw [a4])); dsimp only) | (go_at_call 56; refine (l01In_any _ _ _ _).mono ?_; rintro e w9 ⟨rfl, rfl⟩; (try (with_reducible first | rw [e0] | rw [a0] | rw [a1] | rw [a2] | rw [a3] | rw [a4])); dsimp only))
    dsimp only [List.append]
    go_wp2_with (first | (go_at_call 82; refine (l16Num_any _ _).mono ?_; rintro e w9 ⟨rfl, rfl⟩; (try (with_reducible first | rw [e0] | rw [a0] | rw [a1] | rw [a2] | rw [a3] | rw [a4])); dsimp only) | (go_at_call 56; refine (l01In_any _ _ _ _).mono ?_; rintro e w9 ⟨rfl, rfl⟩; (try (with_reducible first | rw [e0] | rw [a0] | rw [a1] | rw [a2] | rw [a3] | rw [a4])); dsimp only))
    go_ret
    exact ⟨ret_bool H.out.symm, B0⟩
  have c2 : numB ty = true := a2
  cases a3 : (wk != 0)
  case true =>
    have c3 : (wk == 0) = false := by rw [bne, Bool.not_eq_true'] at a3; exact a3
    have H := Lib.hid (show deedOk ⟨3, rn, p, tk, ty, wk, dr⟩ = false by rw [HD.out, c0, c1, c2, c3]; simp)
    clear c0 c1 c2
    clear c3
    go_enter Try.func55, Try.ntmps55
    go_upto_region 6 with (first | (go_at_call 82; refine (l16Num_any _ _).mono ?_; rintro e w9 ⟨rfl, rfl⟩; (try (with_reducible first | rw [e0] | rw [a0] | rw [a1] | rw [a2] | rw [a3] | rw [a4])); dsimp only) | (go_at_call 56; refine (l01In_any _ _ _ _).mono ?_; rintro e w9 ⟨rfl, rfl⟩; (try (with_reducible first | rw [e0] | rw [a0] | rw [a1] | rw [a2] | rw [a3] | rw [a4])); dsimp only))
    dsimp only [List.append]
    go_wp2_with (first | (go_at_call 82; refine (l16Num_any _ _).mono ?_; rintro e w9 ⟨rfl, rfl⟩; (try (with_reducible first | rw [e0] | rw [a0] | rw [a1] | rw [a2] | rw [a3] | rw [a4])); dsimp only) | (go_at_call 56; refine (l01In_any _ _ _ _).mono ?_; rintro e w9 ⟨rfl, rfl⟩; (try (with_reducible first | rw [e0] | rw [a0] | rw [a1] | rw [a2] | rw [a3] | rw [a4])); dsimp only))
    go_ret
    exact ⟨ret_bool H.out.symm, B0⟩
  have c3 : (wk == 0) = true := by rw [bne, Bool.not_eq_false'] at a3; exact a3
  cases a4 : (dr != 0)
  case true =>
    have c4 : (dr == 0) = false := by rw [bne, Bool.not_eq_true'] at a4; exact a4
    have H := Lib.hid (show deedOk ⟨3, rn, p, tk, ty, wk, dr⟩ = false by rw [HD.out, c0, c1, c2, c3, c4]; simp)
    clear c0 c1 c2 c3
    clear c4
    go_enter Try.func55, Try.ntmps55
    go_upto_region 6 with (first | (go_at_call 82; refine (l16Num_any _ _).mono ?_; rintro e w9 ⟨rfl, rfl⟩; (try (with_reducible first | rw [e0] | rw [a0] | rw [a1] | rw [a2] | rw [a3] | rw [a4])); dsimp only) | (go_at_call 56; refine (l01In_any _ _ _ _).mono ?_; rintro e w9 ⟨rfl, rfl⟩; (try (with_reducible first | rw [e0] | rw [a0] | rw [a1] | rw [a2] | rw [a3] | rw [a4])); dsimp only))
    dsimp only [List.append]
    go_wp2_with (first | (go_at_call 82; refine (l16Num_any _ _).mono ?_; rintro e w9 ⟨rfl, rfl⟩; (try (with_reducible first | rw [e0] | rw [a0] | rw [a1] | rw [a2] | rw [a3] | rw [a4])); dsimp only) | (go_at_call 56; refine (l01In_any _ _ _ _).mono ?_; rintro e w9 ⟨rfl, rfl⟩; (try (with_reducible first | rw [e0] | rw [a0] | rw [a1] | rw [a2] | rw [a3] | rw [a4])); dsimp only))
    go_ret
    exact ⟨ret_bool H.out.symm, B0⟩
  have c4 : (dr == 0) = true := by rw [bne, Bool.not_eq_false'] at a4; exact a4
  have H := Lib.hid (show deedOk ⟨3, rn, p, tk, ty, wk, dr⟩ = planNone p by rw [HD.out, c0, c1, c2, c3, c4]; simp)
  clear c0 c1 c2 c3 c4
  have C := specNoPlan_any p ⟨A, n, c⟩ _ (HR.out _ B0)
  go_enter Try.func55, Try.ntmps55
  go_upto_region 6 with (first | (go_at_call 82; refine (l16Num_any _ _).mono ?_; rintro e w9 ⟨rfl, rfl⟩; (try (with_reducible first | rw [e0] | rw [a0] | rw [a1] | rw [a2] | rw [a3] | rw [a4])); dsimp only) | (go_at_call 56; refine (l01In_any _ _ _ _).mono ?_; rintro e w9 ⟨rfl, rfl⟩; (try (with_reducible first | rw [e0] | rw [a0] | rw [a1] | rw [a2] | rw [a3] | rw [a4])); dsimp only) | (go_at_call 84; refine C.mono ?_; rintro e w1 ⟨rfl, b1⟩))
  dsimp only [List.append]
  go_wp2_with (first | (go_at_call 82; refine (l16Num_any _ _).mono ?_; rintro e w9 ⟨rfl, rfl⟩; (try (with_reducible first | rw [e0] | rw [a0] | rw [a1] | rw [a2] | rw [a3] | rw [a4])); dsimp only) | (go_at_call 56; refine (l01In_any _ _ _ _).mono ?_; rintro e w9 ⟨rfl, rfl⟩; (try (with_reducible first | rw [e0] | rw [a0] | rw [a1] | rw [a2] | rw [a3] | rw [a4])); dsimp only) | (go_at_call 84; refine C.mono ?_; rintro e w1 ⟨rfl, b1⟩))
  go_ret
  exact ⟨ret_bool H.out.symm, bnext B0 b1⟩
theorem specDeedOk4 (d : Deed) (s : Sl) (w : World) (hk : d.kind = 4) (h : deedD.rd w w.heap.size d s) :
    Calls Try.prog 55 #[deedW d s] w fun e w' => e = .returned (.bool (deedOk d)) ∧ Below w.heap.size w w' := by
  have h2 : planD.rd w w.heap.size d.plan s := h
  have HR := Lib.hid (show ∀ W, Below w.heap.size w W → planD.rd W W.heap.size d.plan s from fun W hW => planD.rd_more (planD.rd_below h2 hW) hW.size)
  clear h h2
  obtain ⟨A, n, c⟩ := s
  obtain ⟨kd, rn, p, tk, ty, wk, dr⟩ := d
  obtain rfl : kd = 4 := hk
  have X := DBox.new 74 [.int .i64 4, .int .i64 rn, .int .i64 p.prio, .int .i64 p.most, .int .i64 p.wait, .int .i64 p.tasks, .slice A n c, .int .i64 tk, .int .i64 ty, .int .i64 wk, .int .i64 dr] w (b := w.heap.size) rfl
  have B0 : Below w.heap.size w (w.alloc (.cells #[.int .i64 4, .int .i64 rn, .int .i64 p.prio, .int .i64 p.most, .int .i64 p.wait, .int .i64 p.tasks, .slice A n c, .int .i64 tk, .int .i64 ty, .int .i64 wk, .int .i64 dr] 74)) := by repeat (first | exact Below.refl _ _ | refine Below.alloc ?_ (by simp <;> omega) _)
  have e0 : inB 4 1 8 = true := rfl
  have HD := Lib.hid (show deedOk ⟨4, rn, p, tk, ty, wk, dr⟩ = (numB rn && numB tk && numB ty && (wk == 0) && (dr == 0) && planNone p) by simp [deedOk, inB, Bool.and_assoc])
  cases a0 : inB rn 0 1000000000
  case false =>
    have c0 : numB rn = false := a0
    have H := Lib.hid (show deedOk ⟨4, rn, p, tk, ty, wk, dr⟩ = false by rw [HD.out, c0]; simp)
    clear c0
    go_enter Try.func55, Try.ntmps55
    go_upto_region 6 with (first | (go_at_call 82; refine (l16Num_any _ _).mono ?_; rintro e w9 ⟨rfl, rfl⟩; (try (with_reducible first | rw [e0] | rw [a0] | rw [a1] | rw [a2] | rw [a3] | rw [a4])); dsimp only) | (go_at_call 56; refine (l01In_any _ _ _ _).mono ?_; rintro e w9 ⟨rfl, rfl⟩; (try (with_reducible first | rw [e0] | rw [a0] | rw [a1] | rw [a2] | rw [a3] | rw [a4])); dsimp only))
    dsimp only [List.append]
    go_wp2_with (first | (go_at_call 82; refine (l16Num_any _ _).mono ?_; rintro e w9 ⟨rfl, rfl⟩; (try (with_reducible first | rw [e0] | rw [a0] | rw [a1] | rw [a2] | rw [a3] | rw [a4])); dsimp only) | (go_at_call 56; refine (l01In_any _ _ _ _).mono ?_; rintro e w9 ⟨rfl, rfl⟩; (try (with_reducible first | rw [e0] | rw [a0] | rw [a1] | rw [a2] | rw [a3] | rw [a4])); dsimp only))
    go_ret
    exact ⟨ret_bool H.out.symm, B0⟩
  have c0 : numB rn = true := a0
  cases a1 : inB tk 0 1000000000
  case false =>
    have c1 : numB tk = false := a1
    have H := Lib.hid (show deedOk ⟨4, rn, p, tk, ty, wk, dr⟩ = false by rw [HD.out, c0, c1]; simp)
    clear c0
    clear c1
    go_enter Try.func55, Try.ntmps55
    go_upto_region 6 with (first | (go_at_call 82; refine (l16Num_any _ _).mono ?_; rintro e w9 ⟨rfl, rfl⟩; (try (with_reducible first | rw [e0] | rw [a0] | rw [a1] | rw [a2] | rw [a3] | rw [a4])); dsimp only) | (go_at_call 56; refine (l01In_any _ _ _ _).mono ?_; rintro e w9 ⟨rfl, rfl⟩; (try (with_reducible first | rw [e0] | rw [a0] | rw [a1] | rw [a2] | rw [a3] | rw [a4])); dsimp only))
    dsimp only [List.append]
    go_wp2_with (first | (go_at_call 82; refine (l16Num_any _ _).mono ?_; rintro e w9 ⟨rfl, rfl⟩; (try (with_reducible first | rw [e0] | rw [a0] | rw [a1] | rw [a2] | rw [a3] | rw [a4])); dsimp only) | (go_at_call 56; refine (l01In_any _ _ _ _).mono ?_; rintro e w9 ⟨rfl, rfl⟩; (try (with_reducible first | rw [e0] | rw [a0] | rw [a1] | rw [a2] | rw [a3] | rw [a4])); dsimp only))
    go_ret
    exact ⟨ret_bool H.out.symm, B0⟩
  have c1 : numB tk = true := a1
  cases a2 : inB ty 0 1000000000
  case false =>
    have c2 : numB ty = false := a2
    have H := Lib.hid (show deedOk ⟨4, rn, p, tk, ty, wk, dr⟩ = false by rw [HD.out, c0, c1, c2]; simp)
    clear c0 c1
    clear c2
    go_enter Try.func55, Try.ntmps55
    go_upto_region 6 with (first | (go_at_call 82; refine (l16Num_any _ _).mono ?_; rintro e w9 ⟨rfl, rfl⟩; (try (with_reducible first | rw [e0] | rw [a0] | rw [a1] | rw [a2] | rw [a3] | rw [a4])); dsimp only) | (go_at_call 56; refine (l01In_any _ _ _ _).mono ?_; rintro e w9 ⟨rfl, rfl⟩; (try (with_reducible first | rw [e0] | rw [a0] | rw [a1] | rw [a2] | rw [a3] | rw [a4])); dsimp only))
    dsimp only [List.append]
    go_wp2_with (first | (go_at_call 82; refine (l16Num_any _ _).mono ?_; rintro e w9 ⟨rfl, rfl⟩; (try (with_reducible first | rw [e0] | rw [a0] | rw [a1] | rw [a2] | rw [a3] | rw [a4])); dsimp only) | (go_at_call 56; refine (l01In_any _ _ _ _).mono ?_; rintro e w9 ⟨rfl, rfl⟩; (try (with_reducible first | rw [e0] | rw [a0] | rw [a1] | rw [a2] | rw [a3] | rw [a4])); dsimp only))
    go_ret
    exact ⟨ret_bool H.out.symm, B0⟩
  have c2 : numB ty = true := a2
  cases a3 : (wk != 0)
  case true =>
    have c3 : (wk == 0) = false := by rw [bne, Bool.not_eq_true'] at a3; exact a3
    have H := Lib.hid (show deedOk ⟨4, rn, p, tk, ty, wk, dr⟩ = false by rw [HD.out, c0, c1, c2, c3]; simp)
    clear c0 c1 c2
    clear c3
    go_enter Try.func55, Try.ntmps55
    go_upto_region 6 with (first | (go_at_call 82; refine (l16Num_any _ _).mono ?_; rintro e w9 ⟨rfl, rfl⟩; (try (with_reducible first | rw [e0] | rw [a0] | rw [a1] | rw [a2] | rw [a3] | rw [a4])); dsimp only) | (go_at_call 56; refine (l01In_any _ _ _ _).mono ?_; rintro e w9 ⟨rfl, rfl⟩; (try (with_reducible first | rw [e0] | rw [a0] | rw [a1] | rw [a2] | rw [a3] | rw [a4])); dsimp only))
    dsimp only [List.append]
    go_wp2_with (first | (go_at_call 82; refine (l16Num_any _ _).mono ?_; rintro e w9 ⟨rfl, rfl⟩; (try (with_reducible first | rw [e0] | rw [a0] | rw [a1] | rw [a2] | rw [a3] | rw [a4])); dsimp only) | (go_at_call 56; refine (l01In_any _ _ _ _).mono ?_; rintro e w9 ⟨rfl, rfl⟩; (try (with_reducible first | rw [e0] | rw [a0] | rw [a1] | rw [a2] | rw [a3] | rw [a4])); dsimp only))
    go_ret
    exact ⟨ret_bool H.out.symm, B0⟩
  have c3 : (wk == 0) = true := by rw [bne, Bool.not_eq_false'] at a3; exact a3
  cases a4 : (dr != 0)
  case true =>
    have c4 : (dr == 0) = false := by rw [bne, Bool.not_eq_true'] at a4; exact a4
    have H := Lib.hid (show deedOk ⟨4, rn, p, tk, ty, wk, dr⟩ = false by rw [HD.out, c0, c1, c2, c3, c4]; simp)
    clear c0 c1 c2 c3
    clear c4
    go_enter Try.func55, Try.ntmps55
    go_upto_region 6 with (first | (go_at_call 82; refine (l16Num_any _ _).mono ?_; rintro e w9 ⟨rfl, rfl⟩; (try (with_reducible first | rw [e0] | rw [a0] | rw [a1] | rw [a2] | rw [a3] | rw [a4])); dsimp only) | (go_at_call 56; refine (l01In_any _ _ _ _).mono ?_; rintro e w9 ⟨rfl, rfl⟩; (try (with_reducible first | rw [e0] | rw [a0] | rw [a1] | rw [a2] | rw [a3] | rw [a4])); dsimp only))
    dsimp only [List.append]
    go_wp2_with (first | (go_at_call 82; refine (l16Num_any _ _).mono ?_; rintro e w9 ⟨rfl, rfl⟩; (try (with_reducible first | rw [e0] | rw [a0] | rw [a1] | rw [a2] | rw [a3] | rw [a4])); dsimp only) | (go_at_call 56; refine (l01In_any _ _ _ _).mono ?_; rintro e w9 ⟨rfl, rfl⟩; (try (with_reducible first | rw [e0] | rw [a0] | rw [a1] | rw [a2] | rw [a3] | rw [a4])); dsimp only))
    go_ret
    exact ⟨ret_bool H.out.symm, B0⟩
  have c4 : (dr == 0) = true := by rw [bne, Bool.not_eq_false'] at a4; exact a4
  have H := Lib.hid (show deedOk ⟨4, rn, p, tk, ty, wk, dr⟩ = planNone p by rw [HD.out, c0, c1, c2, c3, c4]; simp)
  clear c0 c1 c2 c3 c4
  have C := specNoPlan_any p ⟨A, n, c⟩ _ (HR.out _ B0)
  go_enter Try.func55, Try.ntmps55
  go_upto_region 6 with (first | (go_at_call 82; refine (l16Num_any _ _).mono ?_; rintro e w9 ⟨rfl, rfl⟩; (try (with_reducible first | rw [e0] | rw [a0] | rw [a1] | rw [a2] | rw [a3] | rw [a4])); dsimp only) | (go_at_call 56; refine (l01In_any _ _ _ _).mono ?_; rintro e w9 ⟨rfl, rfl⟩; (try (with_reducible first | rw [e0] | rw [a0] | rw [a1] | rw [a2] | rw [a3] | rw [a4])); dsimp only) | (go_at_call 84; refine C.mono ?_; rintro e w1 ⟨rfl, b1⟩))
  dsimp only [List.append]
  go_wp2_with (first | (go_at_call 82; refine (l16Num_any _ _).mono ?_; rintro e w9 ⟨rfl, rfl⟩; (try (with_reducible first | rw [e0] | rw [a0] | rw [a1] | rw [a2] | rw [a3] | rw [a4])); dsimp only) | (go_at_call 56; refine (l01In_any _ _ _ _).mono ?_; rintro e w9 ⟨rfl, rfl⟩; (try (with_reducible first | rw [e0] | rw [a0] | rw [a1] | rw [a2] | rw [a3] | rw [a4])); dsimp only) | (go_at_call 84; refine C.mono ?_; rintro e w1 ⟨rfl, b1⟩))
  go_ret
  exact ⟨ret_bool H.out.symm, bnext B0 b1⟩
theorem specDeedOk5 (d : Deed) (s : Sl) (w : World) (hk : d.kind = 5) (h : deedD.rd w w.heap.size d s) :
    Calls Try.prog 55 #[deedW d s] w fun e w' => e = .returned (.bool (deedOk d)) ∧ Below w.heap.size w w' := by
  have h2 : planD.rd w w.heap.size d.plan s := h
  have HR := Lib.hid (show ∀ W, Below w.heap.size w W → planD.rd W W.heap.size d.plan s from fun W hW => planD.rd_more (planD.rd_below h2 hW) hW.size)
  clear h h2
  obtain ⟨A, n, c⟩ := s
  obtain ⟨kd, rn, p, tk, ty, wk, dr⟩ := d
  obtain rfl : kd = 5 := hk
  have X := DBox.new 74 [.int .i64 5, .int .i64 rn, .int .i64 p.prio, .int .i64 p.most, .int .i64 p.wait, .int .i64 p.tasks, .slice A n c, .int .i64 tk, .int .i64 ty, .int .i64 wk, .int .i64 dr] w (b := w.heap.size) rfl
  have B0 : Below w.heap.size w (w.alloc (.cells #[.int .i64 5, .int .i64 rn, .int .i64 p.prio, .int .i64 p.most, .int .i64 p.wait, .int .i64 p.tasks, .slice A n c, .int .i64 tk, .int .i64 ty, .int .i64 wk, .int .i64 dr] 74)) := by repeat (first | exact Below.refl _ _ | refine Below.alloc ?_ (by simp <;> omega) _)
  have e0 : inB 5 1 8 = true := rfl
  have HD := Lib.hid (show deedOk ⟨5, rn, p, tk, ty, wk, dr⟩ = ((rn == 0) && (tk == 0) && (ty == 0) && (wk == 0) && (dr == 0) && planNone p) by simp [deedOk, inB, Bool.and_assoc])
  cases a0 : (rn != 0)
  case true =>
    have c0 : (rn == 0) = false := by rw [bne, Bool.not_eq_true'] at a0; exact a0
    have H := Lib.hid (show deedOk ⟨5, rn, p, tk, ty, wk, dr⟩ = false by rw [HD.out, c0]; simp)
    clear c0
    go_enter Try.func55, Try.ntmps55
    go_upto_region 6 with (first | (go_at_call 82; refine (l16Num_any _ _).mono ?_; rintro e w9 ⟨rfl, rfl⟩; (try (with_reducible first | rw [e0] | rw [a0] | rw [a1] | rw [a2] | rw [a3] | rw [a4])); dsimp only) | (go_at_call 56; refine (l01In_any _ _ _ _).mono ?_; rintro e w9 ⟨rfl, rfl⟩; (try (with_reducible first | rw [e0] | rw [a0] | rw [a1] | rw [a2] | rw [a3] | rw [a4])); dsimp only))
    dsimp only [List.append]
    go_wp2_with (first | (go_at_call 82; refine (l16Num_any _ _).mono ?_; rintro e w9 ⟨rfl, rfl⟩; (try (with_reducible first | rw [e0] | rw [a0] | rw [a1] | rw [a2] | rw [a3] | rw [a4])); dsimp only) | (go_at_call 56; refine (l01In_any _ _ _ _).mono ?_; rintro e w9 ⟨rfl, rfl⟩; (try (with_reducible first | rw [e0] | rw [a0] | rw [a1] | rw [a2] | rw [a3] | rw [a4])); dsimp only))
    go_ret
    exact ⟨ret_bool H.out.symm, B0⟩
  have c0 : (rn == 0) = true := by rw [bne, Bool.not_eq_false'] at a0; exact a0
  cases a1 : (tk != 0)
  case true =>
    have c1 : (tk == 0) = false := by rw [bne, Bool.not_eq_true'] at a1; exact a1
    have H := Lib.hid (show deedOk ⟨5, rn, p, tk, ty, wk, dr⟩ = false by rw [HD.out, c0, c1]; simp)
    clear c0
    clear c1
    go_enter Try.func55, Try.ntmps55
    go_upto_region 6 with (first | (go_at_call 82; refine (l16Num_any _ _).mono ?_; rintro e w9 ⟨rfl, rfl⟩; (try (with_reducible first | rw [e0] | rw [a0] | rw [a1] | rw [a2] | rw [a3] | rw [a4])); dsimp only) | (go_at_call 56; refine (l01In_any _ _ _ _).mono ?_; rintro e w9 ⟨rfl, rfl⟩; (try (with_reducible first | rw [e0] | rw [a0] | rw [a1] | rw [a2] | rw [a3] | rw [a4])); dsimp only))
    dsimp only [List.append]
    go_wp2_with (first | (go_at_call 82; refine (l16Num_any _ _).mono ?_; rintro e w9 ⟨rfl, rfl⟩; (try (with_reducible first | rw [e0] | rw [a0] | rw [a1] | rw [a2] | rw [a3] | rw [a4])); dsimp only) | (go_at_call 56; refine (l01In_any _ _ _ _).mono ?_; rintro e w9 ⟨rfl, rfl⟩; (try (with_reducible first | rw [e0] | rw [a0] | rw [a1] | rw [a2] | rw [a3] | rw [a4])); dsimp only))
    go_ret
    exact ⟨ret_bool H.out.symm, B0⟩
  have c1 : (tk == 0) = true := by rw [bne, Bool.not_eq_false'] at a1; exact a1
  cases a2 : (ty != 0)
  case true =>
    have c2 : (ty == 0) = false := by rw [bne, Bool.not_eq_true'] at a2; exact a2
    have H := Lib.hid (show deedOk ⟨5, rn, p, tk, ty, wk, dr⟩ = false by rw [HD.out, c0, c1, c2]; simp)
    clear c0 c1
    clear c2
    go_enter Try.func55, Try.ntmps55
    go_upto_region 6 with (first | (go_at_call 82; refine (l16Num_any _ _).mono ?_; rintro e w9 ⟨rfl, rfl⟩; (try (with_reducible first | rw [e0] | rw [a0] | rw [a1] | rw [a2] | rw [a3] | rw [a4])); dsimp only) | (go_at_call 56; refine (l01In_any _ _ _ _).mono ?_; rintro e w9 ⟨rfl, rfl⟩; (try (with_reducible first | rw [e0] | rw [a0] | rw [a1] | rw [a2] | rw [a3] | rw [a4])); dsimp only))
    dsimp only [List.append]
    go_wp2_with (first | (go_at_call 82; refine (l16Num_any _ _).mono ?_; rintro e w9 ⟨rfl, rfl⟩; (try (with_reducible first | rw [e0] | rw [a0] | rw [a1] | rw [a2] | rw [a3] | rw [a4])); dsimp only) | (go_at_call 56; refine (l01In_any _ _ _ _).mono ?_; rintro e w9 ⟨rfl, rfl⟩; (try (with_reducible first | rw [e0] | rw [a0] | rw [a1] | rw [a2] | rw [a3] | rw [a4])); dsimp only))
    go_ret
    exact ⟨ret_bool H.out.symm, B0⟩
  have c2 : (ty == 0) = true := by rw [bne, Bool.not_eq_false'] at a2; exact a2
  cases a3 : (wk != 0)
  case true =>
    have c3 : (wk == 0) = false := by rw [bne, Bool.not_eq_true'] at a3; exact a3
    have H := Lib.hid (show deedOk ⟨5, rn, p, tk, ty, wk, dr⟩ = false by rw [HD.out, c0, c1, c2, c3]; simp)
    clear c0 c1 c2
    clear c3
    go_enter Try.func55, Try.ntmps55
    go_upto_region 6 with (first | (go_at_call 82; refine (l16Num_any _ _).mono ?_; rintro e w9 ⟨rfl, rfl⟩; (try (with_reducible first | rw [e0] | rw [a0] | rw [a1] | rw [a2] | rw [a3] | rw [a4])); dsimp only) | (go_at_call 56; refine (l01In_any _ _ _ _).mono ?_; rintro e w9 ⟨rfl, rfl⟩; (try (with_reducible first | rw [e0] | rw [a0] | rw [a1] | rw [a2] | rw [a3] | rw [a4])); dsimp only))
    dsimp only [List.append]
    go_wp2_with (first | (go_at_call 82; refine (l16Num_any _ _).mono ?_; rintro e w9 ⟨rfl, rfl⟩; (try (with_reducible first | rw [e0] | rw [a0] | rw [a1] | rw [a2] | rw [a3] | rw [a4])); dsimp only) | (go_at_call 56; refine (l01In_any _ _ _ _).mono ?_; rintro e w9 ⟨rfl, rfl⟩; (try (with_reducible first | rw [e0] | rw [a0] | rw [a1] | rw [a2] | rw [a3] | rw [a4])); dsimp only))
    go_ret
    exact ⟨ret_bool H.out.symm, B0⟩
  have c3 : (wk == 0) = true := by rw [bne, Bool.not_eq_false'] at a3; exact a3
  cases a4 : (dr != 0)
  case true =>
    have c4 : (dr == 0) = false := by rw [bne, Bool.not_eq_true'] at a4; exact a4
    have H := Lib.hid (show deedOk ⟨5, rn, p, tk, ty, wk, dr⟩ = false by rw [HD.out, c0, c1, c2, c3, c4]; simp)
    clear c0 c1 c2 c3
    clear c4
    go_enter Try.func55, Try.ntmps55
    go_upto_region 6 with (first | (go_at_call 82; refine (l16Num_any _ _).mono ?_; rintro e w9 ⟨rfl, rfl⟩; (try (with_reducible first | rw [e0] | rw [a0] | rw [a1] | rw [a2] | rw [a3] | rw [a4])); dsimp only) | (go_at_call 56; refine (l01In_any _ _ _ _).mono ?_; rintro e w9 ⟨rfl, rfl⟩; (try (with_reducible first | rw [e0] | rw [a0] | rw [a1] | rw [a2] | rw [a3] | rw [a4])); dsimp only))
    dsimp only [List.append]
    go_wp2_with (first | (go_at_call 82; refine (l16Num_any _ _).mono ?_; rintro e w9 ⟨rfl, rfl⟩; (try (with_reducible first | rw [e0] | rw [a0] | rw [a1] | rw [a2] | rw [a3] | rw [a4])); dsimp only) | (go_at_call 56; refine (l01In_any _ _ _ _).mono ?_; rintro e w9 ⟨rfl, rfl⟩; (try (with_reducible first | rw [e0] | rw [a0] | rw [a1] | rw [a2] | rw [a3] | rw [a4])); dsimp only))
    go_ret
    exact ⟨ret_bool H.out.symm, B0⟩
  have c4 : (dr == 0) = true := by rw [bne, Bool.not_eq_false'] at a4; exact a4
  have H := Lib.hid (show deedOk ⟨5, rn, p, tk, ty, wk, dr⟩ = planNone p by rw [HD.out, c0, c1, c2, c3, c4]; simp)
  clear c0 c1 c2 c3 c4
  have C := specNoPlan_any p ⟨A, n, c⟩ _ (HR.out _ B0)
  go_enter Try.func55, Try.ntmps55
  go_upto_region 6 with (first | (go_at_call 82; refine (l16Num_any _ _).mono ?_; rintro e w9 ⟨rfl, rfl⟩; (try (with_reducible first | rw [e0] | rw [a0] | rw [a1] | rw [a2] | rw [a3] | rw [a4])); dsimp only) | (go_at_call 56; refine (l01In_any _ _ _ _).mono ?_; rintro e w9 ⟨rfl, rfl⟩; (try (with_reducible first | rw [e0] | rw [a0] | rw [a1] | rw [a2] | rw [a3] | rw [a4])); dsimp only) | (go_at_call 84; refine C.mono ?_; rintro e w1 ⟨rfl, b1⟩))
  dsimp only [List.append]
  go_wp2_with (first | (go_at_call 82; refine (l16Num_any _ _).mono ?_; rintro e w9 ⟨rfl, rfl⟩; (try (with_reducible first | rw [e0] | rw [a0] | rw [a1] | rw [a2] | rw [a3] | rw [a4])); dsimp only) | (go_at_call 56; refine (l01In_any _ _ _ _).mono ?_; rintro e w9 ⟨rfl, rfl⟩; (try (with_reducible first | rw [e0] | rw [a0] | rw [a1] | rw [a2] | rw [a3] | rw [a4])); dsimp only) | (go_at_call 84; refine C.mono ?_; rintro e w1 ⟨rfl, b1⟩))
  go_ret
  exact ⟨ret_bool H.out.symm, bnext B0 b1⟩
theorem specDeedOk8 (d : Deed) (s : Sl) (w : World) (hk : d.kind = 8) (h : deedD.rd w w.heap.size d s) :
    Calls Try.prog 55 #[deedW d s] w fun e w' => e = .returned (.bool (deedOk d)) ∧ Below w.heap.size w w' := by
  have h2 : planD.rd w w.heap.size d.plan s := h
  have HR := Lib.hid (show ∀ W, Below w.heap.size w W → planD.rd W W.heap.size d.plan s from fun W hW => planD.rd_more (planD.rd_below h2 hW) hW.size)
  clear h h2
  obtain ⟨A, n, c⟩ := s
  obtain ⟨kd, rn, p, tk, ty, wk, dr⟩ := d
  obtain rfl : kd = 8 := hk
  have X := DBox.new 74 [.int .i64 8, .int .i64 rn, .int .i64 p.prio, .int .i64 p.most, .int .i64 p.wait, .int .i64 p.tasks, .slice A n c, .int .i64 tk, .int .i64 ty, .int .i64 wk, .int .i64 dr] w (b := w.heap.size) rfl
  have B0 : Below w.heap.size w (w.alloc (.cells #[.int .i64 8, .int .i64 rn, .int .i64 p.prio, .int .i64 p.most, .int .i64 p.wait, .int .i64 p.tasks, .slice A n c, .int .i64 tk, .int .i64 ty, .int .i64 wk, .int .i64 dr] 74)) := by repeat (first | exact Below.refl _ _ | refine Below.alloc ?_ (by simp <;> omega) _)
  have e0 : inB 8 1 8 = true := rfl
  have HD := Lib.hid (show deedOk ⟨8, rn, p, tk, ty, wk, dr⟩ = ((rn == 0) && (tk == 0) && (ty == 0) && (wk == 0) && (dr == 0) && planNone p) by simp [deedOk, inB, Bool.and_assoc])
  cases a0 : (rn != 0)
  case true =>
    have c0 : (rn == 0) = false := by rw [bne, Bool.not_eq_true'] at a0; exact a0
    have H := Lib.hid (show deedOk ⟨8, rn, p, tk, ty, wk, dr⟩ = false by rw [HD.out, c0]; simp)
    clear c0
    go_enter Try.func55, Try.ntmps55
    go_upto_region 6 with (first | (go_at_call 82; refine (l16Num_any _ _).mono ?_; rintro e w9 ⟨rfl, rfl⟩; (try (with_reducible first | rw [e0] | rw [a0] | rw [a1] | rw [a2] | rw [a3] | rw [a4])); dsimp only) | (go_at_call 56; refine (l01In_any _ _ _ _).mono ?_; rintro e w9 ⟨rfl, rfl⟩; (try (with_reducible first | rw [e0] | rw [a0] | rw [a1] | rw [a2] | rw [a3] | rw [a4])); dsimp only))
    dsimp only [List.append]
    go_wp2_with (first | (go_at_call 82; refine (l16Num_any _ _).mono ?_; rintro e w9 ⟨rfl, rfl⟩; (try (with_reducible first | rw [e0] | rw [a0] | rw [a1] | rw [a2] | rw [a3] | rw [a4])); dsimp only) | (go_at_call 56; refine (l01In_any _ _ _ _).mono ?_; rintro e w9 ⟨rfl, rfl⟩; (try (with_reducible first | rw [e0] | rw [a0] | rw [a1] | rw [a2] | rw [a3] | rw [a4])); dsimp only))
    go_ret
    exact ⟨ret_bool H.out.symm, B0⟩
  have c0 : (rn == 0) = true := by rw [bne, Bool.not_eq_false'] at a0; exact a0
  cases a1 : (tk != 0)
  case true =>
    have c1 : (tk == 0) = false := by rw [bne, Bool.not_eq_true'] at a1; exact a1
    have H := Lib.hid (show deedOk ⟨8, rn, p, tk, ty, wk, dr⟩ = false by rw [HD.out, c0, c1]; simp)
    clear c0
    clear c1
    go_enter Try.func55, Try.ntmps55
    go_upto_region 6 with (first | (go_at_call 82; refine (l16Num_any _ _).mono ?_; rintro e w9 ⟨rfl, rfl⟩; (try (with_reducible first | rw [e0] | rw [a0] | rw [a1] | rw [a2] | rw [a3] | rw [a4])); dsimp only) | (go_at_call 56; refine (l01In_any _ _ _ _).mono ?_; rintro e w9 ⟨rfl, rfl⟩; (try (with_reducible first | rw [e0] | rw [a0] | rw [a1] | rw [a2] | rw [a3] | rw [a4])); dsimp only))
    dsimp only [List.append]
    go_wp2_with (first | (go_at_call 82; refine (l16Num_any _ _).mono ?_; rintro e w9 ⟨rfl, rfl⟩; (try (with_reducible first | rw [e0] | rw [a0] | rw [a1] | rw [a2] | rw [a3] | rw [a4])); dsimp only) | (go_at_call 56; refine (l01In_any _ _ _ _).mono ?_; rintro e w9 ⟨rfl, rfl⟩; (try (with_reducible first | rw [e0] | rw [a0] | rw [a1] | rw [a2] | rw [a3] | rw [a4])); dsimp only))
    go_ret
    exact ⟨ret_bool H.out.symm, B0⟩
  have c1 : (tk == 0) = true := by rw [bne, Bool.not_eq_false'] at a1; exact a1
  cases a2 : (ty != 0)
  case true =>
    have c2 : (ty == 0) = false := by rw [bne, Bool.not_eq_true'] at a2; exact a2
    have H := Lib.hid (show deedOk ⟨8, rn, p, tk, ty, wk, dr⟩ = false by rw [HD.out, c0, c1, c2]; simp)
    clear c0 c1
    clear c2
    go_enter Try.func55, Try.ntmps55
    go_upto_region 6 with (first | (go_at_call 82; refine (l16Num_any _ _).mono ?_; rintro e w9 ⟨rfl, rfl⟩; (try (with_reducible first | rw [e0] | rw [a0] | rw [a1] | rw [a2] | rw [a3] | rw [a4])); dsimp only) | (go_at_call 56; refine (l01In_any _ _ _ _).mono ?_; rintro e w9 ⟨rfl, rfl⟩; (try (with_reducible first | rw [e0] | rw [a0] | rw [a1] | rw [a2] | rw [a3] | rw [a4])); dsimp only))
    dsimp only [List.append]
    go_wp2_with (first | (go_at_call 82; refine (l16Num_any _ _).mono ?_; rintro e w9 ⟨rfl, rfl⟩; (try (with_reducible first | rw [e0] | rw [a0] | rw [a1] | rw [a2] | rw [a3] | rw [a4])); dsimp only) | (go_at_call 56; refine (l01In_any _ _ _ _).mono ?_; rintro e w9 ⟨rfl, rfl⟩; (try (with_reducible first | rw [e0] | rw [a0] | rw [a1] | rw [a2] | rw [a3] | rw [a4])); dsimp only))
    go_ret
    exact ⟨ret_bool H.out.symm, B0⟩
  have c2 : (ty == 0) = true := by rw [bne, Bool.not_eq_false'] at a2; exact a2
  cases a3 : (wk != 0)
  case true =>
    have c3 : (wk == 0) = false := by rw [bne, Bool.not_eq_true'] at a3; exact a3
    have H := Lib.hid (show deedOk ⟨8, rn, p, tk, ty, wk, dr⟩ = false by rw [HD.out, c0, c1, c2, c3]; simp)
    clear c0 c1 c2
    clear c3
    go_enter Try.func55, Try.ntmps55
    go_upto_region 6 with (first | (go_at_call 82; refine (l16Num_any _ _).mono ?_; rintro e w9 ⟨rfl, rfl⟩; (try (with_reducible first | rw [e0] | rw [a0] | rw [a1] | rw [a2] | rw [a3] | rw [a4])); dsimp only) | (go_at_call 56; refine (l01In_any _ _ _ _).mono ?_; rintro e w9 ⟨rfl, rfl⟩; (try (with_reducible first | rw [e0] | rw [a0] | rw [a1] | rw [a2] | rw [a3] | rw [a4])); dsimp only))
    dsimp only [List.append]
    go_wp2_with (first | (go_at_call 82; refine (l16Num_any _ _).mono ?_; rintro e w9 ⟨rfl, rfl⟩; (try (with_reducible first | rw [e0] | rw [a0] | rw [a1] | rw [a2] | rw [a3] | rw [a4])); dsimp only) | (go_at_call 56; refine (l01In_any _ _ _ _).mono ?_; rintro e w9 ⟨rfl, rfl⟩; (try (with_reducible first | rw [e0] | rw [a0] | rw [a1] | rw [a2] | rw [a3] | rw [a4])); dsimp only))
    go_ret
    exact ⟨ret_bool H.out.symm, B0⟩
  have c3 : (wk == 0) = true := by rw [bne, Bool.not_eq_false'] at a3; exact a3
  cases a4 : (dr != 0)
  case true =>
    have c4 : (dr == 0) = false := by rw [bne, Bool.not_eq_true'] at a4; exact a4
    have H := Lib.hid (show deedOk ⟨8, rn, p, tk, ty, wk, dr⟩ = false by rw [HD.out, c0, c1, c2, c3, c4]; simp)
    clear c0 c1 c2 c3
    clear c4
    go_enter Try.func55, Try.ntmps55
    go_upto_region 6 with (first | (go_at_call 82; refine (l16Num_any _ _).mono ?_; rintro e w9 ⟨rfl, rfl⟩; (try (with_reducible first | rw [e0] | rw [a0] | rw [a1] | rw [a2] | rw [a3] | rw [a4])); dsimp only) | (go_at_call 56; refine (l01In_any _ _ _ _).mono ?_; rintro e w9 ⟨rfl, rfl⟩; (try (with_reducible first | rw [e0] | rw [a0] | rw [a1] | rw [a2] | rw [a3] | rw [a4])); dsimp only))
    dsimp only [List.append]
    go_wp2_with (first | (go_at_call 82; refine (l16Num_any _ _).mono ?_; rintro e w9 ⟨rfl, rfl⟩; (try (with_reducible first | rw [e0] | rw [a0] | rw [a1] | rw [a2] | rw [a3] | rw [a4])); dsimp only) | (go_at_call 56; refine (l01In_any _ _ _ _).mono ?_; rintro e w9 ⟨rfl, rfl⟩; (try (with_reducible first | rw [e0] | rw [a0] | rw [a1] | rw [a2] | rw [a3] | rw [a4])); dsimp only))
    go_ret
    exact ⟨ret_bool H.out.symm, B0⟩
  have c4 : (dr == 0) = true := by rw [bne, Bool.not_eq_false'] at a4; exact a4
  have H := Lib.hid (show deedOk ⟨8, rn, p, tk, ty, wk, dr⟩ = planNone p by rw [HD.out, c0, c1, c2, c3, c4]; simp)
  clear c0 c1 c2 c3 c4
  have C := specNoPlan_any p ⟨A, n, c⟩ _ (HR.out _ B0)
  go_enter Try.func55, Try.ntmps55
  go_upto_region 6 with (first | (go_at_call 82; refine (l16Num_any _ _).mono ?_; rintro e w9 ⟨rfl, rfl⟩; (try (with_reducible first | rw [e0] | rw [a0] | rw [a1] | rw [a2] | rw [a3] | rw [a4])); dsimp only) | (go_at_call 56; refine (l01In_any _ _ _ _).mono ?_; rintro e w9 ⟨rfl, rfl⟩; (try (with_reducible first | rw [e0] | rw [a0] | rw [a1] | rw [a2] | rw [a3] | rw [a4])); dsimp only) | (go_at_call 84; refine C.mono ?_; rintro e w1 ⟨rfl, b1⟩))
  dsimp only [List.append]
  go_wp2_with (first | (go_at_call 82; refine (l16Num_any _ _).mono ?_; rintro e w9 ⟨rfl, rfl⟩; (try (with_reducible first | rw [e0] | rw [a0] | rw [a1] | rw [a2] | rw [a3] | rw [a4])); dsimp only) | (go_at_call 56; refine (l01In_any _ _ _ _).mono ?_; rintro e w9 ⟨rfl, rfl⟩; (try (with_reducible first | rw [e0] | rw [a0] | rw [a1] | rw [a2] | rw [a3] | rw [a4])); dsimp only) | (go_at_call 84; refine C.mono ?_; rintro e w1 ⟨rfl, b1⟩))
  go_ret
  exact ⟨ret_bool H.out.symm, bnext B0 b1⟩
theorem specDeedOk6 (d : Deed) (s : Sl) (w : World) (hk : d.kind = 6) (h : deedD.rd w w.heap.size d s) :
    Calls Try.prog 55 #[deedW d s] w fun e w' => e = .returned (.bool (deedOk d)) ∧ Below w.heap.size w w' := by
  have h2 : planD.rd w w.heap.size d.plan s := h
  have HR := Lib.hid (show ∀ W, Below w.heap.size w W → planD.rd W W.heap.size d.plan s from fun W hW => planD.rd_more (planD.rd_below h2 hW) hW.size)
  clear h h2
  obtain ⟨A, n, c⟩ := s
  obtain ⟨kd, rn, p, tk, ty, wk, dr⟩ := d
  obtain rfl : kd = 6 := hk
  have X := DBox.new 74 [.int .i64 6, .int .i64 rn, .int .i64 p.prio, .int .i64 p.most, .int .i64 p.wait, .int .i64 p.tasks, .slice A n c, .int .i64 tk, .int .i64 ty, .int .i64 wk, .int .i64 dr] w (b := w.heap.size) rfl
  have B0 : Below w.heap.size w (w.alloc (.cells #[.int .i64 6, .int .i64 rn, .int .i64 p.prio, .int .i64 p.most, .int .i64 p.wait, .int .i64 p.tasks, .slice A n c, .int .i64 tk, .int .i64 ty, .int .i64 wk, .int .i64 dr] 74)) := by repeat (first | exact Below.refl _ _ | refine Below.alloc ?_ (by simp <;> omega) _)
  have e0 : inB 6 1 8 = true := rfl
  have HD := Lib.hid (show deedOk ⟨6, rn, p, tk, ty, wk, dr⟩ = (numB rn && (tk == 0) && (ty == 0) && (wk == 0) && (dr == 0) && planNone p) by simp [deedOk, inB, Bool.and_assoc])
  cases a0 : inB rn 0 1000000000
  case false =>
    have c0 : numB rn = false := a0
    have H := Lib.hid (show deedOk ⟨6, rn, p, tk, ty, wk, dr⟩ = false by rw [HD.out, c0]; simp)
    clear c0
    go_enter Try.func55, Try.ntmps55
    go_upto_region 6 with (first | (go_at_call 82; refine (l16Num_any _ _).mono ?_; rintro e w9 ⟨rfl, rfl⟩; (try (with_reducible first | rw [e0] | rw [a0] | rw [a1] | rw [a2] | rw [a3] | rw [a4])); dsimp only) | (go_at_call 56; refine (l01In_any _ _ _ _).mono ?_; rintro e w9 ⟨rfl, rfl⟩; (try (with_reducible first | rw [e0] | rw [a0] | rw [a1] | rw [a2] | rw [a3] | rw [a4])); dsimp only))
    dsimp only [List.append]
    go_wp2_with (first | (go_at_call 82; refine (l16Num_any _ _).mono ?_; rintro e w9 ⟨rfl, rfl⟩; (try (with_reducible first | rw [e0] | rw [a0] | rw [a1] | rw [a2] | rw [a3] | rw [a4])); dsimp only) | (go_at_call 56; refine (l01In_any _ _ _ _).mono ?_; rintro e w9 ⟨rfl, rfl⟩; (try (with_reducible first | rw [e0] | rw [a0] | rw [a1] | rw [a2] | rw [a3] | rw [a4])); dsimp only))
    go_ret
    exact ⟨ret_bool H.out.symm, B0⟩
  have c0 : numB rn = true := a0
  cases a1 : (tk != 0)
  case true =>
    have c1 : (tk == 0) = false := by rw [bne, Bool.not_eq_true'] at a1; exact a1
    have H := Lib.hid (show deedOk ⟨6, rn, p, tk, ty, wk, dr⟩ = false by rw [HD.out, c0, c1]; simp)
    clear c0
    clear c1
    go_enter Try.func55, Try.ntmps55
    go_upto_region 6 with (first | (go_at_call 82; refine (l16Num_any _ _).mono ?_; rintro e w9 ⟨rfl, rfl⟩; (try (with_reducible first | rw [e0] | rw [a0] | rw [a1] | rw [a2] | rw [a3] | rw [a4])); dsimp only) | (go_at_call 56; refine (l01In_any _ _ _ _).mono ?_; rintro e w9 ⟨rfl, rfl⟩; (try (with_reducible first | rw [e0] | rw [a0] | rw [a1] | rw [a2] | rw [a3] | rw [a4])); dsimp only))
    dsimp only [List.append]
    go_wp2_with (first | (go_at_call 82; refine (l16Num_any _ _).mono ?_; rintro e w9 ⟨rfl, rfl⟩; (try (with_reducible first | rw [e0] | rw [a0] | rw [a1] | rw [a2] | rw [a3] | rw [a4])); dsimp only) | (go_at_call 56; refine (l01In_any _ _ _ _).mono ?_; rintro e w9 ⟨rfl, rfl⟩; (try (with_reducible first | rw [e0] | rw [a0] | rw [a1] | rw [a2] | rw [a3] | rw [a4])); dsimp only))
    go_ret
    exact ⟨ret_bool H.out.symm, B0⟩
  have c1 : (tk == 0) = true := by rw [bne, Bool.not_eq_false'] at a1; exact a1
  cases a2 : (ty != 0)
  case true =>
    have c2 : (ty == 0) = false := by rw [bne, Bool.not_eq_true'] at a2; exact a2
    have H := Lib.hid (show deedOk ⟨6, rn, p, tk, ty, wk, dr⟩ = false by rw [HD.out, c0, c1, c2]; simp)
    clear c0 c1
    clear c2
    go_enter Try.func55, Try.ntmps55
    go_upto_region 6 with (first | (go_at_call 82; refine (l16Num_any _ _).mono ?_; rintro e w9 ⟨rfl, rfl⟩; (try (with_reducible first | rw [e0] | rw [a0] | rw [a1] | rw [a2] | rw [a3] | rw [a4])); dsimp only) | (go_at_call 56; refine (l01In_any _ _ _ _).mono ?_; rintro e w9 ⟨rfl, rfl⟩; (try (with_reducible first | rw [e0] | rw [a0] | rw [a1] | rw [a2] | rw [a3] | rw [a4])); dsimp only))
    dsimp only [List.append]
    go_wp2_with (first | (go_at_call 82; refine (l16Num_any _ _).mono ?_; rintro e w9 ⟨rfl, rfl⟩; (try (with_reducible first | rw [e0] | rw [a0] | rw [a1] | rw [a2] | rw [a3] | rw [a4])); dsimp only) | (go_at_call 56; refine (l01In_any _ _ _ _).mono ?_; rintro e w9 ⟨rfl, rfl⟩; (try (with_reducible first | rw [e0] | rw [a0] | rw [a1] | rw [a2] | rw [a3] | rw [a4])); dsimp only))
    go_ret
    exact ⟨ret_bool H.out.symm, B0⟩
  have c2 : (ty == 0) = true := by rw [bne, Bool.not_eq_false'] at a2; exact a2
  cases a3 : (wk != 0)
  case true =>
    have c3 : (wk == 0) = false := by rw [bne, Bool.not_eq_true'] at a3; exact a3
    have H := Lib.hid (show deedOk ⟨6, rn, p, tk, ty, wk, dr⟩ = false by rw [HD.out, c0, c1, c2, c3]; simp)
    clear c0 c1 c2
    clear c3
    go_enter Try.func55, Try.ntmps55
    go_upto_region 6 with (first | (go_at_call 82; refine (l16Num_any _ _).mono ?_; rintro e w9 ⟨rfl, rfl⟩; (try (with_reducible first | rw [e0] | rw [a0] | rw [a1] | rw [a2] | rw [a3] | rw [a4])); dsimp only) | (go_at_call 56; refine (l01In_any _ _ _ _).mono ?_; rintro e w9 ⟨rfl, rfl⟩; (try (with_reducible first | rw [e0] | rw [a0] | rw [a1] | rw [a2] | rw [a3] | rw [a4])); dsimp only))
    dsimp only [List.append]
    go_wp2_with (first | (go_at_call 82; refine (l16Num_any _ _).mono ?_; rintro e w9 ⟨rfl, rfl⟩; (try (with_reducible first | rw [e0] | rw [a0] | rw [a1] | rw [a2] | rw [a3] | rw [a4])); dsimp only) | (go_at_call 56; refine (l01In_any _ _ _ _).mono ?_; rintro e w9 ⟨rfl, rfl⟩; (try (with_reducible first | rw [e0] | rw [a0] | rw [a1] | rw [a2] | rw [a3] | rw [a4])); dsimp only))
    go_ret
    exact ⟨ret_bool H.out.symm, B0⟩
  have c3 : (wk == 0) = true := by rw [bne, Bool.not_eq_false'] at a3; exact a3
  cases a4 : (dr != 0)
  case true =>
    have c4 : (dr == 0) = false := by rw [bne, Bool.not_eq_true'] at a4; exact a4
    have H := Lib.hid (show deedOk ⟨6, rn, p, tk, ty, wk, dr⟩ = false by rw [HD.out, c0, c1, c2, c3, c4]; simp)
    clear c0 c1 c2 c3
    clear c4
    go_enter Try.func55, Try.ntmps55
    go_upto_region 6 with (first | (go_at_call 82; refine (l16Num_any _ _).mono ?_; rintro e w9 ⟨rfl, rfl⟩; (try (with_reducible first | rw [e0] | rw [a0] | rw [a1] | rw [a2] | rw [a3] | rw [a4])); dsimp only) | (go_at_call 56; refine (l01In_any _ _ _ _).mono ?_; rintro e w9 ⟨rfl, rfl⟩; (try (with_reducible first | rw [e0] | rw [a0] | rw [a1] | rw [a2] | rw [a3] | rw [a4])); dsimp only))
    dsimp only [List.append]
    go_wp2_with (first | (go_at_call 82; refine (l16Num_any _ _).mono ?_; rintro e w9 ⟨rfl, rfl⟩; (try (with_reducible first | rw [e0] | rw [a0] | rw [a1] | rw [a2] | rw [a3] | rw [a4])); dsimp only) | (go_at_call 56; refine (l01In_any _ _ _ _).mono ?_; rintro e w9 ⟨rfl, rfl⟩; (try (with_reducible first | rw [e0] | rw [a0] | rw [a1] | rw [a2] | rw [a3] | rw [a4])); dsimp only))
    go_ret
    exact ⟨ret_bool H.out.symm, B0⟩
  have c4 : (dr == 0) = true := by rw [bne, Bool.not_eq_false'] at a4; exact a4
  have H := Lib.hid (show deedOk ⟨6, rn, p, tk, ty, wk, dr⟩ = planNone p by rw [HD.out, c0, c1, c2, c3, c4]; simp)
  clear c0 c1 c2 c3 c4
  have C := specNoPlan_any p ⟨A, n, c⟩ _ (HR.out _ B0)
  go_enter Try.func55, Try.ntmps55
  go_upto_region 6 with (first | (go_at_call 82; refine (l16Num_any _ _).mono ?_; rintro e w9 ⟨rfl, rfl⟩; (try (with_reducible first | rw [e0] | rw [a0] | rw [a1] | rw [a2] | rw [a3] | rw [a4])); dsimp only) | (go_at_call 56; refine (l01In_any _ _ _ _).mono ?_; rintro e w9 ⟨rfl, rfl⟩; (try (with_reducible first | rw [e0] | rw [a0] | rw [a1] | rw [a2] | rw [a3] | rw [a4])); dsimp only) | (go_at_call 84; refine C.mono ?_; rintro e w1 ⟨rfl, b1⟩))
  dsimp only [List.append]
  go_wp2_with (first | (go_at_call 82; refine (l16Num_any _ _).mono ?_; rintro e w9 ⟨rfl, rfl⟩; (try (with_reducible first | rw [e0] | rw [a0] | rw [a1] | rw [a2] | rw [a3] | rw [a4])); dsimp only) | (go_at_call 56; refine (l01In_any _ _ _ _).mono ?_; rintro e w9 ⟨rfl, rfl⟩; (try (with_reducible first | rw [e0] | rw [a0] | rw [a1] | rw [a2] | rw [a3] | rw [a4])); dsimp only) | (go_at_call 84; refine C.mono ?_; rintro e w1 ⟨rfl, b1⟩))
  go_ret
  exact ⟨ret_bool H.out.symm, bnext B0 b1⟩
theorem specDeedOk7 (d : Deed) (s : Sl) (w : World) (hk : d.kind = 7) (h : deedD.rd w w.heap.size d s) :
    Calls Try.prog 55 #[deedW d s] w fun e w' => e = .returned (.bool (deedOk d)) ∧ Below w.heap.size w w' := by
  have h2 : planD.rd w w.heap.size d.plan s := h
  have HR := Lib.hid (show ∀ W, Below w.heap.size w W → planD.rd W W.heap.size d.plan s from fun W hW => planD.rd_more (planD.rd_below h2 hW) hW.size)
  clear h h2
  obtain ⟨A, n, c⟩ := s
  obtain ⟨kd, rn, p, tk, ty, wk, dr⟩ := d
  obtain rfl : kd = 7 := hk
  have X := DBox.new 74 [.int .i64 7, .int .i64 rn, .int .i64 p.prio, .int .i64 p.most, .int .i64 p.wait, .int .i64 p.tasks, .slice A n c, .int .i64 tk, .int .i64 ty, .int .i64 wk, .int .i64 dr] w (b := w.heap.size) rfl
  have B0 : Below w.heap.size w (w.alloc (.cells #[.int .i64 7, .int .i64 rn, .int .i64 p.prio, .int .i64 p.most, .int .i64 p.wait, .int .i64 p.tasks, .slice A n c, .int .i64 tk, .int .i64 ty, .int .i64 wk, .int .i64 dr] 74)) := by repeat (first | exact Below.refl _ _ | refine Below.alloc ?_ (by simp <;> omega) _)
  have e0 : inB 7 1 8 = true := rfl
  have HD := Lib.hid (show deedOk ⟨7, rn, p, tk, ty, wk, dr⟩ = (numB rn && (tk == 0) && (ty == 0) && (wk == 0) && (dr == 0) && planNone p) by simp [deedOk, inB, Bool.and_assoc])
  cases a0 : inB rn 0 1000000000
  case false =>
    have c0 : numB rn = false := a0
    have H := Lib.hid (show deedOk ⟨7, rn, p, tk, ty, wk, dr⟩ = false by rw [HD.out, c0]; simp)
    clear c0
    go_enter Try.func55, Try.ntmps55
    go_upto_region 6 with (first | (go_at_call 82; refine (l16Num_any _ _).mono ?_; rintro e w9 ⟨rfl, rfl⟩; (try (with_reducible first | rw [e0] | rw [a0] | rw [a1] | rw [a2] | rw [a3] | rw [a4])); dsimp only) | (go_at_call 56; refine (l01In_any _ _ _ _).mono ?_; rintro e w9 ⟨rfl, rfl⟩; (try (with_reducible first | rw [e0] | rw [a0] | rw [a1] | rw [a2] | rw [a3] | rw [a4])); dsimp only))
    dsimp only [List.append]
    go_wp2_with (first | (go_at_call 82; refine (l16Num_any _ _).mono ?_; rintro e w9 ⟨rfl, rfl⟩; (try (with_reducible first | rw [e0] | rw [a0] | rw [a1] | rw [a2] | rw [a3] | rw [a4])); dsimp only) | (go_at_call 56; refine (l01In_any _ _ _ _).mono ?_; rintro e w9 ⟨rfl, rfl⟩; (try (with_reducible first | rw [e0] | rw [a0] | rw [a1] | rw [a2] | rw [a3] | rw [a4])); dsimp only))
    go_ret
    exact ⟨ret_bool H.out.symm, B0⟩
  have c0 : numB rn = true := a0
  cases a1 : (tk != 0)
  case true =>
    have c1 : (tk == 0) = false := by rw [bne, Bool.not_eq_true'] at a1; exact a1
    have H := Lib.hid (show deedOk ⟨7, rn, p, tk, ty, wk, dr⟩ = false by rw [HD.out, c0, c1]; simp)
    clear c0
    clear c1
    go_enter Try.func55, Try.ntmps55
    go_upto_region 6 with (first | (go_at_call 82; refine (l16Num_any _ _).mono ?_; rintro e w9 ⟨rfl, rfl⟩; (try (with_reducible first | rw [e0] | rw [a0] | rw [a1] | rw [a2] | rw [a3] | rw [a4])); dsimp only) | (go_at_call 56; refine (l01In_any _ _ _ _).mono ?_; rintro e w9 ⟨rfl, rfl⟩; (try (with_reducible first | rw [e0] | rw [a0] | rw [a1] | rw [a2] | rw [a3] | rw [a4])); dsimp only))
    dsimp only [List.append]
    go_wp2_with (first | (go_at_call 82; refine (l16Num_any _ _).mono ?_; rintro e w9 ⟨rfl, rfl⟩; (try (with_reducible first | rw [e0] | rw [a0] | rw [a1] | rw [a2] | rw [a3] | rw [a4])); dsimp only) | (go_at_call 56; refine (l01In_any _ _ _ _).mono ?_; rintro e w9 ⟨rfl, rfl⟩; (try (with_reducible first | rw [e0] | rw [a0] | rw [a1] | rw [a2] | rw [a3] | rw [a4])); dsimp only))
    go_ret
    exact ⟨ret_bool H.out.symm, B0⟩
  have c1 : (tk == 0) = true := by rw [bne, Bool.not_eq_false'] at a1; exact a1
  cases a2 : (ty != 0)
  case true =>
    have c2 : (ty == 0) = false := by rw [bne, Bool.not_eq_true'] at a2; exact a2
    have H := Lib.hid (show deedOk ⟨7, rn, p, tk, ty, wk, dr⟩ = false by rw [HD.out, c0, c1, c2]; simp)
    clear c0 c1
    clear c2
    go_enter Try.func55, Try.ntmps55
    go_upto_region 6 with (first | (go_at_call 82; refine (l16Num_any _ _).mono ?_; rintro e w9 ⟨rfl, rfl⟩; (try (with_reducible first | rw [e0] | rw [a0] | rw [a1] | rw [a2] | rw [a3] | rw [a4])); dsimp only) | (go_at_call 56; refine (l01In_any _ _ _ _).mono ?_; rintro e w9 ⟨rfl, rfl⟩; (try (with_reducible first | rw [e0] | rw [a0] | rw [a1] | rw [a2] | rw [a3] | rw [a4])); dsimp only))
    dsimp only [List.append]
    go_wp2_with (first | (go_at_call 82; refine (l16Num_any _ _).mono ?_; rintro e w9 ⟨rfl, rfl⟩; (try (with_reducible first | rw [e0] | rw [a0] | rw [a1] | rw [a2] | rw [a3] | rw [a4])); dsimp only) | (go_at_call 56; refine (l01In_any _ _ _ _).mono ?_; rintro e w9 ⟨rfl, rfl⟩; (try (with_reducible first | rw [e0] | rw [a0] | rw [a1] | rw [a2] | rw [a3] | rw [a4])); dsimp only))
    go_ret
    exact ⟨ret_bool H.out.symm, B0⟩
  have c2 : (ty == 0) = true := by rw [bne, Bool.not_eq_false'] at a2; exact a2
  cases a3 : (wk != 0)
  case true =>
    have c3 : (wk == 0) = false := by rw [bne, Bool.not_eq_true'] at a3; exact a3
    have H := Lib.hid (show deedOk ⟨7, rn, p, tk, ty, wk, dr⟩ = false by rw [HD.out, c0, c1, c2, c3]; simp)
    clear c0 c1 c2
    clear c3
    go_enter Try.func55, Try.ntmps55
    go_upto_region 6 with (first | (go_at_call 82; refine (l16Num_any _ _).mono ?_; rintro e w9 ⟨rfl, rfl⟩; (try (with_reducible first | rw [e0] | rw [a0] | rw [a1] | rw [a2] | rw [a3] | rw [a4])); dsimp only) | (go_at_call 56; refine (l01In_any _ _ _ _).mono ?_; rintro e w9 ⟨rfl, rfl⟩; (try (with_reducible first | rw [e0] | rw [a0] | rw [a1] | rw [a2] | rw [a3] | rw [a4])); dsimp only))
    dsimp only [List.append]
    go_wp2_with (first | (go_at_call 82; refine (l16Num_any _ _).mono ?_; rintro e w9 ⟨rfl, rfl⟩; (try (with_reducible first | rw [e0] | rw [a0] | rw [a1] | rw [a2] | rw [a3] | rw [a4])); dsimp only) | (go_at_call 56; refine (l01In_any _ _ _ _).mono ?_; rintro e w9 ⟨rfl, rfl⟩; (try (with_reducible first | rw [e0] | rw [a0] | rw [a1] | rw [a2] | rw [a3] | rw [a4])); dsimp only))
    go_ret
    exact ⟨ret_bool H.out.symm, B0⟩
  have c3 : (wk == 0) = true := by rw [bne, Bool.not_eq_false'] at a3; exact a3
  cases a4 : (dr != 0)
  case true =>
    have c4 : (dr == 0) = false := by rw [bne, Bool.not_eq_true'] at a4; exact a4
    have H := Lib.hid (show deedOk ⟨7, rn, p, tk, ty, wk, dr⟩ = false by rw [HD.out, c0, c1, c2, c3, c4]; simp)
    clear c0 c1 c2 c3
    clear c4
    go_enter Try.func55, Try.ntmps55
    go_upto_region 6 with (first | (go_at_call 82; refine (l16Num_any _ _).mono ?_; rintro e w9 ⟨rfl, rfl⟩; (try (with_reducible first | rw [e0] | rw [a0] | rw [a1] | rw [a2] | rw [a3] | rw [a4])); dsimp only) | (go_at_call 56; refine (l01In_any _ _ _ _).mono ?_; rintro e w9 ⟨rfl, rfl⟩; (try (with_reducible first | rw [e0] | rw [a0] | rw [a1] | rw [a2] | rw [a3] | rw [a4])); dsimp only))
    dsimp only [List.append]
    go_wp2_with (first | (go_at_call 82; refine (l16Num_any _ _).mono ?_; rintro e w9 ⟨rfl, rfl⟩; (try (with_reducible first | rw [e0] | rw [a0] | rw [a1] | rw [a2] | rw [a3] | rw [a4])); dsimp only) | (go_at_call 56; refine (l01In_any _ _ _ _).mono ?_; rintro e w9 ⟨rfl, rfl⟩; (try (with_reducible first | rw [e0] | rw [a0] | rw [a1] | rw [a2] | rw [a3] | rw [a4])); dsimp only))
    go_ret
    exact ⟨ret_bool H.out.symm, B0⟩
  have c4 : (dr == 0) = true := by rw [bne, Bool.not_eq_false'] at a4; exact a4
  have H := Lib.hid (show deedOk ⟨7, rn, p, tk, ty, wk, dr⟩ = planNone p by rw [HD.out, c0, c1, c2, c3, c4]; simp)
  clear c0 c1 c2 c3 c4
  have C := specNoPlan_any p ⟨A, n, c⟩ _ (HR.out _ B0)
  go_enter Try.func55, Try.ntmps55
  go_upto_region 6 with (first | (go_at_call 82; refine (l16Num_any _ _).mono ?_; rintro e w9 ⟨rfl, rfl⟩; (try (with_reducible first | rw [e0] | rw [a0] | rw [a1] | rw [a2] | rw [a3] | rw [a4])); dsimp only) | (go_at_call 56; refine (l01In_any _ _ _ _).mono ?_; rintro e w9 ⟨rfl, rfl⟩; (try (with_reducible first | rw [e0] | rw [a0] | rw [a1] | rw [a2] | rw [a3] | rw [a4])); dsimp only) | (go_at_call 84; refine C.mono ?_; rintro e w1 ⟨rfl, b1⟩))
  dsimp only [List.append]
  go_wp2_with (first | (go_at_call 82; refine (l16Num_any _ _).mono ?_; rintro e w9 ⟨rfl, rfl⟩; (try (with_reducible first | rw [e0] | rw [a0] | rw [a1] | rw [a2] | rw [a3] | rw [a4])); dsimp only) | (go_at_call 56; refine (l01In_any _ _ _ _).mono ?_; rintro e w9 ⟨rfl, rfl⟩; (try (with_reducible first | rw [e0] | rw [a0] | rw [a1] | rw [a2] | rw [a3] | rw [a4])); dsimp only) | (go_at_call 84; refine C.mono ?_; rintro e w1 ⟨rfl, b1⟩))
  go_ret
  exact ⟨ret_bool H.out.symm, bnext B0 b1⟩
end Go.Proofs.Ytjobmbjadpldfaa
