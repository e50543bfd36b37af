/-
  sameDeed of the program. Written by program (vj.py).
-/
import Derived.Test.YtjobmbjadpldfaaEqq
import Derived.Test.YtjobmbjadpldfaaTDeed
namespace Go.Proofs.Ytjobmbjadpldfaa
open Go.RowKit
set_option maxRecDepth 100000
set_option maxHeartbeats 2000000
set_option linter.unusedVariables false
set_option linter.unusedSimpArgs false

theorem sameDeed_own (x y : Deed) (s r : Sl) (w : World) (hl : cntDeed x ≤ 2000000) (hl' : cntDeed y ≤ 2000000) (h : deedD.rd w w.heap.size x s) (h' : deedD.rd w w.heap.size y r) :
    Calls Try.prog 89 #[deedW x s, deedW y r] w fun e w' => e = .returned (.bool (decide (x = y))) ∧ Below w.heap.size w w' := by
  have hbx : ∀ W, Below w.heap.size w W → deedD.rd W W.heap.size x s := fun W hW => deedD.rd_more (deedD.rd_below h hW) hW.size
  have hby : ∀ W, Below w.heap.size w W → deedD.rd W W.heap.size y r := fun W hW => deedD.rd_more (deedD.rd_below h' hW) hW.size
  have no : ∀ {P : Prop}, (x = y → P) → ¬ P → Hid (decide (x = y) = false) := fun f g => decide_eq_false (fun e => g (f e))
  have a1 : Below w.heap.size w (w.alloc (.cells #[.int .i64 x.kind, .int .i64 x.run, .int .i64 x.plan.prio, .int .i64 x.plan.most, .int .i64 x.plan.wait, .int .i64 x.plan.tasks, .slice s.a s.n s.c, .int .i64 x.task, .int .i64 x.try_, .int .i64 x.worker, .int .i64 x.draw] 74)) := (Below.refl _ _).alloc (Nat.le_refl _) _
  have a2 : Below (w.alloc (.cells #[.int .i64 x.kind, .int .i64 x.run, .int .i64 x.plan.prio, .int .i64 x.plan.most, .int .i64 x.plan.wait, .int .i64 x.plan.tasks, .slice s.a s.n s.c, .int .i64 x.task, .int .i64 x.try_, .int .i64 x.worker, .int .i64 x.draw] 74)).heap.size (w.alloc (.cells #[.int .i64 x.kind, .int .i64 x.run, .int .i64 x.plan.prio, .int .i64 x.plan.most, .int .i64 x.plan.wait, .int .i64 x.plan.tasks, .slice s.a s.n s.c, .int .i64 x.task, .int .i64 x.try_, .int .i64 x.worker, .int .i64 x.draw] 74)) ((w.alloc (.cells #[.int .i64 x.kind, .int .i64 x.run, .int .i64 x.plan.prio, .int .i64 x.plan.most, .int .i64 x.plan.wait, .int .i64 x.plan.tasks, .slice s.a s.n s.c, .int .i64 x.task, .int .i64 x.try_, .int .i64 x.worker, .int .i64 x.draw] 74)).alloc (.cells #[.int .i64 y.kind, .int .i64 y.run, .int .i64 y.plan.prio, .int .i64 y.plan.most, .int .i64 y.plan.wait, .int .i64 y.plan.tasks, .slice r.a r.n r.c, .int .i64 y.task, .int .i64 y.try_, .int .i64 y.worker, .int .i64 y.draw] 74)) := (Below.refl _ _).alloc (Nat.le_refl _) _
  have X := (DBox.new 74 [.int .i64 x.kind, .int .i64 x.run, .int .i64 x.plan.prio, .int .i64 x.plan.most, .int .i64 x.plan.wait, .int .i64 x.plan.tasks, .slice s.a s.n s.c, .int .i64 x.task, .int .i64 x.try_, .int .i64 x.worker, .int .i64 x.draw] w rfl).below a2
  have Y := DBox.new 74 [.int .i64 y.kind, .int .i64 y.run, .int .i64 y.plan.prio, .int .i64 y.plan.most, .int .i64 y.plan.wait, .int .i64 y.plan.tasks, .slice r.a r.n r.c, .int .i64 y.task, .int .i64 y.try_, .int .i64 y.worker, .int .i64 y.draw] (w.alloc (.cells #[.int .i64 x.kind, .int .i64 x.run, .int .i64 x.plan.prio, .int .i64 x.plan.most, .int .i64 x.plan.wait, .int .i64 x.plan.tasks, .slice s.a s.n s.c, .int .i64 x.task, .int .i64 x.try_, .int .i64 x.worker, .int .i64 x.draw] 74)) (b := w.heap.size + 1) (by simp)
  have B0 := bnext a1 a2
  clear a1 a2
  by_cases h0 : x.kind = y.kind
  case neg =>
    have t0 : (x.kind == y.kind) = false := beq_eq_false_iff_ne.2 h0
    have H := no (fun e => by rw [e]) h0
    clear h0 no hbx hby
    go_enter Try.func89, Try.ntmps89
    go_wp2
    go_ret
    exact ⟨ret_bool H.out.symm, B0⟩
  have t0 : (x.kind == y.kind) = true := by simp [h0]
  have H0 := Lib.hid h0
  clear h0
  by_cases h1 : x.run = y.run
  case neg =>
    have t1 : (x.run == y.run) = false := beq_eq_false_iff_ne.2 h1
    have H := no (fun e => by rw [e]) h1
    clear h1 no hbx hby
    go_enter Try.func89, Try.ntmps89
    go_wp2
    go_ret
    exact ⟨ret_bool H.out.symm, B0⟩
  have t1 : (x.run == y.run) = true := by simp [h1]
  have H1 := Lib.hid h1
  clear h1
  go_enter Try.func89, Try.ntmps89
  go_wp2_with fail
  generalize ((w.alloc (.cells #[.int .i64 x.kind, .int .i64 x.run, .int .i64 x.plan.prio, .int .i64 x.plan.most, .int .i64 x.plan.wait, .int .i64 x.plan.tasks, .slice s.a s.n s.c, .int .i64 x.task, .int .i64 x.try_, .int .i64 x.worker, .int .i64 x.draw] 74)).alloc (.cells #[.int .i64 y.kind, .int .i64 y.run, .int .i64 y.plan.prio, .int .i64 y.plan.most, .int .i64 y.plan.wait, .int .i64 y.plan.tasks, .slice r.a r.n r.c, .int .i64 y.task, .int .i64 y.try_, .int .i64 y.worker, .int .i64 y.draw] 74)) = w0 at *
  refine (samePlan_own x.plan y.plan s r _ (by unfold cntDeed at hl; omega) (by unfold cntDeed at hl'; omega) (hbx _ B0) (hby _ B0)).mono ?_
  rintro e w1 ⟨rfl, b1⟩
  replace X := X.below b1
  replace Y := Y.below b1
  replace B0 := bnext B0 b1
  have u0 := X.cell 0 _ rfl
  have v0 := Y.cell 0 _ rfl
  have u1 := X.cell 1 _ rfl
  have v1 := Y.cell 1 _ rfl
  have u2 := X.cell 2 _ rfl
  have v2 := Y.cell 2 _ rfl
  have u3 := X.cell 3 _ rfl
  have v3 := Y.cell 3 _ rfl
  have u4 := X.cell 4 _ rfl
  have v4 := Y.cell 4 _ rfl
  have u5 := X.cell 5 _ rfl
  have v5 := Y.cell 5 _ rfl
  have u6 := X.cell 6 _ rfl
  have v6 := Y.cell 6 _ rfl
  have u7 := X.cell 7 _ rfl
  have v7 := Y.cell 7 _ rfl
  have u8 := X.cell 8 _ rfl
  have v8 := Y.cell 8 _ rfl
  have u9 := X.cell 9 _ rfl
  have v9 := Y.cell 9 _ rfl
  have u10 := X.cell 10 _ rfl
  have v10 := Y.cell 10 _ rfl
  have us := X.lt
  have vs := Y.lt
  by_cases h2 : x.plan = y.plan
  case neg =>
    have t2 : decide (x.plan = y.plan) = false := decide_eq_false h2
    have H := no (fun e => by rw [e]) h2
    rw [t2]
    clear h2 no hbx hby t2
    go_wp2
    go_ret
    exact ⟨ret_bool H.out.symm, B0⟩
  have t2 : decide (x.plan = y.plan) = true := decide_eq_true h2
  rw [t2]
  have H2 := Lib.hid h2
  clear h2 t2 b1
  by_cases h3 : x.task = y.task
  case neg =>
    have t3 : (x.task == y.task) = false := beq_eq_false_iff_ne.2 h3
    have H := no (fun e => by rw [e]) h3
    clear h3 no hbx hby
    go_wp2
    go_ret
    exact ⟨ret_bool H.out.symm, B0⟩
  have t3 : (x.task == y.task) = true := by simp [h3]
  have H3 := Lib.hid h3
  clear h3
  by_cases h4 : x.try_ = y.try_
  case neg =>
    have t4 : (x.try_ == y.try_) = false := beq_eq_false_iff_ne.2 h4
    have H := no (fun e => by rw [e]) h4
    clear h4 no hbx hby
    go_wp2
    go_ret
    exact ⟨ret_bool H.out.symm, B0⟩
  have t4 : (x.try_ == y.try_) = true := by simp [h4]
  have H4 := Lib.hid h4
  clear h4
  by_cases h5 : x.worker = y.worker
  case neg =>
    have t5 : (x.worker == y.worker) = false := beq_eq_false_iff_ne.2 h5
    have H := no (fun e => by rw [e]) h5
    clear h5 no hbx hby
    go_wp2
    go_ret
    exact ⟨ret_bool H.out.symm, B0⟩
  have t5 : (x.worker == y.worker) = true := by simp [h5]
  have H5 := Lib.hid h5
  clear h5
  by_cases h6 : x.draw = y.draw
  case neg =>
    have t6 : (x.draw == y.draw) = false := beq_eq_false_iff_ne.2 h6
    have H := no (fun e => by rw [e]) h6
    clear h6 no hbx hby
    go_wp2
    go_ret
    exact ⟨ret_bool H.out.symm, B0⟩
  have t6 : (x.draw == y.draw) = true := by simp [h6]
  have H6 := Lib.hid h6
  clear h6
  have H : Hid (decide (x = y) = true) := decide_eq_true (by
    have e0 := H0.out ; have e1 := H1.out ; have e2 := H2.out ; have e3 := H3.out ; have e4 := H4.out ; have e5 := H5.out ; have e6 := H6.out
    cases x
    cases y
    simp only at e0 e1 e2 e3 e4 e5 e6
    subst e0 e1 e2 e3 e4 e5 e6
    rfl)
  clear no hbx hby
  go_wp2
  go_ret
  exact ⟨ret_bool H.out.symm, B0⟩

end Go.Proofs.Ytjobmbjadpldfaa
