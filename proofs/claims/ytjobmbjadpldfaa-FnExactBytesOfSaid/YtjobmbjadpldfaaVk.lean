/-
  DeedOk of the program.
-/
import Derived.Test.YtjobmbjadpldfaaVi
import Derived.Test.YtjobmbjadpldfaaVj
import Derived.BigRegion
import Derived.ChangeAlike
namespace Go.Proofs.Ytjobmbjadpldfaa
open Go.RowKit
set_option maxRecDepth 100000
set_option maxHeartbeats 2000000
set_option linter.unusedVariables false
set_option linter.unusedSimpArgs false

/-- a deed with those fields alone that its kind uses -/
def planZ : Plan := ⟨0, 0, 0, 0, []⟩
def usedD (d : Deed) : Deed :=
  if d.kind = 1 then ⟨d.kind, d.run, d.plan, 0, 0, 0, 0⟩
  else if d.kind = 2 then ⟨d.kind, 0, planZ, 0, 0, d.worker, d.draw⟩
  else if d.kind = 3 ∨ d.kind = 4 then ⟨d.kind, d.run, planZ, d.task, d.try_, 0, 0⟩
  else if d.kind = 6 ∨ d.kind = 7 then ⟨d.kind, d.run, planZ, 0, 0, 0, 0⟩
  else ⟨d.kind, 0, planZ, 0, 0, 0, 0⟩

theorem DBox.drew {b : Nat} {cs : List Value} {w : World} (h : DBox b cs w) : DBox b cs w.drew := ⟨h.cell, h.free, h.lt⟩
theorem DBox.row11 {b : Nat} {cs : List Value} {w : World} (h : DBox b cs w) (hn : cs.length = 11) (u0 u1 u2 u3 u4 u5 u6 u7 u8 u9 u10 : Value) :
    DBox b [u0, u1, u2, u3, u4, u5, u6, u7, u8, u9, u10] (((((((((((w.setCell ⟨b, 0, none⟩ u0).setCell ⟨b, 1, none⟩ u1).setCell ⟨b, 2, none⟩ u2).setCell ⟨b, 3, none⟩ u3).setCell ⟨b, 4, none⟩ u4).setCell ⟨b, 5, none⟩ u5).setCell ⟨b, 6, none⟩ u6).setCell ⟨b, 7, none⟩ u7).setCell ⟨b, 8, none⟩ u8).setCell ⟨b, 9, none⟩ u9).setCell ⟨b, 10, none⟩ u10) := by
  obtain ⟨c0, c1, c2, c3, c4, c5, c6, c7, c8, c9, c10, rfl⟩ : ∃ c0 c1 c2 c3 c4 c5 c6 c7 c8 c9 c10, cs = [c0, c1, c2, c3, c4, c5, c6, c7, c8, c9, c10] := by
    match cs, hn with
    | [c0, c1, c2, c3, c4, c5, c6, c7, c8, c9, c10], _ => exact ⟨c0, c1, c2, c3, c4, c5, c6, c7, c8, c9, c10, rfl⟩
  exact ((((((((((h.set 0 (by simp) u0).set 1 (by simp) u1).set 2 (by simp) u2).set 3 (by simp) u3).set 4 (by simp) u4).set 5 (by simp) u5).set 6 (by simp) u6).set 7 (by simp) u7).set 8 (by simp) u8).set 9 (by simp) u9).set 10 (by simp) u10
theorem used_res {b : Nat} {w : World} {u0 u1 u2 u3 u4 u5 u6 u7 u8 u9 u10 : Value} (X : DBox b [u0, u1, u2, u3, u4, u5, u6, u7, u8, u9, u10] w) {v0 v1 : Value} {rest : List Value} :
    (results Try.f90 (v0 :: v1 :: .pointer (some ⟨b, 0, none⟩) :: rest).toArray).run Try.prog w = .ok (.agg #[u0, u1, u2, u3, u4, u5, u6, u7, u8, u9, u10]) w := by
  have c0 := X.cell 0 _ rfl
  have c1 := X.cell 1 _ rfl
  have c2 := X.cell 2 _ rfl
  have c3 := X.cell 3 _ rfl
  have c4 := X.cell 4 _ rfl
  have c5 := X.cell 5 _ rfl
  have c6 := X.cell 6 _ rfl
  have c7 := X.cell 7 _ rfl
  have c8 := X.cell 8 _ rfl
  have c9 := X.cell 9 _ rfl
  have c10 := X.cell 10 _ rfl
  simp [results, Try.results90, go_sem, c0, c1, c2, c3, c4, c5, c6, c7, c8, c9, c10]

theorem implUsed1 (d : Deed) (s : Sl) (w : World) (hk : d.kind = 1) :
    Calls Try.prog 90 #[deedW d s] w fun e w' => e = .returned (deedW (usedD d) (if d.kind = 1 then s else ⟨none, 0, 0⟩)) ∧ Below w.heap.size w w' := by
  obtain ⟨A, n, c⟩ := s
  obtain ⟨kd, rn, p, tk, ty, wk, dr⟩ := d
  obtain rfl : kd = 1 := hk
  show Calls Try.prog 90 #[deedW ⟨1, rn, p, tk, ty, wk, dr⟩ ⟨A, n, c⟩] w fun e w' => e = .returned (deedW (usedD ⟨1, rn, p, tk, ty, wk, dr⟩) (if (1 : Int) = 1 then (⟨A, n, c⟩ : Sl) else ⟨none, 0, 0⟩)) ∧ Below w.heap.size w w'
  rw [show deedW (usedD ⟨1, rn, p, tk, ty, wk, dr⟩) (if (1 : Int) = 1 then (⟨A, n, c⟩ : Sl) else ⟨none, 0, 0⟩) = deedW ⟨1, rn, p, 0, 0, 0, 0⟩ ⟨A, n, c⟩ from rfl]
  have X := ((DBox.new 74 [.int .i64 1, .int .i64 rn, .int .i64 p.prio, .int .i64 p.most, .int .i64 p.wait, .int .i64 p.tasks, .slice A n c, .int .i64 tk, .int .i64 ty, .int .i64 wk, .int .i64 dr] w (b := w.heap.size) rfl).below ((Below.refl _ _).alloc (Nat.le_refl _) (.cells #[.int .i64 0, .int .i64 0, .int .i64 0, .int .i64 0, .int .i64 0, .int .i64 0, .slice none 0 0, .int .i64 0, .int .i64 0, .int .i64 0, .int .i64 0] 74))).below ((Below.refl _ _).alloc (Nat.le_refl _) (.cells #[.int .i64 1, .int .i64 0, .int .i64 0, .int .i64 0, .int .i64 0, .int .i64 0, .slice none 0 0, .int .i64 0, .int .i64 0, .int .i64 0, .int .i64 0] 74))
  have R := (DBox.new 74 [.int .i64 0, .int .i64 0, .int .i64 0, .int .i64 0, .int .i64 0, .int .i64 0, .slice none 0 0, .int .i64 0, .int .i64 0, .int .i64 0, .int .i64 0] (w.alloc (.cells #[.int .i64 1, .int .i64 rn, .int .i64 p.prio, .int .i64 p.most, .int .i64 p.wait, .int .i64 p.tasks, .slice A n c, .int .i64 tk, .int .i64 ty, .int .i64 wk, .int .i64 dr] 74)) (b := w.heap.size + 1) (by simp)).below ((Below.refl _ _).alloc (Nat.le_refl _) (.cells #[.int .i64 1, .int .i64 0, .int .i64 0, .int .i64 0, .int .i64 0, .int .i64 0, .slice none 0 0, .int .i64 0, .int .i64 0, .int .i64 0, .int .i64 0] 74))
  have Y := DBox.new 74 [.int .i64 1, .int .i64 0, .int .i64 0, .int .i64 0, .int .i64 0, .int .i64 0, .slice none 0 0, .int .i64 0, .int .i64 0, .int .i64 0, .int .i64 0] ((w.alloc (.cells #[.int .i64 1, .int .i64 rn, .int .i64 p.prio, .int .i64 p.most, .int .i64 p.wait, .int .i64 p.tasks, .slice A n c, .int .i64 tk, .int .i64 ty, .int .i64 wk, .int .i64 dr] 74)).alloc (.cells #[.int .i64 0, .int .i64 0, .int .i64 0, .int .i64 0, .int .i64 0, .int .i64 0, .slice none 0 0, .int .i64 0, .int .i64 0, .int .i64 0, .int .i64 0] 74)) (b := w.heap.size + 1 + 1) (by simp)
  have B0 : Below w.heap.size w (((w.alloc (.cells #[.int .i64 1, .int .i64 rn, .int .i64 p.prio, .int .i64 p.most, .int .i64 p.wait, .int .i64 p.tasks, .slice A n c, .int .i64 tk, .int .i64 ty, .int .i64 wk, .int .i64 dr] 74)).alloc (.cells #[.int .i64 0, .int .i64 0, .int .i64 0, .int .i64 0, .int .i64 0, .int .i64 0, .slice none 0 0, .int .i64 0, .int .i64 0, .int .i64 0, .int .i64 0] 74)).alloc (.cells #[.int .i64 1, .int .i64 0, .int .i64 0, .int .i64 0, .int .i64 0, .int .i64 0, .slice none 0 0, .int .i64 0, .int .i64 0, .int .i64 0, .int .i64 0] 74)) := by repeat (first | exact Below.refl _ _ | refine Below.alloc ?_ (by simp <;> omega) _)
  go_enter Try.func90, Try.ntmps90
  go_wp2
  generalize (((w.alloc (.cells #[.int .i64 1, .int .i64 rn, .int .i64 p.prio, .int .i64 p.most, .int .i64 p.wait, .int .i64 p.tasks, .slice A n c, .int .i64 tk, .int .i64 ty, .int .i64 wk, .int .i64 dr] 74)).alloc (.cells #[.int .i64 0, .int .i64 0, .int .i64 0, .int .i64 0, .int .i64 0, .int .i64 0, .slice none 0 0, .int .i64 0, .int .i64 0, .int .i64 0, .int .i64 0] 74)).alloc (.cells #[.int .i64 1, .int .i64 0, .int .i64 0, .int .i64 0, .int .i64 0, .int .i64 0, .slice none 0 0, .int .i64 0, .int .i64 0, .int .i64 0, .int .i64 0] 74)) = W at *
  have X_0 := X.cell 0 _ rfl
  have X_1 := X.cell 1 _ rfl
  have X_2 := X.cell 2 _ rfl
  have X_3 := X.cell 3 _ rfl
  have X_4 := X.cell 4 _ rfl
  have X_5 := X.cell 5 _ rfl
  have X_6 := X.cell 6 _ rfl
  have X_7 := X.cell 7 _ rfl
  have X_8 := X.cell 8 _ rfl
  have X_9 := X.cell 9 _ rfl
  have X_10 := X.cell 10 _ rfl
  have X_l := X.lt
  have Y_0 := Y.cell 0 _ rfl
  have Y_1 := Y.cell 1 _ rfl
  have Y_2 := Y.cell 2 _ rfl
  have Y_3 := Y.cell 3 _ rfl
  have Y_4 := Y.cell 4 _ rfl
  have Y_5 := Y.cell 5 _ rfl
  have Y_6 := Y.cell 6 _ rfl
  have Y_7 := Y.cell 7 _ rfl
  have Y_8 := Y.cell 8 _ rfl
  have Y_9 := Y.cell 9 _ rfl
  have Y_10 := Y.cell 10 _ rfl
  have Y_l := Y.lt
  have R_0 := R.cell 0 _ rfl
  have R_1 := R.cell 1 _ rfl
  have R_2 := R.cell 2 _ rfl
  have R_3 := R.cell 3 _ rfl
  have R_4 := R.cell 4 _ rfl
  have R_5 := R.cell 5 _ rfl
  have R_6 := R.cell 6 _ rfl
  have R_7 := R.cell 7 _ rfl
  have R_8 := R.cell 8 _ rfl
  have R_9 := R.cell 9 _ rfl
  have R_10 := R.cell 10 _ rfl
  have R_l := R.lt
  have yf := Y.free
  have rf := R.free
  go_region
  have Y3 : DBox (w.heap.size + 1 + 1) [.int .i64 1, .int .i64 rn, .int .i64 p.prio, .int .i64 p.most, .int .i64 p.wait, .int .i64 p.tasks, .slice A n c, .int .i64 0, .int .i64 0, .int .i64 0, .int .i64 0] ((((((W.setCell ⟨w.heap.size + 1 + 1, 1, none⟩ (.int .i64 rn)).setCell ⟨w.heap.size + 1 + 1, 2, none⟩ (.int .i64 p.prio)).setCell ⟨w.heap.size + 1 + 1, 3, none⟩ (.int .i64 p.most)).setCell ⟨w.heap.size + 1 + 1, 4, none⟩ (.int .i64 p.wait)).setCell ⟨w.heap.size + 1 + 1, 5, none⟩ (.int .i64 p.tasks)).setCell ⟨w.heap.size + 1 + 1, 6, none⟩ (.slice A n c)).drew := DBox.drew ((((((Y.set 1 (by simp) (.int .i64 rn)).set 2 (by simp) (.int .i64 p.prio)).set 3 (by simp) (.int .i64 p.most)).set 4 (by simp) (.int .i64 p.wait)).set 5 (by simp) (.int .i64 p.tasks)).set 6 (by simp) (.slice A n c))
  have R3 : DBox (w.heap.size + 1) [.int .i64 0, .int .i64 0, .int .i64 0, .int .i64 0, .int .i64 0, .int .i64 0, .slice none 0 0, .int .i64 0, .int .i64 0, .int .i64 0, .int .i64 0] ((((((W.setCell ⟨w.heap.size + 1 + 1, 1, none⟩ (.int .i64 rn)).setCell ⟨w.heap.size + 1 + 1, 2, none⟩ (.int .i64 p.prio)).setCell ⟨w.heap.size + 1 + 1, 3, none⟩ (.int .i64 p.most)).setCell ⟨w.heap.size + 1 + 1, 4, none⟩ (.int .i64 p.wait)).setCell ⟨w.heap.size + 1 + 1, 5, none⟩ (.int .i64 p.tasks)).setCell ⟨w.heap.size + 1 + 1, 6, none⟩ (.slice A n c)).drew := DBox.drew ((((((R.setOther (a := ⟨w.heap.size + 1 + 1, 1, none⟩) (by simp) (.int .i64 rn)).setOther (a := ⟨w.heap.size + 1 + 1, 2, none⟩) (by simp) (.int .i64 p.prio)).setOther (a := ⟨w.heap.size + 1 + 1, 3, none⟩) (by simp) (.int .i64 p.most)).setOther (a := ⟨w.heap.size + 1 + 1, 4, none⟩) (by simp) (.int .i64 p.wait)).setOther (a := ⟨w.heap.size + 1 + 1, 5, none⟩) (by simp) (.int .i64 p.tasks)).setOther (a := ⟨w.heap.size + 1 + 1, 6, none⟩) (by simp) (.slice A n c))
  have B3 : Below w.heap.size w ((((((W.setCell ⟨w.heap.size + 1 + 1, 1, none⟩ (.int .i64 rn)).setCell ⟨w.heap.size + 1 + 1, 2, none⟩ (.int .i64 p.prio)).setCell ⟨w.heap.size + 1 + 1, 3, none⟩ (.int .i64 p.most)).setCell ⟨w.heap.size + 1 + 1, 4, none⟩ (.int .i64 p.wait)).setCell ⟨w.heap.size + 1 + 1, 5, none⟩ (.int .i64 p.tasks)).setCell ⟨w.heap.size + 1 + 1, 6, none⟩ (.slice A n c)).drew := Below.drew (Below.setCell (Below.setCell (Below.setCell (Below.setCell (Below.setCell (Below.setCell B0 (by simp <;> omega) (.int .i64 rn)) (by simp <;> omega) (.int .i64 p.prio)) (by simp <;> omega) (.int .i64 p.most)) (by simp <;> omega) (.int .i64 p.wait)) (by simp <;> omega) (.int .i64 p.tasks)) (by simp <;> omega) (.slice A n c))
  clear X_0 X_1 X_2 X_3 X_4 X_5 X_6 X_7 X_8 X_9 X_10 X_l
  clear Y_0 Y_1 Y_2 Y_3 Y_4 Y_5 Y_6 Y_7 Y_8 Y_9 Y_10 Y_l
  clear R_0 R_1 R_2 R_3 R_4 R_5 R_6 R_7 R_8 R_9 R_10 R_l
  clear X Y R yf rf B0
  generalize ((((((W.setCell ⟨w.heap.size + 1 + 1, 1, none⟩ (.int .i64 rn)).setCell ⟨w.heap.size + 1 + 1, 2, none⟩ (.int .i64 p.prio)).setCell ⟨w.heap.size + 1 + 1, 3, none⟩ (.int .i64 p.most)).setCell ⟨w.heap.size + 1 + 1, 4, none⟩ (.int .i64 p.wait)).setCell ⟨w.heap.size + 1 + 1, 5, none⟩ (.int .i64 p.tasks)).setCell ⟨w.heap.size + 1 + 1, 6, none⟩ (.slice A n c)).drew = W3 at *
  have Y := Y3
  have R := R3
  have B0 := B3
  clear Y3 R3 B3
  have Y_0 := Y.cell 0 _ rfl
  have Y_1 := Y.cell 1 _ rfl
  have Y_2 := Y.cell 2 _ rfl
  have Y_3 := Y.cell 3 _ rfl
  have Y_4 := Y.cell 4 _ rfl
  have Y_5 := Y.cell 5 _ rfl
  have Y_6 := Y.cell 6 _ rfl
  have Y_7 := Y.cell 7 _ rfl
  have Y_8 := Y.cell 8 _ rfl
  have Y_9 := Y.cell 9 _ rfl
  have Y_10 := Y.cell 10 _ rfl
  have Y_l := Y.lt
  have R_0 := R.cell 0 _ rfl
  have R_1 := R.cell 1 _ rfl
  have R_2 := R.cell 2 _ rfl
  have R_3 := R.cell 3 _ rfl
  have R_4 := R.cell 4 _ rfl
  have R_5 := R.cell 5 _ rfl
  have R_6 := R.cell 6 _ rfl
  have R_7 := R.cell 7 _ rfl
  have R_8 := R.cell 8 _ rfl
  have R_9 := R.cell 9 _ rfl
  have R_10 := R.cell 10 _ rfl
  have R_l := R.lt
  have yf := Y.free
  have rf := R.free
  all_goals go_wp2
  all_goals refine bodyPost_ret (v := deedW ⟨1, rn, p, 0, 0, 0, 0⟩ ⟨A, n, c⟩) (used_res (DBox.row11 (cs := [.int .i64 0, .int .i64 0, .int .i64 0, .int .i64 0, .int .i64 0, .int .i64 0, .slice none 0 0, .int .i64 0, .int .i64 0, .int .i64 0, .int .i64 0]) ?_ rfl _ _ _ _ _ _ _ _ _ _ _)) rfl ⟨rfl, ?_⟩
  all_goals repeat (first | (with_reducible exact B0) | (with_reducible exact R) | refine Below.setCell ?_ (by simp <;> omega) _ | refine DBox.setOther ?_ (by simp <;> omega) _)

theorem implUsed2 (d : Deed) (s : Sl) (w : World) (hk : d.kind = 2) :
    Calls Try.prog 90 #[deedW d s] w fun e w' => e = .returned (deedW (usedD d) (if d.kind = 1 then s else ⟨none, 0, 0⟩)) ∧ Below w.heap.size w w' := by
  obtain ⟨A, n, c⟩ := s
  obtain ⟨kd, rn, p, tk, ty, wk, dr⟩ := d
  obtain rfl : kd = 2 := hk
  show Calls Try.prog 90 #[deedW ⟨2, rn, p, tk, ty, wk, dr⟩ ⟨A, n, c⟩] w fun e w' => e = .returned (deedW (usedD ⟨2, rn, p, tk, ty, wk, dr⟩) (if (2 : Int) = 1 then (⟨A, n, c⟩ : Sl) else ⟨none, 0, 0⟩)) ∧ Below w.heap.size w w'
  rw [show deedW (usedD ⟨2, rn, p, tk, ty, wk, dr⟩) (if (2 : Int) = 1 then (⟨A, n, c⟩ : Sl) else ⟨none, 0, 0⟩) = deedW ⟨2, 0, planZ, 0, 0, wk, dr⟩ ⟨none, 0, 0⟩ from rfl]
  have X := ((DBox.new 74 [.int .i64 2, .int .i64 rn, .int .i64 p.prio, .int .i64 p.most, .int .i64 p.wait, .int .i64 p.tasks, .slice A n c, .int .i64 tk, .int .i64 ty, .int .i64 wk, .int .i64 dr] w (b := w.heap.size) rfl).below ((Below.refl _ _).alloc (Nat.le_refl _) (.cells #[.int .i64 0, .int .i64 0, .int .i64 0, .int .i64 0, .int .i64 0, .int .i64 0, .slice none 0 0, .int .i64 0, .int .i64 0, .int .i64 0, .int .i64 0] 74))).below ((Below.refl _ _).alloc (Nat.le_refl _) (.cells #[.int .i64 2, .int .i64 0, .int .i64 0, .int .i64 0, .int .i64 0, .int .i64 0, .slice none 0 0, .int .i64 0, .int .i64 0, .int .i64 0, .int .i64 0] 74))
  have R := (DBox.new 74 [.int .i64 0, .int .i64 0, .int .i64 0, .int .i64 0, .int .i64 0, .int .i64 0, .slice none 0 0, .int .i64 0, .int .i64 0, .int .i64 0, .int .i64 0] (w.alloc (.cells #[.int .i64 2, .int .i64 rn, .int .i64 p.prio, .int .i64 p.most, .int .i64 p.wait, .int .i64 p.tasks, .slice A n c, .int .i64 tk, .int .i64 ty, .int .i64 wk, .int .i64 dr] 74)) (b := w.heap.size + 1) (by simp)).below ((Below.refl _ _).alloc (Nat.le_refl _) (.cells #[.int .i64 2, .int .i64 0, .int .i64 0, .int .i64 0, .int .i64 0, .int .i64 0, .slice none 0 0, .int .i64 0, .int .i64 0, .int .i64 0, .int .i64 0] 74))
  have Y := DBox.new 74 [.int .i64 2, .int .i64 0, .int .i64 0, .int .i64 0, .int .i64 0, .int .i64 0, .slice none 0 0, .int .i64 0, .int .i64 0, .int .i64 0, .int .i64 0] ((w.alloc (.cells #[.int .i64 2, .int .i64 rn, .int .i64 p.prio, .int .i64 p.most, .int .i64 p.wait, .int .i64 p.tasks, .slice A n c, .int .i64 tk, .int .i64 ty, .int .i64 wk, .int .i64 dr] 74)).alloc (.cells #[.int .i64 0, .int .i64 0, .int .i64 0, .int .i64 0, .int .i64 0, .int .i64 0, .slice none 0 0, .int .i64 0, .int .i64 0, .int .i64 0, .int .i64 0] 74)) (b := w.heap.size + 1 + 1) (by simp)
  have B0 : Below w.heap.size w (((w.alloc (.cells #[.int .i64 2, .int .i64 rn, .int .i64 p.prio, .int .i64 p.most, .int .i64 p.wait, .int .i64 p.tasks, .slice A n c, .int .i64 tk, .int .i64 ty, .int .i64 wk, .int .i64 dr] 74)).alloc (.cells #[.int .i64 0, .int .i64 0, .int .i64 0, .int .i64 0, .int .i64 0, .int .i64 0, .slice none 0 0, .int .i64 0, .int .i64 0, .int .i64 0, .int .i64 0] 74)).alloc (.cells #[.int .i64 2, .int .i64 0, .int .i64 0, .int .i64 0, .int .i64 0, .int .i64 0, .slice none 0 0, .int .i64 0, .int .i64 0, .int .i64 0, .int .i64 0] 74)) := by repeat (first | exact Below.refl _ _ | refine Below.alloc ?_ (by simp <;> omega) _)
  go_enter Try.func90, Try.ntmps90
  go_wp2
  generalize (((w.alloc (.cells #[.int .i64 2, .int .i64 rn, .int .i64 p.prio, .int .i64 p.most, .int .i64 p.wait, .int .i64 p.tasks, .slice A n c, .int .i64 tk, .int .i64 ty, .int .i64 wk, .int .i64 dr] 74)).alloc (.cells #[.int .i64 0, .int .i64 0, .int .i64 0, .int .i64 0, .int .i64 0, .int .i64 0, .slice none 0 0, .int .i64 0, .int .i64 0, .int .i64 0, .int .i64 0] 74)).alloc (.cells #[.int .i64 2, .int .i64 0, .int .i64 0, .int .i64 0, .int .i64 0, .int .i64 0, .slice none 0 0, .int .i64 0, .int .i64 0, .int .i64 0, .int .i64 0] 74)) = W at *
  have X_0 := X.cell 0 _ rfl
  have X_1 := X.cell 1 _ rfl
  have X_2 := X.cell 2 _ rfl
  have X_3 := X.cell 3 _ rfl
  have X_4 := X.cell 4 _ rfl
  have X_5 := X.cell 5 _ rfl
  have X_6 := X.cell 6 _ rfl
  have X_7 := X.cell 7 _ rfl
  have X_8 := X.cell 8 _ rfl
  have X_9 := X.cell 9 _ rfl
  have X_10 := X.cell 10 _ rfl
  have X_l := X.lt
  have Y_0 := Y.cell 0 _ rfl
  have Y_1 := Y.cell 1 _ rfl
  have Y_2 := Y.cell 2 _ rfl
  have Y_3 := Y.cell 3 _ rfl
  have Y_4 := Y.cell 4 _ rfl
  have Y_5 := Y.cell 5 _ rfl
  have Y_6 := Y.cell 6 _ rfl
  have Y_7 := Y.cell 7 _ rfl
  have Y_8 := Y.cell 8 _ rfl
  have Y_9 := Y.cell 9 _ rfl
  have Y_10 := Y.cell 10 _ rfl
  have Y_l := Y.lt
  have R_0 := R.cell 0 _ rfl
  have R_1 := R.cell 1 _ rfl
  have R_2 := R.cell 2 _ rfl
  have R_3 := R.cell 3 _ rfl
  have R_4 := R.cell 4 _ rfl
  have R_5 := R.cell 5 _ rfl
  have R_6 := R.cell 6 _ rfl
  have R_7 := R.cell 7 _ rfl
  have R_8 := R.cell 8 _ rfl
  have R_9 := R.cell 9 _ rfl
  have R_10 := R.cell 10 _ rfl
  have R_l := R.lt
  have yf := Y.free
  have rf := R.free
  go_region
  have Y3 : DBox (w.heap.size + 1 + 1) [.int .i64 2, .int .i64 0, .int .i64 0, .int .i64 0, .int .i64 0, .int .i64 0, .slice none 0 0, .int .i64 0, .int .i64 0, .int .i64 wk, .int .i64 dr] ((W.setCell ⟨w.heap.size + 1 + 1, 9, none⟩ (.int .i64 wk)).setCell ⟨w.heap.size + 1 + 1, 10, none⟩ (.int .i64 dr)).drew := DBox.drew ((Y.set 9 (by simp) (.int .i64 wk)).set 10 (by simp) (.int .i64 dr))
  have R3 : DBox (w.heap.size + 1) [.int .i64 0, .int .i64 0, .int .i64 0, .int .i64 0, .int .i64 0, .int .i64 0, .slice none 0 0, .int .i64 0, .int .i64 0, .int .i64 0, .int .i64 0] ((W.setCell ⟨w.heap.size + 1 + 1, 9, none⟩ (.int .i64 wk)).setCell ⟨w.heap.size + 1 + 1, 10, none⟩ (.int .i64 dr)).drew := DBox.drew ((R.setOther (a := ⟨w.heap.size + 1 + 1, 9, none⟩) (by simp) (.int .i64 wk)).setOther (a := ⟨w.heap.size + 1 + 1, 10, none⟩) (by simp) (.int .i64 dr))
  have B3 : Below w.heap.size w ((W.setCell ⟨w.heap.size + 1 + 1, 9, none⟩ (.int .i64 wk)).setCell ⟨w.heap.size + 1 + 1, 10, none⟩ (.int .i64 dr)).drew := Below.drew (Below.setCell (Below.setCell B0 (by simp <;> omega) (.int .i64 wk)) (by simp <;> omega) (.int .i64 dr))
  clear X_0 X_1 X_2 X_3 X_4 X_5 X_6 X_7 X_8 X_9 X_10 X_l
  clear Y_0 Y_1 Y_2 Y_3 Y_4 Y_5 Y_6 Y_7 Y_8 Y_9 Y_10 Y_l
  clear R_0 R_1 R_2 R_3 R_4 R_5 R_6 R_7 R_8 R_9 R_10 R_l
  clear X Y R yf rf B0
  generalize ((W.setCell ⟨w.heap.size + 1 + 1, 9, none⟩ (.int .i64 wk)).setCell ⟨w.heap.size + 1 + 1, 10, none⟩ (.int .i64 dr)).drew = W3 at *
  have Y := Y3
  have R := R3
  have B0 := B3
  clear Y3 R3 B3
  have Y_0 := Y.cell 0 _ rfl
  have Y_1 := Y.cell 1 _ rfl
  have Y_2 := Y.cell 2 _ rfl
  have Y_3 := Y.cell 3 _ rfl
  have Y_4 := Y.cell 4 _ rfl
  have Y_5 := Y.cell 5 _ rfl
  have Y_6 := Y.cell 6 _ rfl
  have Y_7 := Y.cell 7 _ rfl
  have Y_8 := Y.cell 8 _ rfl
  have Y_9 := Y.cell 9 _ rfl
  have Y_10 := Y.cell 10 _ rfl
  have Y_l := Y.lt
  have R_0 := R.cell 0 _ rfl
  have R_1 := R.cell 1 _ rfl
  have R_2 := R.cell 2 _ rfl
  have R_3 := R.cell 3 _ rfl
  have R_4 := R.cell 4 _ rfl
  have R_5 := R.cell 5 _ rfl
  have R_6 := R.cell 6 _ rfl
  have R_7 := R.cell 7 _ rfl
  have R_8 := R.cell 8 _ rfl
  have R_9 := R.cell 9 _ rfl
  have R_10 := R.cell 10 _ rfl
  have R_l := R.lt
  have yf := Y.free
  have rf := R.free
  all_goals go_wp2
  all_goals refine bodyPost_ret (v := deedW ⟨2, 0, planZ, 0, 0, wk, dr⟩ ⟨none, 0, 0⟩) (used_res (DBox.row11 (cs := [.int .i64 0, .int .i64 0, .int .i64 0, .int .i64 0, .int .i64 0, .int .i64 0, .slice none 0 0, .int .i64 0, .int .i64 0, .int .i64 0, .int .i64 0]) ?_ rfl _ _ _ _ _ _ _ _ _ _ _)) rfl ⟨rfl, ?_⟩
  all_goals repeat (first | (with_reducible exact B0) | (with_reducible exact R) | refine Below.setCell ?_ (by simp <;> omega) _ | refine DBox.setOther ?_ (by simp <;> omega) _)

theorem implUsed3 (d : Deed) (s : Sl) (w : World) (hk : d.kind = 3) :
    Calls Try.prog 90 #[deedW d s] w fun e w' => e = .returned (deedW (usedD d) (if d.kind = 1 then s else ⟨none, 0, 0⟩)) ∧ Below w.heap.size w w' := by
  obtain ⟨A, n, c⟩ := s
  obtain ⟨kd, rn, p, tk, ty, wk, dr⟩ := d
  obtain rfl : kd = 3 := hk
  show Calls Try.prog 90 #[deedW ⟨3, rn, p, tk, ty, wk, dr⟩ ⟨A, n, c⟩] w fun e w' => e = .returned (deedW (usedD ⟨3, rn, p, tk, ty, wk, dr⟩) (if (3 : Int) = 1 then (⟨A, n, c⟩ : Sl) else ⟨none, 0, 0⟩)) ∧ Below w.heap.size w w'
  rw [show deedW (usedD ⟨3, rn, p, tk, ty, wk, dr⟩) (if (3 : Int) = 1 then (⟨A, n, c⟩ : Sl) else ⟨none, 0, 0⟩) = deedW ⟨3, rn, planZ, tk, ty, 0, 0⟩ ⟨none, 0, 0⟩ from rfl]
  have X := ((DBox.new 74 [.int .i64 3, .int .i64 rn, .int .i64 p.prio, .int .i64 p.most, .int .i64 p.wait, .int .i64 p.tasks, .slice A n c, .int .i64 tk, .int .i64 ty, .int .i64 wk, .int .i64 dr] w (b := w.heap.size) rfl).below ((Below.refl _ _).alloc (Nat.le_refl _) (.cells #[.int .i64 0, .int .i64 0, .int .i64 0, .int .i64 0, .int .i64 0, .int .i64 0, .slice none 0 0, .int .i64 0, .int .i64 0, .int .i64 0, .int .i64 0] 74))).below ((Below.refl _ _).alloc (Nat.le_refl _) (.cells #[.int .i64 3, .int .i64 0, .int .i64 0, .int .i64 0, .int .i64 0, .int .i64 0, .slice none 0 0, .int .i64 0, .int .i64 0, .int .i64 0, .int .i64 0] 74))
  have R := (DBox.new 74 [.int .i64 0, .int .i64 0, .int .i64 0, .int .i64 0, .int .i64 0, .int .i64 0, .slice none 0 0, .int .i64 0, .int .i64 0, .int .i64 0, .int .i64 0] (w.alloc (.cells #[.int .i64 3, .int .i64 rn, .int .i64 p.prio, .int .i64 p.most, .int .i64 p.wait, .int .i64 p.tasks, .slice A n c, .int .i64 tk, .int .i64 ty, .int .i64 wk, .int .i64 dr] 74)) (b := w.heap.size + 1) (by simp)).below ((Below.refl _ _).alloc (Nat.le_refl _) (.cells #[.int .i64 3, .int .i64 0, .int .i64 0, .int .i64 0, .int .i64 0, .int .i64 0, .slice none 0 0, .int .i64 0, .int .i64 0, .int .i64 0, .int .i64 0] 74))
  have Y := DBox.new 74 [.int .i64 3, .int .i64 0, .int .i64 0, .int .i64 0, .int .i64 0, .int .i64 0, .slice none 0 0, .int .i64 0, .int .i64 0, .int .i64 0, .int .i64 0] ((w.alloc (.cells #[.int .i64 3, .int .i64 rn, .int .i64 p.prio, .int .i64 p.most, .int .i64 p.wait, .int .i64 p.tasks, .slice A n c, .int .i64 tk, .int .i64 ty, .int .i64 wk, .int .i64 dr] 74)).alloc (.cells #[.int .i64 0, .int .i64 0, .int .i64 0, .int .i64 0, .int .i64 0, .int .i64 0, .slice none 0 0, .int .i64 0, .int .i64 0, .int .i64 0, .int .i64 0] 74)) (b := w.heap.size + 1 + 1) (by simp)
  have B0 : Below w.heap.size w (((w.alloc (.cells #[.int .i64 3, .int .i64 rn, .int .i64 p.prio, .int .i64 p.most, .int .i64 p.wait, .int .i64 p.tasks, .slice A n c, .int .i64 tk, .int .i64 ty, .int .i64 wk, .int .i64 dr] 74)).alloc (.cells #[.int .i64 0, .int .i64 0, .int .i64 0, .int .i64 0, .int .i64 0, .int .i64 0, .slice none 0 0, .int .i64 0, .int .i64 0, .int .i64 0, .int .i64 0] 74)).alloc (.cells #[.int .i64 3, .int .i64 0, .int .i64 0, .int .i64 0, .int .i64 0, .int .i64 0, .slice none 0 0, .int .i64 0, .int .i64 0, .int .i64 0, .int .i64 0] 74)) := by repeat (first | exact Below.refl _ _ | refine Below.alloc ?_ (by simp <;> omega) _)
  go_enter Try.func90, Try.ntmps90
  go_wp2
  generalize (((w.alloc (.cells #[.int .i64 3, .int .i64 rn, .int .i64 p.prio, .int .i64 p.most, .int .i64 p.wait, .int .i64 p.tasks, .slice A n c, .int .i64 tk, .int .i64 ty, .int .i64 wk, .int .i64 dr] 74)).alloc (.cells #[.int .i64 0, .int .i64 0, .int .i64 0, .int .i64 0, .int .i64 0, .int .i64 0, .slice none 0 0, .int .i64 0, .int .i64 0, .int .i64 0, .int .i64 0] 74)).alloc (.cells #[.int .i64 3, .int .i64 0, .int .i64 0, .int .i64 0, .int .i64 0, .int .i64 0, .slice none 0 0, .int .i64 0, .int .i64 0, .int .i64 0, .int .i64 0] 74)) = W at *
  have X_0 := X.cell 0 _ rfl
  have X_1 := X.cell 1 _ rfl
  have X_2 := X.cell 2 _ rfl
  have X_3 := X.cell 3 _ rfl
  have X_4 := X.cell 4 _ rfl
  have X_5 := X.cell 5 _ rfl
  have X_6 := X.cell 6 _ rfl
  have X_7 := X.cell 7 _ rfl
  have X_8 := X.cell 8 _ rfl
  have X_9 := X.cell 9 _ rfl
  have X_10 := X.cell 10 _ rfl
  have X_l := X.lt
  have Y_0 := Y.cell 0 _ rfl
  have Y_1 := Y.cell 1 _ rfl
  have Y_2 := Y.cell 2 _ rfl
  have Y_3 := Y.cell 3 _ rfl
  have Y_4 := Y.cell 4 _ rfl
  have Y_5 := Y.cell 5 _ rfl
  have Y_6 := Y.cell 6 _ rfl
  have Y_7 := Y.cell 7 _ rfl
  have Y_8 := Y.cell 8 _ rfl
  have Y_9 := Y.cell 9 _ rfl
  have Y_10 := Y.cell 10 _ rfl
  have Y_l := Y.lt
  have R_0 := R.cell 0 _ rfl
  have R_1 := R.cell 1 _ rfl
  have R_2 := R.cell 2 _ rfl
  have R_3 := R.cell 3 _ rfl
  have R_4 := R.cell 4 _ rfl
  have R_5 := R.cell 5 _ rfl
  have R_6 := R.cell 6 _ rfl
  have R_7 := R.cell 7 _ rfl
  have R_8 := R.cell 8 _ rfl
  have R_9 := R.cell 9 _ rfl
  have R_10 := R.cell 10 _ rfl
  have R_l := R.lt
  have yf := Y.free
  have rf := R.free
  go_region
  have Y3 : DBox (w.heap.size + 1 + 1) [.int .i64 3, .int .i64 rn, .int .i64 0, .int .i64 0, .int .i64 0, .int .i64 0, .slice none 0 0, .int .i64 tk, .int .i64 ty, .int .i64 0, .int .i64 0] (((W.setCell ⟨w.heap.size + 1 + 1, 1, none⟩ (.int .i64 rn)).setCell ⟨w.heap.size + 1 + 1, 7, none⟩ (.int .i64 tk)).setCell ⟨w.heap.size + 1 + 1, 8, none⟩ (.int .i64 ty)).drew := DBox.drew (((Y.set 1 (by simp) (.int .i64 rn)).set 7 (by simp) (.int .i64 tk)).set 8 (by simp) (.int .i64 ty))
  have R3 : DBox (w.heap.size + 1) [.int .i64 0, .int .i64 0, .int .i64 0, .int .i64 0, .int .i64 0, .int .i64 0, .slice none 0 0, .int .i64 0, .int .i64 0, .int .i64 0, .int .i64 0] (((W.setCell ⟨w.heap.size + 1 + 1, 1, none⟩ (.int .i64 rn)).setCell ⟨w.heap.size + 1 + 1, 7, none⟩ (.int .i64 tk)).setCell ⟨w.heap.size + 1 + 1, 8, none⟩ (.int .i64 ty)).drew := DBox.drew (((R.setOther (a := ⟨w.heap.size + 1 + 1, 1, none⟩) (by simp) (.int .i64 rn)).setOther (a := ⟨w.heap.size + 1 + 1, 7, none⟩) (by simp) (.int .i64 tk)).setOther (a := ⟨w.heap.size + 1 + 1, 8, none⟩) (by simp) (.int .i64 ty))
  have B3 : Below w.heap.size w (((W.setCell ⟨w.heap.size + 1 + 1, 1, none⟩ (.int .i64 rn)).setCell ⟨w.heap.size + 1 + 1, 7, none⟩ (.int .i64 tk)).setCell ⟨w.heap.size + 1 + 1, 8, none⟩ (.int .i64 ty)).drew := Below.drew (Below.setCell (Below.setCell (Below.setCell B0 (by simp <;> omega) (.int .i64 rn)) (by simp <;> omega) (.int .i64 tk)) (by simp <;> omega) (.int .i64 ty))
  clear X_0 X_1 X_2 X_3 X_4 X_5 X_6 X_7 X_8 X_9 X_10 X_l
  clear Y_0 Y_1 Y_2 Y_3 Y_4 Y_5 Y_6 Y_7 Y_8 Y_9 Y_10 Y_l
  clear R_0 R_1 R_2 R_3 R_4 R_5 R_6 R_7 R_8 R_9 R_10 R_l
  clear X Y R yf rf B0
  generalize (((W.setCell ⟨w.heap.size + 1 + 1, 1, none⟩ (.int .i64 rn)).setCell ⟨w.heap.size + 1 + 1, 7, none⟩ (.int .i64 tk)).setCell ⟨w.heap.size + 1 + 1, 8, none⟩ (.int .i64 ty)).drew = W3 at *
  have Y := Y3
  have R := R3
  have B0 := B3
  clear Y3 R3 B3
  have Y_0 := Y.cell 0 _ rfl
  have Y_1 := Y.cell 1 _ rfl
  have Y_2 := Y.cell 2 _ rfl
  have Y_3 := Y.cell 3 _ rfl
  have Y_4 := Y.cell 4 _ rfl
  have Y_5 := Y.cell 5 _ rfl
  have Y_6 := Y.cell 6 _ rfl
  have Y_7 := Y.cell 7 _ rfl
  have Y_8 := Y.cell 8 _ rfl
  have Y_9 := Y.cell 9 _ rfl
  have Y_10 := Y.cell 10 _ rfl
  have Y_l := Y.lt
  have R_0 := R.cell 0 _ rfl
  have R_1 := R.cell 1 _ rfl
  have R_2 := R.cell 2 _ rfl
  have R_3 := R.cell 3 _ rfl
  have R_4 := R.cell 4 _ rfl
  have R_5 := R.cell 5 _ rfl
  have R_6 := R.cell 6 _ rfl
  have R_7 := R.cell 7 _ rfl
  have R_8 := R.cell 8 _ rfl
  have R_9 := R.cell 9 _ rfl
  have R_10 := R.cell 10 _ rfl
  have R_l := R.lt
  have yf := Y.free
  have rf := R.free
  all_goals go_wp2
  all_goals refine bodyPost_ret (v := deedW ⟨3, rn, planZ, tk, ty, 0, 0⟩ ⟨none, 0, 0⟩) (used_res (DBox.row11 (cs := [.int .i64 0, .int .i64 0, .int .i64 0, .int .i64 0, .int .i64 0, .int .i64 0, .slice none 0 0, .int .i64 0, .int .i64 0, .int .i64 0, .int .i64 0]) ?_ rfl _ _ _ _ _ _ _ _ _ _ _)) rfl ⟨rfl, ?_⟩
  all_goals repeat (first | (with_reducible exact B0) | (with_reducible exact R) | refine Below.setCell ?_ (by simp <;> omega) _ | refine DBox.setOther ?_ (by simp <;> omega) _)

theorem implUsed4 (d : Deed) (s : Sl) (w : World) (hk : d.kind = 4) :
    Calls Try.prog 90 #[deedW d s] w fun e w' => e = .returned (deedW (usedD d) (if d.kind = 1 then s else ⟨none, 0, 0⟩)) ∧ Below w.heap.size w w' := by
  obtain ⟨A, n, c⟩ := s
  obtain ⟨kd, rn, p, tk, ty, wk, dr⟩ := d
  obtain rfl : kd = 4 := hk
  show Calls Try.prog 90 #[deedW ⟨4, rn, p, tk, ty, wk, dr⟩ ⟨A, n, c⟩] w fun e w' => e = .returned (deedW (usedD ⟨4, rn, p, tk, ty, wk, dr⟩) (if (4 : Int) = 1 then (⟨A, n, c⟩ : Sl) else ⟨none, 0, 0⟩)) ∧ Below w.heap.size w w'
  rw [show deedW (usedD ⟨4, rn, p, tk, ty, wk, dr⟩) (if (4 : Int) = 1 then (⟨A, n, c⟩ : Sl) else ⟨none, 0, 0⟩) = deedW ⟨4, rn, planZ, tk, ty, 0, 0⟩ ⟨none, 0, 0⟩ from rfl]
  have X := ((DBox.new 74 [.int .i64 4, .int .i64 rn, .int .i64 p.prio, .int .i64 p.most, .int .i64 p.wait, .int .i64 p.tasks, .slice A n c, .int .i64 tk, .int .i64 ty, .int .i64 wk, .int .i64 dr] w (b := w.heap.size) rfl).below ((Below.refl _ _).alloc (Nat.le_refl _) (.cells #[.int .i64 0, .int .i64 0, .int .i64 0, .int .i64 0, .int .i64 0, .int .i64 0, .slice none 0 0, .int .i64 0, .int .i64 0, .int .i64 0, .int .i64 0] 74))).below ((Below.refl _ _).alloc (Nat.le_refl _) (.cells #[.int .i64 4, .int .i64 0, .int .i64 0, .int .i64 0, .int .i64 0, .int .i64 0, .slice none 0 0, .int .i64 0, .int .i64 0, .int .i64 0, .int .i64 0] 74))
  have R := (DBox.new 74 [.int .i64 0, .int .i64 0, .int .i64 0, .int .i64 0, .int .i64 0, .int .i64 0, .slice none 0 0, .int .i64 0, .int .i64 0, .int .i64 0, .int .i64 0] (w.alloc (.cells #[.int .i64 4, .int .i64 rn, .int .i64 p.prio, .int .i64 p.most, .int .i64 p.wait, .int .i64 p.tasks, .slice A n c, .int .i64 tk, .int .i64 ty, .int .i64 wk, .int .i64 dr] 74)) (b := w.heap.size + 1) (by simp)).below ((Below.refl _ _).alloc (Nat.le_refl _) (.cells #[.int .i64 4, .int .i64 0, .int .i64 0, .int .i64 0, .int .i64 0, .int .i64 0, .slice none 0 0, .int .i64 0, .int .i64 0, .int .i64 0, .int .i64 0] 74))
  have Y := DBox.new 74 [.int .i64 4, .int .i64 0, .int .i64 0, .int .i64 0, .int .i64 0, .int .i64 0, .slice none 0 0, .int .i64 0, .int .i64 0, .int .i64 0, .int .i64 0] ((w.alloc (.cells #[.int .i64 4, .int .i64 rn, .int .i64 p.prio, .int .i64 p.most, .int .i64 p.wait, .int .i64 p.tasks, .slice A n c, .int .i64 tk, .int .i64 ty, .int .i64 wk, .int .i64 dr] 74)).alloc (.cells #[.int .i64 0, .int .i64 0, .int .i64 0, .int .i64 0, .int .i64 0, .int .i64 0, .slice none 0 0, .int .i64 0, .int .i64 0, .int .i64 0, .int .i64 0] 74)) (b := w.heap.size + 1 + 1) (by simp)
  have B0 : Below w.heap.size w (((w.alloc (.cells #[.int .i64 4, .int .i64 rn, .int .i64 p.prio, .int .i64 p.most, .int .i64 p.wait, .int .i64 p.tasks, .slice A n c, .int .i64 tk, .int .i64 ty, .int .i64 wk, .int .i64 dr] 74)).alloc (.cells #[.int .i64 0, .int .i64 0, .int .i64 0, .int .i64 0, .int .i64 0, .int .i64 0, .slice none 0 0, .int .i64 0, .int .i64 0, .int .i64 0, .int .i64 0] 74)).alloc (.cells #[.int .i64 4, .int .i64 0, .int .i64 0, .int .i64 0, .int .i64 0, .int .i64 0, .slice none 0 0, .int .i64 0, .int .i64 0, .int .i64 0, .int .i64 0] 74)) := by repeat (first | exact Below.refl _ _ | refine Below.alloc ?_ (by simp <;> omega) _)
  go_enter Try.func90, Try.ntmps90
  go_wp2
  generalize (((w.alloc (.cells #[.int .i64 4, .int .i64 rn, .int .i64 p.prio, .int .i64 p.most, .int .i64 p.wait, .int .i64 p.tasks, .slice A n c, .int .i64 tk, .int .i64 ty, .int .i64 wk, .int .i64 dr] 74)).alloc (.cells #[.int .i64 0, .int .i64 0, .int .i64 0, .int .i64 0, .int .i64 0, .int .i64 0, .slice none 0 0, .int .i64 0, .int .i64 0, .int .i64 0, .int .i64 0] 74)).alloc (.cells #[.int .i64 4, .int .i64 0, .int .i64 0, .int .i64 0, .int .i64 0, .int .i64 0, .slice none 0 0, .int .i64 0, .int .i64 0, .int .i64 0, .int .i64 0] 74)) = W at *
  have X_0 := X.cell 0 _ rfl
  have X_1 := X.cell 1 _ rfl
  have X_2 := X.cell 2 _ rfl
  have X_3 := X.cell 3 _ rfl
  have X_4 := X.cell 4 _ rfl
  have X_5 := X.cell 5 _ rfl
  have X_6 := X.cell 6 _ rfl
  have X_7 := X.cell 7 _ rfl
  have X_8 := X.cell 8 _ rfl
  have X_9 := X.cell 9 _ rfl
  have X_10 := X.cell 10 _ rfl
  have X_l := X.lt
  have Y_0 := Y.cell 0 _ rfl
  have Y_1 := Y.cell 1 _ rfl
  have Y_2 := Y.cell 2 _ rfl
  have Y_3 := Y.cell 3 _ rfl
  have Y_4 := Y.cell 4 _ rfl
  have Y_5 := Y.cell 5 _ rfl
  have Y_6 := Y.cell 6 _ rfl
  have Y_7 := Y.cell 7 _ rfl
  have Y_8 := Y.cell 8 _ rfl
  have Y_9 := Y.cell 9 _ rfl
  have Y_10 := Y.cell 10 _ rfl
  have Y_l := Y.lt
  have R_0 := R.cell 0 _ rfl
  have R_1 := R.cell 1 _ rfl
  have R_2 := R.cell 2 _ rfl
  have R_3 := R.cell 3 _ rfl
  have R_4 := R.cell 4 _ rfl
  have R_5 := R.cell 5 _ rfl
  have R_6 := R.cell 6 _ rfl
  have R_7 := R.cell 7 _ rfl
  have R_8 := R.cell 8 _ rfl
  have R_9 := R.cell 9 _ rfl
  have R_10 := R.cell 10 _ rfl
  have R_l := R.lt
  have yf := Y.free
  have rf := R.free
  go_region
  have Y3 : DBox (w.heap.size + 1 + 1) [.int .i64 4, .int .i64 rn, .int .i64 0, .int .i64 0, .int .i64 0, .int .i64 0, .slice none 0 0, .int .i64 tk, .int .i64 ty, .int .i64 0, .int .i64 0] (((W.setCell ⟨w.heap.size + 1 + 1, 1, none⟩ (.int .i64 rn)).setCell ⟨w.heap.size + 1 + 1, 7, none⟩ (.int .i64 tk)).setCell ⟨w.heap.size + 1 + 1, 8, none⟩ (.int .i64 ty)).drew := DBox.drew (((Y.set 1 (by simp) (.int .i64 rn)).set 7 (by simp) (.int .i64 tk)).set 8 (by simp) (.int .i64 ty))
  have R3 : DBox (w.heap.size + 1) [.int .i64 0, .int .i64 0, .int .i64 0, .int .i64 0, .int .i64 0, .int .i64 0, .slice none 0 0, .int .i64 0, .int .i64 0, .int .i64 0, .int .i64 0] (((W.setCell ⟨w.heap.size + 1 + 1, 1, none⟩ (.int .i64 rn)).setCell ⟨w.heap.size + 1 + 1, 7, none⟩ (.int .i64 tk)).setCell ⟨w.heap.size + 1 + 1, 8, none⟩ (.int .i64 ty)).drew := DBox.drew (((R.setOther (a := ⟨w.heap.size + 1 + 1, 1, none⟩) (by simp) (.int .i64 rn)).setOther (a := ⟨w.heap.size + 1 + 1, 7, none⟩) (by simp) (.int .i64 tk)).setOther (a := ⟨w.heap.size + 1 + 1, 8, none⟩) (by simp) (.int .i64 ty))
  have B3 : Below w.heap.size w (((W.setCell ⟨w.heap.size + 1 + 1, 1, none⟩ (.int .i64 rn)).setCell ⟨w.heap.size + 1 + 1, 7, none⟩ (.int .i64 tk)).setCell ⟨w.heap.size + 1 + 1, 8, none⟩ (.int .i64 ty)).drew := Below.drew (Below.setCell (Below.setCell (Below.setCell B0 (by simp <;> omega) (.int .i64 rn)) (by simp <;> omega) (.int .i64 tk)) (by simp <;> omega) (.int .i64 ty))
  clear X_0 X_1 X_2 X_3 X_4 X_5 X_6 X_7 X_8 X_9 X_10 X_l
  clear Y_0 Y_1 Y_2 Y_3 Y_4 Y_5 Y_6 Y_7 Y_8 Y_9 Y_10 Y_l
  clear R_0 R_1 R_2 R_3 R_4 R_5 R_6 R_7 R_8 R_9 R_10 R_l
  clear X Y R yf rf B0
  generalize (((W.setCell ⟨w.heap.size + 1 + 1, 1, none⟩ (.int .i64 rn)).setCell ⟨w.heap.size + 1 + 1, 7, none⟩ (.int .i64 tk)).setCell ⟨w.heap.size + 1 + 1, 8, none⟩ (.int .i64 ty)).drew = W3 at *
  have Y := Y3
  have R := R3
  have B0 := B3
  clear Y3 R3 B3
  have Y_0 := Y.cell 0 _ rfl
  have Y_1 := Y.cell 1 _ rfl
  have Y_2 := Y.cell 2 _ rfl
  have Y_3 := Y.cell 3 _ rfl
  have Y_4 := Y.cell 4 _ rfl
  have Y_5 := Y.cell 5 _ rfl
  have Y_6 := Y.cell 6 _ rfl
  have Y_7 := Y.cell 7 _ rfl
  have Y_8 := Y.cell 8 _ rfl
  have Y_9 := Y.cell 9 _ rfl
  have Y_10 := Y.cell 10 _ rfl
  have Y_l := Y.lt
  have R_0 := R.cell 0 _ rfl
  have R_1 := R.cell 1 _ rfl
  have R_2 := R.cell 2 _ rfl
  have R_3 := R.cell 3 _ rfl
  have R_4 := R.cell 4 _ rfl
  have R_5 := R.cell 5 _ rfl
  have R_6 := R.cell 6 _ rfl
  have R_7 := R.cell 7 _ rfl
  have R_8 := R.cell 8 _ rfl
  have R_9 := R.cell 9 _ rfl
  have R_10 := R.cell 10 _ rfl
  have R_l := R.lt
  have yf := Y.free
  have rf := R.free
  all_goals go_wp2
  all_goals refine bodyPost_ret (v := deedW ⟨4, rn, planZ, tk, ty, 0, 0⟩ ⟨none, 0, 0⟩) (used_res (DBox.row11 (cs := [.int .i64 0, .int .i64 0, .int .i64 0, .int .i64 0, .int .i64 0, .int .i64 0, .slice none 0 0, .int .i64 0, .int .i64 0, .int .i64 0, .int .i64 0]) ?_ rfl _ _ _ _ _ _ _ _ _ _ _)) rfl ⟨rfl, ?_⟩
  all_goals repeat (first | (with_reducible exact B0) | (with_reducible exact R) | refine Below.setCell ?_ (by simp <;> omega) _ | refine DBox.setOther ?_ (by simp <;> omega) _)

theorem implUsed6 (d : Deed) (s : Sl) (w : World) (hk : d.kind = 6) :
    Calls Try.prog 90 #[deedW d s] w fun e w' => e = .returned (deedW (usedD d) (if d.kind = 1 then s else ⟨none, 0, 0⟩)) ∧ Below w.heap.size w w' := by
  obtain ⟨A, n, c⟩ := s
  obtain ⟨kd, rn, p, tk, ty, wk, dr⟩ := d
  obtain rfl : kd = 6 := hk
  show Calls Try.prog 90 #[deedW ⟨6, rn, p, tk, ty, wk, dr⟩ ⟨A, n, c⟩] w fun e w' => e = .returned (deedW (usedD ⟨6, rn, p, tk, ty, wk, dr⟩) (if (6 : Int) = 1 then (⟨A, n, c⟩ : Sl) else ⟨none, 0, 0⟩)) ∧ Below w.heap.size w w'
  rw [show deedW (usedD ⟨6, rn, p, tk, ty, wk, dr⟩) (if (6 : Int) = 1 then (⟨A, n, c⟩ : Sl) else ⟨none, 0, 0⟩) = deedW ⟨6, rn, planZ, 0, 0, 0, 0⟩ ⟨none, 0, 0⟩ from rfl]
  have X := ((DBox.new 74 [.int .i64 6, .int .i64 rn, .int .i64 p.prio, .int .i64 p.most, .int .i64 p.wait, .int .i64 p.tasks, .slice A n c, .int .i64 tk, .int .i64 ty, .int .i64 wk, .int .i64 dr] w (b := w.heap.size) rfl).below ((Below.refl _ _).alloc (Nat.le_refl _) (.cells #[.int .i64 0, .int .i64 0, .int .i64 0, .int .i64 0, .int .i64 0, .int .i64 0, .slice none 0 0, .int .i64 0, .int .i64 0, .int .i64 0, .int .i64 0] 74))).below ((Below.refl _ _).alloc (Nat.le_refl _) (.cells #[.int .i64 6, .int .i64 0, .int .i64 0, .int .i64 0, .int .i64 0, .int .i64 0, .slice none 0 0, .int .i64 0, .int .i64 0, .int .i64 0, .int .i64 0] 74))
  have R := (DBox.new 74 [.int .i64 0, .int .i64 0, .int .i64 0, .int .i64 0, .int .i64 0, .int .i64 0, .slice none 0 0, .int .i64 0, .int .i64 0, .int .i64 0, .int .i64 0] (w.alloc (.cells #[.int .i64 6, .int .i64 rn, .int .i64 p.prio, .int .i64 p.most, .int .i64 p.wait, .int .i64 p.tasks, .slice A n c, .int .i64 tk, .int .i64 ty, .int .i64 wk, .int .i64 dr] 74)) (b := w.heap.size + 1) (by simp)).below ((Below.refl _ _).alloc (Nat.le_refl _) (.cells #[.int .i64 6, .int .i64 0, .int .i64 0, .int .i64 0, .int .i64 0, .int .i64 0, .slice none 0 0, .int .i64 0, .int .i64 0, .int .i64 0, .int .i64 0] 74))
  have Y := DBox.new 74 [.int .i64 6, .int .i64 0, .int .i64 0, .int .i64 0, .int .i64 0, .int .i64 0, .slice none 0 0, .int .i64 0, .int .i64 0, .int .i64 0, .int .i64 0] ((w.alloc (.cells #[.int .i64 6, .int .i64 rn, .int .i64 p.prio, .int .i64 p.most, .int .i64 p.wait, .int .i64 p.tasks, .slice A n c, .int .i64 tk, .int .i64 ty, .int .i64 wk, .int .i64 dr] 74)).alloc (.cells #[.int .i64 0, .int .i64 0, .int .i64 0, .int .i64 0, .int .i64 0, .int .i64 0, .slice none 0 0, .int .i64 0, .int .i64 0, .int .i64 0, .int .i64 0] 74)) (b := w.heap.size + 1 + 1) (by simp)
  have B0 : Below w.heap.size w (((w.alloc (.cells #[.int .i64 6, .int .i64 rn, .int .i64 p.prio, .int .i64 p.most, .int .i64 p.wait, .int .i64 p.tasks, .slice A n c, .int .i64 tk, .int .i64 ty, .int .i64 wk, .int .i64 dr] 74)).alloc (.cells #[.int .i64 0, .int .i64 0, .int .i64 0, .int .i64 0, .int .i64 0, .int .i64 0, .slice none 0 0, .int .i64 0, .int .i64 0, .int .i64 0, .int .i64 0] 74)).alloc (.cells #[.int .i64 6, .int .i64 0, .int .i64 0, .int .i64 0, .int .i64 0, .int .i64 0, .slice none 0 0, .int .i64 0, .int .i64 0, .int .i64 0, .int .i64 0] 74)) := by repeat (first | exact Below.refl _ _ | refine Below.alloc ?_ (by simp <;> omega) _)
  go_enter Try.func90, Try.ntmps90
  go_upto_region 12 with fail
  generalize (((w.alloc (.cells #[.int .i64 6, .int .i64 rn, .int .i64 p.prio, .int .i64 p.most, .int .i64 p.wait, .int .i64 p.tasks, .slice A n c, .int .i64 tk, .int .i64 ty, .int .i64 wk, .int .i64 dr] 74)).alloc (.cells #[.int .i64 0, .int .i64 0, .int .i64 0, .int .i64 0, .int .i64 0, .int .i64 0, .slice none 0 0, .int .i64 0, .int .i64 0, .int .i64 0, .int .i64 0] 74)).alloc (.cells #[.int .i64 6, .int .i64 0, .int .i64 0, .int .i64 0, .int .i64 0, .int .i64 0, .slice none 0 0, .int .i64 0, .int .i64 0, .int .i64 0, .int .i64 0] 74)) = W at *
  have X_0 := X.cell 0 _ rfl
  have X_1 := X.cell 1 _ rfl
  have X_2 := X.cell 2 _ rfl
  have X_3 := X.cell 3 _ rfl
  have X_4 := X.cell 4 _ rfl
  have X_5 := X.cell 5 _ rfl
  have X_6 := X.cell 6 _ rfl
  have X_7 := X.cell 7 _ rfl
  have X_8 := X.cell 8 _ rfl
  have X_9 := X.cell 9 _ rfl
  have X_10 := X.cell 10 _ rfl
  have X_l := X.lt
  have Y_0 := Y.cell 0 _ rfl
  have Y_1 := Y.cell 1 _ rfl
  have Y_2 := Y.cell 2 _ rfl
  have Y_3 := Y.cell 3 _ rfl
  have Y_4 := Y.cell 4 _ rfl
  have Y_5 := Y.cell 5 _ rfl
  have Y_6 := Y.cell 6 _ rfl
  have Y_7 := Y.cell 7 _ rfl
  have Y_8 := Y.cell 8 _ rfl
  have Y_9 := Y.cell 9 _ rfl
  have Y_10 := Y.cell 10 _ rfl
  have Y_l := Y.lt
  have R_0 := R.cell 0 _ rfl
  have R_1 := R.cell 1 _ rfl
  have R_2 := R.cell 2 _ rfl
  have R_3 := R.cell 3 _ rfl
  have R_4 := R.cell 4 _ rfl
  have R_5 := R.cell 5 _ rfl
  have R_6 := R.cell 6 _ rfl
  have R_7 := R.cell 7 _ rfl
  have R_8 := R.cell 8 _ rfl
  have R_9 := R.cell 9 _ rfl
  have R_10 := R.cell 10 _ rfl
  have R_l := R.lt
  have yf := Y.free
  have rf := R.free
  all_goals go_wp2
  all_goals refine bodyPost_ret (v := deedW ⟨6, rn, planZ, 0, 0, 0, 0⟩ ⟨none, 0, 0⟩) (used_res (DBox.row11 (cs := [.int .i64 0, .int .i64 0, .int .i64 0, .int .i64 0, .int .i64 0, .int .i64 0, .slice none 0 0, .int .i64 0, .int .i64 0, .int .i64 0, .int .i64 0]) ?_ rfl _ _ _ _ _ _ _ _ _ _ _)) rfl ⟨rfl, ?_⟩
  all_goals repeat (first | (with_reducible exact B0) | (with_reducible exact R) | refine Below.setCell ?_ (by simp <;> omega) _ | refine DBox.setOther ?_ (by simp <;> omega) _)

theorem implUsed7 (d : Deed) (s : Sl) (w : World) (hk : d.kind = 7) :
    Calls Try.prog 90 #[deedW d s] w fun e w' => e = .returned (deedW (usedD d) (if d.kind = 1 then s else ⟨none, 0, 0⟩)) ∧ Below w.heap.size w w' := by
  obtain ⟨A, n, c⟩ := s
  obtain ⟨kd, rn, p, tk, ty, wk, dr⟩ := d
  obtain rfl : kd = 7 := hk
  show Calls Try.prog 90 #[deedW ⟨7, rn, p, tk, ty, wk, dr⟩ ⟨A, n, c⟩] w fun e w' => e = .returned (deedW (usedD ⟨7, rn, p, tk, ty, wk, dr⟩) (if (7 : Int) = 1 then (⟨A, n, c⟩ : Sl) else ⟨none, 0, 0⟩)) ∧ Below w.heap.size w w'
  rw [show deedW (usedD ⟨7, rn, p, tk, ty, wk, dr⟩) (if (7 : Int) = 1 then (⟨A, n, c⟩ : Sl) else ⟨none, 0, 0⟩) = deedW ⟨7, rn, planZ, 0, 0, 0, 0⟩ ⟨none, 0, 0⟩ from rfl]
  have X := ((DBox.new 74 [.int .i64 7, .int .i64 rn, .int .i64 p.prio, .int .i64 p.most, .int .i64 p.wait, .int .i64 p.tasks, .slice A n c, .int .i64 tk, .int .i64 ty, .int .i64 wk, .int .i64 dr] w (b := w.heap.size) rfl).below ((Below.refl _ _).alloc (Nat.le_refl _) (.cells #[.int .i64 0, .int .i64 0, .int .i64 0, .int .i64 0, .int .i64 0, .int .i64 0, .slice none 0 0, .int .i64 0, .int .i64 0, .int .i64 0, .int .i64 0] 74))).below ((Below.refl _ _).alloc (Nat.le_refl _) (.cells #[.int .i64 7, .int .i64 0, .int .i64 0, .int .i64 0, .int .i64 0, .int .i64 0, .slice none 0 0, .int .i64 0, .int .i64 0, .int .i64 0, .int .i64 0] 74))
  have R := (DBox.new 74 [.int .i64 0, .int .i64 0, .int .i64 0, .int .i64 0, .int .i64 0, .int .i64 0, .slice none 0 0, .int .i64 0, .int .i64 0, .int .i64 0, .int .i64 0] (w.alloc (.cells #[.int .i64 7, .int .i64 rn, .int .i64 p.prio, .int .i64 p.most, .int .i64 p.wait, .int .i64 p.tasks, .slice A n c, .int .i64 tk, .int .i64 ty, .int .i64 wk, .int .i64 dr] 74)) (b := w.heap.size + 1) (by simp)).below ((Below.refl _ _).alloc (Nat.le_refl _) (.cells #[.int .i64 7, .int .i64 0, .int .i64 0, .int .i64 0, .int .i64 0, .int .i64 0, .slice none 0 0, .int .i64 0, .int .i64 0, .int .i64 0, .int .i64 0] 74))
  have Y := DBox.new 74 [.int .i64 7, .int .i64 0, .int .i64 0, .int .i64 0, .int .i64 0, .int .i64 0, .slice none 0 0, .int .i64 0, .int .i64 0, .int .i64 0, .int .i64 0] ((w.alloc (.cells #[.int .i64 7, .int .i64 rn, .int .i64 p.prio, .int .i64 p.most, .int .i64 p.wait, .int .i64 p.tasks, .slice A n c, .int .i64 tk, .int .i64 ty, .int .i64 wk, .int .i64 dr] 74)).alloc (.cells #[.int .i64 0, .int .i64 0, .int .i64 0, .int .i64 0, .int .i64 0, .int .i64 0, .slice none 0 0, .int .i64 0, .int .i64 0, .int .i64 0, .int .i64 0] 74)) (b := w.heap.size + 1 + 1) (by simp)
  have B0 : Below w.heap.size w (((w.alloc (.cells #[.int .i64 7, .int .i64 rn, .int .i64 p.prio, .int .i64 p.most, .int .i64 p.wait, .int .i64 p.tasks, .slice A n c, .int .i64 tk, .int .i64 ty, .int .i64 wk, .int .i64 dr] 74)).alloc (.cells #[.int .i64 0, .int .i64 0, .int .i64 0, .int .i64 0, .int .i64 0, .int .i64 0, .slice none 0 0, .int .i64 0, .int .i64 0, .int .i64 0, .int .i64 0] 74)).alloc (.cells #[.int .i64 7, .int .i64 0, .int .i64 0, .int .i64 0, .int .i64 0, .int .i64 0, .slice none 0 0, .int .i64 0, .int .i64 0, .int .i64 0, .int .i64 0] 74)) := by repeat (first | exact Below.refl _ _ | refine Below.alloc ?_ (by simp <;> omega) _)
  go_enter Try.func90, Try.ntmps90
  go_upto_region 12 with fail
  generalize (((w.alloc (.cells #[.int .i64 7, .int .i64 rn, .int .i64 p.prio, .int .i64 p.most, .int .i64 p.wait, .int .i64 p.tasks, .slice A n c, .int .i64 tk, .int .i64 ty, .int .i64 wk, .int .i64 dr] 74)).alloc (.cells #[.int .i64 0, .int .i64 0, .int .i64 0, .int .i64 0, .int .i64 0, .int .i64 0, .slice none 0 0, .int .i64 0, .int .i64 0, .int .i64 0, .int .i64 0] 74)).alloc (.cells #[.int .i64 7, .int .i64 0, .int .i64 0, .int .i64 0, .int .i64 0, .int .i64 0, .slice none 0 0, .int .i64 0, .int .i64 0, .int .i64 0, .int .i64 0] 74)) = W at *
  have X_0 := X.cell 0 _ rfl
  have X_1 := X.cell 1 _ rfl
  have X_2 := X.cell 2 _ rfl
  have X_3 := X.cell 3 _ rfl
  have X_4 := X.cell 4 _ rfl
  have X_5 := X.cell 5 _ rfl
  have X_6 := X.cell 6 _ rfl
  have X_7 := X.cell 7 _ rfl
  have X_8 := X.cell 8 _ rfl
  have X_9 := X.cell 9 _ rfl
  have X_10 := X.cell 10 _ rfl
  have X_l := X.lt
  have Y_0 := Y.cell 0 _ rfl
  have Y_1 := Y.cell 1 _ rfl
  have Y_2 := Y.cell 2 _ rfl
  have Y_3 := Y.cell 3 _ rfl
  have Y_4 := Y.cell 4 _ rfl
  have Y_5 := Y.cell 5 _ rfl
  have Y_6 := Y.cell 6 _ rfl
  have Y_7 := Y.cell 7 _ rfl
  have Y_8 := Y.cell 8 _ rfl
  have Y_9 := Y.cell 9 _ rfl
  have Y_10 := Y.cell 10 _ rfl
  have Y_l := Y.lt
  have R_0 := R.cell 0 _ rfl
  have R_1 := R.cell 1 _ rfl
  have R_2 := R.cell 2 _ rfl
  have R_3 := R.cell 3 _ rfl
  have R_4 := R.cell 4 _ rfl
  have R_5 := R.cell 5 _ rfl
  have R_6 := R.cell 6 _ rfl
  have R_7 := R.cell 7 _ rfl
  have R_8 := R.cell 8 _ rfl
  have R_9 := R.cell 9 _ rfl
  have R_10 := R.cell 10 _ rfl
  have R_l := R.lt
  have yf := Y.free
  have rf := R.free
  all_goals go_wp2
  all_goals refine bodyPost_ret (v := deedW ⟨7, rn, planZ, 0, 0, 0, 0⟩ ⟨none, 0, 0⟩) (used_res (DBox.row11 (cs := [.int .i64 0, .int .i64 0, .int .i64 0, .int .i64 0, .int .i64 0, .int .i64 0, .slice none 0 0, .int .i64 0, .int .i64 0, .int .i64 0, .int .i64 0]) ?_ rfl _ _ _ _ _ _ _ _ _ _ _)) rfl ⟨rfl, ?_⟩
  all_goals repeat (first | (with_reducible exact B0) | (with_reducible exact R) | refine Below.setCell ?_ (by simp <;> omega) _ | refine DBox.setOther ?_ (by simp <;> omega) _)

theorem implUsed0 (d : Deed) (s : Sl) (w : World) (k1 : (d.kind == 1) = false) (k2 : (d.kind == 2) = false) (k3 : (d.kind == 3) = false) (k4 : (d.kind == 4) = false) (k6 : (d.kind == 6) = false) (k7 : (d.kind == 7) = false) :
    Calls Try.prog 90 #[deedW d s] w fun e w' => e = .returned (deedW (usedD d) (if d.kind = 1 then s else ⟨none, 0, 0⟩)) ∧ Below w.heap.size w w' := by
  obtain ⟨A, n, c⟩ := s
  obtain ⟨kd, rn, p, tk, ty, wk, dr⟩ := d
  replace k1 : (kd == 1) = false := k1
  replace k2 : (kd == 2) = false := k2
  replace k3 : (kd == 3) = false := k3
  replace k4 : (kd == 4) = false := k4
  replace k6 : (kd == 6) = false := k6
  replace k7 : (kd == 7) = false := k7
  show Calls Try.prog 90 #[deedW ⟨kd, rn, p, tk, ty, wk, dr⟩ ⟨A, n, c⟩] w fun e w' => e = .returned (deedW (usedD ⟨kd, rn, p, tk, ty, wk, dr⟩) (if (kd : Int) = 1 then (⟨A, n, c⟩ : Sl) else ⟨none, 0, 0⟩)) ∧ Below w.heap.size w w'
  rw [show deedW (usedD ⟨kd, rn, p, tk, ty, wk, dr⟩) (if (kd : Int) = 1 then (⟨A, n, c⟩ : Sl) else ⟨none, 0, 0⟩) = deedW ⟨kd, 0, planZ, 0, 0, 0, 0⟩ ⟨none, 0, 0⟩ from by simp only [beq_eq_false_iff_ne] at k1 k2 k3 k4 k6 k7; simp [usedD, k1, k2, k3, k4, k6, k7]]
  have X := ((DBox.new 74 [.int .i64 kd, .int .i64 rn, .int .i64 p.prio, .int .i64 p.most, .int .i64 p.wait, .int .i64 p.tasks, .slice A n c, .int .i64 tk, .int .i64 ty, .int .i64 wk, .int .i64 dr] w (b := w.heap.size) rfl).below ((Below.refl _ _).alloc (Nat.le_refl _) (.cells #[.int .i64 0, .int .i64 0, .int .i64 0, .int .i64 0, .int .i64 0, .int .i64 0, .slice none 0 0, .int .i64 0, .int .i64 0, .int .i64 0, .int .i64 0] 74))).below ((Below.refl _ _).alloc (Nat.le_refl _) (.cells #[.int .i64 kd, .int .i64 0, .int .i64 0, .int .i64 0, .int .i64 0, .int .i64 0, .slice none 0 0, .int .i64 0, .int .i64 0, .int .i64 0, .int .i64 0] 74))
  have R := (DBox.new 74 [.int .i64 0, .int .i64 0, .int .i64 0, .int .i64 0, .int .i64 0, .int .i64 0, .slice none 0 0, .int .i64 0, .int .i64 0, .int .i64 0, .int .i64 0] (w.alloc (.cells #[.int .i64 kd, .int .i64 rn, .int .i64 p.prio, .int .i64 p.most, .int .i64 p.wait, .int .i64 p.tasks, .slice A n c, .int .i64 tk, .int .i64 ty, .int .i64 wk, .int .i64 dr] 74)) (b := w.heap.size + 1) (by simp)).below ((Below.refl _ _).alloc (Nat.le_refl _) (.cells #[.int .i64 kd, .int .i64 0, .int .i64 0, .int .i64 0, .int .i64 0, .int .i64 0, .slice none 0 0, .int .i64 0, .int .i64 0, .int .i64 0, .int .i64 0] 74))
  have Y := DBox.new 74 [.int .i64 kd, .int .i64 0, .int .i64 0, .int .i64 0, .int .i64 0, .int .i64 0, .slice none 0 0, .int .i64 0, .int .i64 0, .int .i64 0, .int .i64 0] ((w.alloc (.cells #[.int .i64 kd, .int .i64 rn, .int .i64 p.prio, .int .i64 p.most, .int .i64 p.wait, .int .i64 p.tasks, .slice A n c, .int .i64 tk, .int .i64 ty, .int .i64 wk, .int .i64 dr] 74)).alloc (.cells #[.int .i64 0, .int .i64 0, .int .i64 0, .int .i64 0, .int .i64 0, .int .i64 0, .slice none 0 0, .int .i64 0, .int .i64 0, .int .i64 0, .int .i64 0] 74)) (b := w.heap.size + 1 + 1) (by simp)
  have B0 : Below w.heap.size w (((w.alloc (.cells #[.int .i64 kd, .int .i64 rn, .int .i64 p.prio, .int .i64 p.most, .int .i64 p.wait, .int .i64 p.tasks, .slice A n c, .int .i64 tk, .int .i64 ty, .int .i64 wk, .int .i64 dr] 74)).alloc (.cells #[.int .i64 0, .int .i64 0, .int .i64 0, .int .i64 0, .int .i64 0, .int .i64 0, .slice none 0 0, .int .i64 0, .int .i64 0, .int .i64 0, .int .i64 0] 74)).alloc (.cells #[.int .i64 kd, .int .i64 0, .int .i64 0, .int .i64 0, .int .i64 0, .int .i64 0, .slice none 0 0, .int .i64 0, .int .i64 0, .int .i64 0, .int .i64 0] 74)) := by repeat (first | exact Below.refl _ _ | refine Below.alloc ?_ (by simp <;> omega) _)
  go_enter Try.func90, Try.ntmps90
  go_upto_region 13 with fail
  generalize (((w.alloc (.cells #[.int .i64 kd, .int .i64 rn, .int .i64 p.prio, .int .i64 p.most, .int .i64 p.wait, .int .i64 p.tasks, .slice A n c, .int .i64 tk, .int .i64 ty, .int .i64 wk, .int .i64 dr] 74)).alloc (.cells #[.int .i64 0, .int .i64 0, .int .i64 0, .int .i64 0, .int .i64 0, .int .i64 0, .slice none 0 0, .int .i64 0, .int .i64 0, .int .i64 0, .int .i64 0] 74)).alloc (.cells #[.int .i64 kd, .int .i64 0, .int .i64 0, .int .i64 0, .int .i64 0, .int .i64 0, .slice none 0 0, .int .i64 0, .int .i64 0, .int .i64 0, .int .i64 0] 74)) = W at *
  have X_0 := X.cell 0 _ rfl
  have X_1 := X.cell 1 _ rfl
  have X_2 := X.cell 2 _ rfl
  have X_3 := X.cell 3 _ rfl
  have X_4 := X.cell 4 _ rfl
  have X_5 := X.cell 5 _ rfl
  have X_6 := X.cell 6 _ rfl
  have X_7 := X.cell 7 _ rfl
  have X_8 := X.cell 8 _ rfl
  have X_9 := X.cell 9 _ rfl
  have X_10 := X.cell 10 _ rfl
  have X_l := X.lt
  have Y_0 := Y.cell 0 _ rfl
  have Y_1 := Y.cell 1 _ rfl
  have Y_2 := Y.cell 2 _ rfl
  have Y_3 := Y.cell 3 _ rfl
  have Y_4 := Y.cell 4 _ rfl
  have Y_5 := Y.cell 5 _ rfl
  have Y_6 := Y.cell 6 _ rfl
  have Y_7 := Y.cell 7 _ rfl
  have Y_8 := Y.cell 8 _ rfl
  have Y_9 := Y.cell 9 _ rfl
  have Y_10 := Y.cell 10 _ rfl
  have Y_l := Y.lt
  have R_0 := R.cell 0 _ rfl
  have R_1 := R.cell 1 _ rfl
  have R_2 := R.cell 2 _ rfl
  have R_3 := R.cell 3 _ rfl
  have R_4 := R.cell 4 _ rfl
  have R_5 := R.cell 5 _ rfl
  have R_6 := R.cell 6 _ rfl
  have R_7 := R.cell 7 _ rfl
  have R_8 := R.cell 8 _ rfl
  have R_9 := R.cell 9 _ rfl
  have R_10 := R.cell 10 _ rfl
  have R_l := R.lt
  have yf := Y.free
  have rf := R.free
  all_goals go_wp2
  all_goals refine bodyPost_ret (v := deedW ⟨kd, 0, planZ, 0, 0, 0, 0⟩ ⟨none, 0, 0⟩) (used_res (DBox.row11 (cs := [.int .i64 0, .int .i64 0, .int .i64 0, .int .i64 0, .int .i64 0, .int .i64 0, .slice none 0 0, .int .i64 0, .int .i64 0, .int .i64 0, .int .i64 0]) ?_ rfl _ _ _ _ _ _ _ _ _ _ _)) rfl ⟨rfl, ?_⟩
  all_goals repeat (first | (with_reducible exact B0) | (with_reducible exact R) | refine Below.setCell ?_ (by simp <;> omega) _ | refine DBox.setOther ?_ (by simp <;> omega) _)

/-- end of the printed part -/
theorem used_end : True := trivial
end Go.Proofs.Ytjobmbjadpldfaa
