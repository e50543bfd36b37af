/-
  Data of the type Fence: how it lies in memory, and the walks of the laws' helpers on it. Written by program (deep.py).
-/
import Derived.Test.YtcapldjhcplfmaaDp
namespace Go.Proofs.Ytcapldjhcplfmaa
open Go.RowKit
set_option maxRecDepth 100000
set_option maxHeartbeats 1000000
set_option linter.unusedVariables false
set_option linter.unusedSimpArgs false

structure Fence where
  run : Int
  task : Int
  try_ : Int
  text : ByteArray
deriving DecidableEq, Inhabited

@[go_sem] abbrev fenceW (x : Fence) (_s : Unit) : Value := .agg #[.int .i64 x.run, .int .i64 x.task, .int .i64 x.try_, .string x.text]
abbrev fenceD : Dt Fence := Dt.flat (fun q => [.int .i64 q.1.run, .int .i64 q.1.task, .int .i64 q.1.try_, .string q.1.text]) 4 (fun _ => rfl) (fun q u hu => by simp at hu; rcases hu with rfl | rfl | rfl | rfl <;> rfl)
/-- all lengths in it together -/
def cntFence (_ : Fence) : Nat := 0
/-- ints are int64, lengths are what a machine holds -/
def wfFence (x : Fence) : Prop := Wf x.run ∧ Wf x.task ∧ Wf x.try_

theorem eqFence_own (x y : Fence) (s r : Unit) (w : World) (hl : cntFence x ≤ 2000000) (hl' : cntFence y ≤ 2000000) (h : fenceD.rd w w.heap.size x s) (h' : fenceD.rd w w.heap.size y r) :
    Calls Try.prog 44 #[fenceW x s, fenceW y r] w fun e w' => e = .returned (.bool (decide (x = y))) ∧ Below w.heap.size w w' := by
  have hbx : ∀ W, Below w.heap.size w W → fenceD.rd W W.heap.size x s := fun W hW => fenceD.rd_more (fenceD.rd_below h hW) hW.size
  have hby : ∀ W, Below w.heap.size w W → fenceD.rd W W.heap.size y r := fun W hW => fenceD.rd_more (fenceD.rd_below h' hW) hW.size
  by_cases h0 : x.run = y.run
  case neg =>
    have t0 : (x.run != y.run) = true := by rw [bne_iff_ne]; exact h0
    have H := Lib.hid (show decide (x = y) = false by simp only [decide_eq_false_iff_not]; intro e; exact h0 (by rw [e]))
    clear h0
    go_enter Try.func44, Try.ntmps44
    go_wp2
    go_ret
    exact ⟨ret_bool (by first | exact H.out.symm | rfl), by repeat (first | exact Below.refl _ _ | refine Below.alloc ?_ (by simp <;> omega) _)⟩
  have t0 : (x.run != y.run) = false := by simp [h0]
  have H0 := Lib.hid h0
  clear h0
  by_cases h1 : x.task = y.task
  case neg =>
    have t1 : (x.task != y.task) = true := by rw [bne_iff_ne]; exact h1
    have H := Lib.hid (show decide (x = y) = false by simp only [decide_eq_false_iff_not]; intro e; exact h1 (by rw [e]))
    clear h1
    go_enter Try.func44, Try.ntmps44
    go_wp2
    go_ret
    exact ⟨ret_bool (by first | exact H.out.symm | rfl), by repeat (first | exact Below.refl _ _ | refine Below.alloc ?_ (by simp <;> omega) _)⟩
  have t1 : (x.task != y.task) = false := by simp [h1]
  have H1 := Lib.hid h1
  clear h1
  by_cases h2 : x.try_ = y.try_
  case neg =>
    have t2 : (x.try_ != y.try_) = true := by rw [bne_iff_ne]; exact h2
    have H := Lib.hid (show decide (x = y) = false by simp only [decide_eq_false_iff_not]; intro e; exact h2 (by rw [e]))
    clear h2
    go_enter Try.func44, Try.ntmps44
    go_wp2
    go_ret
    exact ⟨ret_bool (by first | exact H.out.symm | rfl), by repeat (first | exact Below.refl _ _ | refine Below.alloc ?_ (by simp <;> omega) _)⟩
  have t2 : (x.try_ != y.try_) = false := by simp [h2]
  have H2 := Lib.hid h2
  clear h2
  by_cases h3 : x.text = y.text
  case neg =>
    have t3 : (x.text.toList == y.text.toList) = false := bytes_ne h3
    have H := Lib.hid (show decide (x = y) = false by simp only [decide_eq_false_iff_not]; intro e; exact h3 (by rw [e]))
    clear h3
    go_enter Try.func44, Try.ntmps44
    go_wp2
    go_ret
    exact ⟨ret_bool (by first | exact H.out.symm | rfl), by repeat (first | exact Below.refl _ _ | refine Below.alloc ?_ (by simp <;> omega) _)⟩
  have t3 : (x.text.toList == y.text.toList) = true := by simp [h3]
  have H3 := Lib.hid h3
  clear h3
  have H := Lib.hid (show decide (x = y) = true by
    simp only [decide_eq_true_eq]
    have hh := And.intro H0.out (And.intro H1.out (And.intro H2.out H3.out))
    obtain ⟨e0, e1, e2, e3⟩ := hh
    cases x
    cases y
    simp only at e0 e1 e2 e3
    subst e0 e1 e2 e3
    rfl)
  go_enter Try.func44, Try.ntmps44
  go_wp2
  go_ret
  exact ⟨ret_bool (by first | exact H.out.symm | rfl), by repeat (first | exact Below.refl _ _ | refine Below.alloc ?_ (by simp <;> omega) _)⟩
end Go.Proofs.Ytcapldjhcplfmaa
