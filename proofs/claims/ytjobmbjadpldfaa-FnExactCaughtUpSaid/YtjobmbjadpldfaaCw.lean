/-
  CaughtUp of the reference.
-/
import Derived.Test.YtjobmbjadpldfaaSy
namespace Go.Proofs.Ytjobmbjadpldfaa
open Go.RowKit
set_option maxRecDepth 100000
set_option maxHeartbeats 2000000
set_option linter.unusedVariables false

theorem specCaughtUp_own (x0 : Follower) (s : Sl × Sl) (x1 : Engine) (r : (Sl × Sl) × Sl × Sl) (w : World) (hl : cntFollower x0 ≤ 2000000) (hl' : cntEngine x1 ≤ 2000000) (hw0 : wfFollower x0) (hw1 : wfEngine x1) (h : followerD.rd w w.heap.size x0 s) (h' : engineD.rd w w.heap.size x1 r) :
    Calls Try.prog 12 #[followerW x0 s, engineW x1 r] w fun e w' => e = .returned (.bool (caughtUp x0 x1)) ∧ Below w.heap.size w w' := by
  have hbx : ∀ W, Below w.heap.size w W → followerD.rd W W.heap.size x0 s := fun W hW => followerD.rd_more (followerD.rd_below h hW) hW.size
  have hby : ∀ W, Below w.heap.size w W → engineD.rd W W.heap.size x1 r := fun W hW => engineD.rd_more (engineD.rd_below h' hW) hW.size
  have n1 : Wf x1.next := hw1.2.2.1
  have n2 : Wf x0.seq := hw0.2
  unfold Wf at n1 n2
  by_cases h1 : x0.seq < x1.next
  case neg =>
    have t1 : decide (x0.seq < x1.next) = false := decide_eq_false h1
    have H : Hid (caughtUp x0 x1 = false) := by show _ = _; unfold caughtUp; rw [t1]; rfl
    go_enter Try.func12, Try.ntmps12
    go_wp2
    go_ret
    exact ⟨ret_bool H.out.symm, by repeat (first | exact Below.refl _ _ | refine Below.alloc ?_ (by simp <;> omega) _)⟩
  by_cases h2 : x0.seq = x1.next - 1
  case neg =>
    have t2 : (x0.seq == x1.next - 1) = false := beq_eq_false_iff_ne.2 h2
    have H : Hid (caughtUp x0 x1 = false) := by
      show _ = _
      unfold caughtUp
      rw [t2, Bool.false_and, Bool.and_false]
    clear h2
    go_enter Try.func12, Try.ntmps12
    go_wp2
    go_ret
    exact ⟨ret_bool H.out.symm, by repeat (first | exact Below.refl _ _ | refine Below.alloc ?_ (by simp <;> omega) _)⟩
  have t2 : (x0.seq == x1.next - 1) = true := beq_iff_eq.2 h2
  have H : Hid (caughtUp x0 x1 = decide (x0.yard = x1.yard)) := by
    show _ = _
    unfold caughtUp
    rw [decide_eq_true h1, t2, Bool.true_and, Bool.true_and]
  clear h2
  go_enter Try.func12, Try.ntmps12
  go_wp2_with fail
  refine (specSameYard_own x0.yard x1.yard s r.1 _ (by unfold cntFollower at hl; omega) (by unfold cntEngine at hl'; omega) (hbx _ (by repeat (first | exact Below.refl _ _ | refine Below.alloc ?_ (by simp <;> omega) _))) ((hby _ (by repeat (first | exact Below.refl _ _ | refine Below.alloc ?_ (by simp <;> omega) _))).1)).mono ?_
  rintro e w1 ⟨rfl, b1⟩
  go_wp2
  go_ret
  exact ⟨ret_bool H.out.symm, bnext (by repeat (first | exact Below.refl _ _ | refine Below.alloc ?_ (by simp <;> omega) _)) b1⟩
end Go.Proofs.Ytjobmbjadpldfaa
