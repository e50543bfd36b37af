/-
  copyNote of the program. Written by program (cn.py).
-/
import Derived.Test.YtcapldjhcplfmaaCd
import Derived.Test.YtcapldjhcplfmaaDb
import Derived.Test.YtcapldjhcplfmaaHl
namespace Go.Proofs.Ytcapldjhcplfmaa
open Go.RowKit
set_option maxRecDepth 100000
set_option maxHeartbeats 1000000
set_option linter.unusedVariables false
set_option linter.unusedSimpArgs false

theorem implCopyNote_own (x : Note) (s : Sl) (w : World) (hl : cntNote x ≤ 2000000) (h : noteD.rd w w.heap.size x s) :
    Calls Try.prog 143 #[noteW x s] w (OwnPost noteD noteW x w) := by
  have hbx : ∀ W, Below w.heap.size w W → noteD.rd W W.heap.size x s := fun W hW => noteD.rd_more (noteD.rd_below h hW) hW.size
  have D0 := DBox.new 134 [.int .i64 x.seq, .int .i64 x.deed.kind, .int .i64 x.deed.run, .int .i64 x.deed.plan.prio, .int .i64 x.deed.plan.most, .int .i64 x.deed.plan.wait, .int .i64 x.deed.plan.tasks, .slice s.a s.n s.c, .int .i64 x.deed.task, .int .i64 x.deed.try_, .int .i64 x.deed.worker, .int .i64 x.deed.draw] w rfl
  have D := D0.below ((Below.refl _ _).alloc (Nat.le_refl _) (.cells #[.int .i64 (⟨0, ⟨0, 0, ⟨0, 0, 0, 0, []⟩, 0, 0, 0, 0⟩⟩ : Note).seq, .int .i64 (⟨0, ⟨0, 0, ⟨0, 0, 0, 0, []⟩, 0, 0, 0, 0⟩⟩ : Note).deed.kind, .int .i64 (⟨0, ⟨0, 0, ⟨0, 0, 0, 0, []⟩, 0, 0, 0, 0⟩⟩ : Note).deed.run, .int .i64 (⟨0, ⟨0, 0, ⟨0, 0, 0, 0, []⟩, 0, 0, 0, 0⟩⟩ : Note).deed.plan.prio, .int .i64 (⟨0, ⟨0, 0, ⟨0, 0, 0, 0, []⟩, 0, 0, 0, 0⟩⟩ : Note).deed.plan.most, .int .i64 (⟨0, ⟨0, 0, ⟨0, 0, 0, 0, []⟩, 0, 0, 0, 0⟩⟩ : Note).deed.plan.wait, .int .i64 (⟨0, ⟨0, 0, ⟨0, 0, 0, 0, []⟩, 0, 0, 0, 0⟩⟩ : Note).deed.plan.tasks, .slice (⟨none, 0, 0⟩ : Sl).a (⟨none, 0, 0⟩ : Sl).n (⟨none, 0, 0⟩ : Sl).c, .int .i64 (⟨0, ⟨0, 0, ⟨0, 0, 0, 0, []⟩, 0, 0, 0, 0⟩⟩ : Note).deed.task, .int .i64 (⟨0, ⟨0, 0, ⟨0, 0, 0, 0, []⟩, 0, 0, 0, 0⟩⟩ : Note).deed.try_, .int .i64 (⟨0, ⟨0, 0, ⟨0, 0, 0, 0, []⟩, 0, 0, 0, 0⟩⟩ : Note).deed.worker, .int .i64 (⟨0, ⟨0, 0, ⟨0, 0, 0, 0, []⟩, 0, 0, 0, 0⟩⟩ : Note).deed.draw] 134))
  go_enter Try.func143, Try.ntmps143
  go_wp2_with fail
  generalize hW1 : (w.alloc _).alloc _ = w1
  have B1 : Below w.heap.size w w1 := by rw [← hW1]; repeat (first | exact Below.refl _ _ | refine Below.alloc ?_ (by simp <;> omega) _)
  have z1 : w1.heap.size = w.heap.size + 1 + 1 := by rw [← hW1]; simp
  have D : DBox w.heap.size [.int .i64 x.seq, .int .i64 x.deed.kind, .int .i64 x.deed.run, .int .i64 x.deed.plan.prio, .int .i64 x.deed.plan.most, .int .i64 x.deed.plan.wait, .int .i64 x.deed.plan.tasks, .slice s.a s.n s.c, .int .i64 x.deed.task, .int .i64 x.deed.try_, .int .i64 x.deed.worker, .int .i64 x.deed.draw] w1 := by rw [← hW1]; exact D0.below ((Below.refl _ _).alloc (Nat.le_refl _) _)
  have Z : DBox (w.heap.size + 1) [.int .i64 0, .int .i64 0, .int .i64 0, .int .i64 0, .int .i64 0, .int .i64 0, .int .i64 0, .slice none 0 0, .int .i64 0, .int .i64 0, .int .i64 0, .int .i64 0] w1 := by rw [← hW1]; exact DBox.new _ _ _ (by simp)
  clear hW1 D0
  refine wp_region_last (fun w' => w'.cell? ⟨w.heap.size, 0, none⟩ = some (.int .i64 x.seq) ∧ w'.cell? ⟨w.heap.size, 1, none⟩ = some (.int .i64 x.deed.kind) ∧ w'.cell? ⟨w.heap.size, 2, none⟩ = some (.int .i64 x.deed.run) ∧ w'.cell? ⟨w.heap.size, 3, none⟩ = some (.int .i64 x.deed.plan.prio) ∧ w'.cell? ⟨w.heap.size, 4, none⟩ = some (.int .i64 x.deed.plan.most) ∧ w'.cell? ⟨w.heap.size, 5, none⟩ = some (.int .i64 x.deed.plan.wait) ∧ w'.cell? ⟨w.heap.size, 6, none⟩ = some (.int .i64 x.deed.plan.tasks) ∧ w'.cell? ⟨w.heap.size, 7, none⟩ = some (.slice s.a s.n s.c) ∧ w'.cell? ⟨w.heap.size, 8, none⟩ = some (.int .i64 x.deed.task) ∧ w'.cell? ⟨w.heap.size, 9, none⟩ = some (.int .i64 x.deed.try_) ∧ w'.cell? ⟨w.heap.size, 10, none⟩ = some (.int .i64 x.deed.worker) ∧ w'.cell? ⟨w.heap.size, 11, none⟩ = some (.int .i64 x.deed.draw)) 6 (by kernel_rfl) ?_ (fun hHeld => ?_)
  · exact ⟨D.cell 0 _ rfl, D.cell 1 _ rfl, D.cell 2 _ rfl, D.cell 3 _ rfl, D.cell 4 _ rfl, D.cell 5 _ rfl, D.cell 6 _ rfl, D.cell 7 _ rfl, D.cell 8 _ rfl, D.cell 9 _ rfl, D.cell 10 _ rfl, D.cell 11 _ rfl⟩
  refine wpAnyL_take (i := 0) (oi := _) (v := ?_) rfl (by kernel_rfl) (by kernel_rfl) (by kernel_rfl) (by kernel_rfl) (fun _ _ _ h => h) hHeld (Or.inl ⟨by rfl, ?_⟩) ?_
  rotate_left
  · intro w hSw
    (try dsimp only at hSw)
    go_simp
    all_goals with_reducible rfl
  try simp only [Act.put, List.setIfInBounds_toArray, List.set_cons_zero, List.set_cons_succ]
  refine wpAnyL_take (i := 1) (oi := _) (v := ?_) rfl (by kernel_rfl) (by kernel_rfl) (by kernel_rfl) (by kernel_rfl) (fun _ _ _ h => h) hHeld (Or.inl ⟨by rfl, ?_⟩) ?_
  rotate_left
  · intro w hSw
    (try dsimp only at hSw)
    go_simp
    all_goals with_reducible rfl
  try simp only [Act.put, List.setIfInBounds_toArray, List.set_cons_zero, List.set_cons_succ]
  refine wpAnyL_take (i := 2) (oi := _) (v := ?_) rfl (by kernel_rfl) (by kernel_rfl) (by kernel_rfl) (by kernel_rfl) (fun _ _ _ h => h) hHeld (Or.inl ⟨by rfl, ?_⟩) ?_
  rotate_left
  · intro w hSw
    (try dsimp only at hSw)
    go_simp
    all_goals with_reducible rfl
  try simp only [Act.put, List.setIfInBounds_toArray, List.set_cons_zero, List.set_cons_succ]
  refine wpAnyL_take (i := 3) (oi := _) (v := ?_) rfl (by kernel_rfl) (by kernel_rfl) (by kernel_rfl) (by kernel_rfl) (fun _ _ _ h => h) hHeld (Or.inl ⟨by rfl, ?_⟩) ?_
  rotate_left
  · intro w hSw
    (try dsimp only at hSw)
    go_simp
    all_goals with_reducible rfl
  try simp only [Act.put, List.setIfInBounds_toArray, List.set_cons_zero, List.set_cons_succ]
  refine wpAnyL_one (i := 4) (o := _) rfl (by kernel_rfl) (fun K hK => ?_)
  (go_simp; refine (implCopyDeed_own x.deed s _ (by unfold cntNote at hl; omega) (hbx _ B1.drew)).mono ?_; rintro e w2 ⟨s2, F2, rfl, o2, n2, b2⟩; have B12 := bnext ((Below.refl w1.heap.size w1).drew) b2; have B2 := bnext B1 B12; have D2 := D.below B12; have Z2 := Z.below B12; have zf := Z2.free; have k0 : w2.cell? ⟨w.heap.size, 0, none⟩ = some (.int .i64 x.seq) := D2.cell 0 _ rfl; have k1 : w2.cell? ⟨w.heap.size, 1, none⟩ = some (.int .i64 x.deed.kind) := D2.cell 1 _ rfl; have k2 : w2.cell? ⟨w.heap.size, 2, none⟩ = some (.int .i64 x.deed.run) := D2.cell 2 _ rfl; have k3 : w2.cell? ⟨w.heap.size, 3, none⟩ = some (.int .i64 x.deed.plan.prio) := D2.cell 3 _ rfl; have k4 : w2.cell? ⟨w.heap.size, 4, none⟩ = some (.int .i64 x.deed.plan.most) := D2.cell 4 _ rfl; have k5 : w2.cell? ⟨w.heap.size, 5, none⟩ = some (.int .i64 x.deed.plan.wait) := D2.cell 5 _ rfl; have k6 : w2.cell? ⟨w.heap.size, 6, none⟩ = some (.int .i64 x.deed.plan.tasks) := D2.cell 6 _ rfl; have k7 : w2.cell? ⟨w.heap.size, 7, none⟩ = some (.slice s.a s.n s.c) := D2.cell 7 _ rfl; have k8 : w2.cell? ⟨w.heap.size, 8, none⟩ = some (.int .i64 x.deed.task) := D2.cell 8 _ rfl; have k9 : w2.cell? ⟨w.heap.size, 9, none⟩ = some (.int .i64 x.deed.try_) := D2.cell 9 _ rfl; have k10 : w2.cell? ⟨w.heap.size, 10, none⟩ = some (.int .i64 x.deed.worker) := D2.cell 10 _ rfl; have k11 : w2.cell? ⟨w.heap.size, 11, none⟩ = some (.int .i64 x.deed.draw) := D2.cell 11 _ rfl; have z0 := Z2.cell 0 _ rfl; have z1 := Z2.cell 1 _ rfl; have z2 := Z2.cell 2 _ rfl; have z3 := Z2.cell 3 _ rfl; have z4 := Z2.cell 4 _ rfl; have z5 := Z2.cell 5 _ rfl; have z6 := Z2.cell 6 _ rfl; have z7 := Z2.cell 7 _ rfl; have z8 := Z2.cell 8 _ rfl; have z9 := Z2.cell 9 _ rfl; have z10 := Z2.cell 10 _ rfl; have z11 := Z2.cell 11 _ rfl; go_simp)
  refine hK.out _ _ (fun _ => ?_) ?_
  · exact ⟨k0, k1, k2, k3, k4, k5, k6, k7, k8, k9, k10, k11⟩
  clear hK K
  try simp only [Act.put, List.setIfInBounds_toArray, List.set_cons_zero, List.set_cons_succ]
  refine wpAnyL_one (i := 5) (o := _) rfl (by kernel_rfl) (fun K hK => ?_)
  go_simp
  refine hK.out _ _ (fun _ => ?_) ?_
  · exact ⟨k0, k1, k2, k3, k4, k5, k6, k7, k8, k9, k10, k11⟩
  clear hK K
  try simp only [Act.put, List.setIfInBounds_toArray, List.set_cons_zero, List.set_cons_succ]
  refine wpAnyL_one (i := 6) (o := _) rfl (by kernel_rfl) (fun K hK => ?_)
  go_simp
  refine hK.out _ _ (fun hne => absurd rfl hne) ?_
  clear hK K
  try simp only [Act.put, List.setIfInBounds_toArray, List.set_cons_zero, List.set_cons_succ]
  refine wpAnyL_done (by kernel_rfl) ?_ _
  go_wp2
  refine bodyPost_ret (v := noteW x s2) ?_ rfl ?_
  · simp [noteW, results, Try.results143, go_sem, *]
  · refine ⟨s2, F2, rfl, ?_, ?_, ?_⟩
    · have hn : (w.heap.size + 1) ∉ F2 := fun hm => by have := n2 _ hm; simp only [World.size_drew] at this; omega
      repeat (first | (with_reducible exact o2) | refine Dt.ow_set deedD ?_ hn _)
    · intro b hb
      have := n2 b hb
      simp only [World.size_drew] at this
      omega
    · repeat (first | (with_reducible exact B2) | refine Below.setCell ?_ (by simp <;> omega) _)
end Go.Proofs.Ytcapldjhcplfmaa
