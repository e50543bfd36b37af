/-
  The law FnExactCaughtUp: its walk, out of the contracts of what it calls. Written by program (lawdeep.py).
-/
import Derived.Test.YtjobmbjadpldfaaCw
import Derived.Test.YtjobmbjadpldfaaDb
import Derived.Deep.RegionHeld3
namespace Go.Proofs.Ytjobmbjadpldfaa
open Go.RowKit
set_option maxRecDepth 100000
set_option maxHeartbeats 2000000
set_option linter.unusedVariables false

theorem lawCaughtUp_walk (x0 : Follower) (s0 : (Sl × Sl)) (x1 : Engine) (s1 : (Sl × Sl) × Sl × Sl) (w : World) (hw0 : wfFollower x0) (h0 : followerD.rd w w.heap.size x0 s0) (hw1 : wfEngine x1) (h1 : engineD.rd w w.heap.size x1 s1) :
    Calls Try.prog 4 #[followerW x0 s0, engineW x1 s1] w fun e w' => e = .returned (.bool true) ∧ Below w.heap.size w w' := by
  have b0 := Below.refl w.heap.size w
  go_enter Try.func4, Try.ntmps4
  go_wp2_with fail
  generalize hW1 : w.alloc (.cells #[.int .i64 x0.yard.now, .int .i64 x0.yard.seq, .slice s0.1.a s0.1.n s0.1.c, .slice s0.2.a s0.2.n s0.2.c, .int .i64 x0.seq] 34) = w1
  have c1 : Below w.heap.size w w1 := by rw [← hW1]; exact (Below.refl _ _).alloc (Nat.le_refl _) _
  have DaF : DBox (w.heap.size) [.int .i64 x0.yard.now, .int .i64 x0.yard.seq, .slice s0.1.a s0.1.n s0.1.c, .slice s0.2.a s0.2.n s0.2.c, .int .i64 x0.seq] w1 := by rw [← hW1]; exact DBox.new 34 _ _ (rfl)
  have z1 : Hid (w1.heap.size = w.heap.size + 1) := by show w1.heap.size = _; rw [← hW1, World.size_alloc]
  clear hW1
  have laF := DaF.lt
  have b1 := bnext b0 c1
  have s1_ : w.heap.size ≤ w1.heap.size := c1.size
  generalize hW2 : w1.alloc (.cells #[.int .i64 x1.yard.now, .int .i64 x1.yard.seq, .slice s1.1.1.a s1.1.1.n s1.1.1.c, .slice s1.1.2.a s1.1.2.n s1.1.2.c, .slice s1.2.1.a s1.2.1.n s1.2.1.c, .int .i64 x1.next, .int .i64 x1.calls, .slice s1.2.2.a s1.2.2.n s1.2.2.c, .int .i64 x1.state, .bool x1.broken] 40) = w2
  have c2 : Below w1.heap.size w1 w2 := by rw [← hW2]; exact (Below.refl _ _).alloc (Nat.le_refl _) _
  have DaE : DBox (w.heap.size + 1) [.int .i64 x1.yard.now, .int .i64 x1.yard.seq, .slice s1.1.1.a s1.1.1.n s1.1.1.c, .slice s1.1.2.a s1.1.2.n s1.1.2.c, .slice s1.2.1.a s1.2.1.n s1.2.1.c, .int .i64 x1.next, .int .i64 x1.calls, .slice s1.2.2.a s1.2.2.n s1.2.2.c, .int .i64 x1.state, .bool x1.broken] w2 := by rw [← hW2]; exact DBox.new 40 _ _ (z1.out.symm)
  have z2 : Hid (w2.heap.size = w.heap.size + 2) := by show w2.heap.size = _; rw [← hW2, World.size_alloc]; rw [z1.out]
  clear hW2
  have laE := DaE.lt
  have b2 := bnext b1 c2
  replace DaF := DaF.below c2
  have s2_ : w1.heap.size ≤ w2.heap.size := c2.size
  refine (szFollower_own x0 s0 _ _ (by omega) (by omega) hw0 (followerD.rd_more (followerD.rd_below h0 b2) b2.size)).mono ?_
  rintro e w3 ⟨r3, rfl, hr3, c3⟩
  have b3 := bnext b2 c3
  replace DaF := DaF.below c3
  replace DaE := DaE.below c3
  have s3_ : w2.heap.size ≤ w3.heap.size := c3.size
  rcases hr3 with rfl | ⟨q3, z3⟩
  · go_wp2_with fail
    go_ret
    exact ⟨rfl, b3⟩
  have qb3 : decide (r3 < 0) = false := by simpa using q3
  have hm0 : cntFollower x0 ≤ 2000000 := by omega
  have caE0 : w3.cell? ⟨w.heap.size + 1, 0, none⟩ = some (.int .i64 x1.yard.now) := DaE.cell 0 _ rfl
  have caE1 : w3.cell? ⟨w.heap.size + 1, 1, none⟩ = some (.int .i64 x1.yard.seq) := DaE.cell 1 _ rfl
  have caE2 : w3.cell? ⟨w.heap.size + 1, 2, none⟩ = some (.slice s1.1.1.a s1.1.1.n s1.1.1.c) := DaE.cell 2 _ rfl
  have caE3 : w3.cell? ⟨w.heap.size + 1, 3, none⟩ = some (.slice s1.1.2.a s1.1.2.n s1.1.2.c) := DaE.cell 3 _ rfl
  have caE4 : w3.cell? ⟨w.heap.size + 1, 4, none⟩ = some (.slice s1.2.1.a s1.2.1.n s1.2.1.c) := DaE.cell 4 _ rfl
  have caE5 : w3.cell? ⟨w.heap.size + 1, 5, none⟩ = some (.int .i64 x1.next) := DaE.cell 5 _ rfl
  have caE6 : w3.cell? ⟨w.heap.size + 1, 6, none⟩ = some (.int .i64 x1.calls) := DaE.cell 6 _ rfl
  have caE7 : w3.cell? ⟨w.heap.size + 1, 7, none⟩ = some (.slice s1.2.2.a s1.2.2.n s1.2.2.c) := DaE.cell 7 _ rfl
  have caE8 : w3.cell? ⟨w.heap.size + 1, 8, none⟩ = some (.int .i64 x1.state) := DaE.cell 8 _ rfl
  have caE9 : w3.cell? ⟨w.heap.size + 1, 9, none⟩ = some (.bool x1.broken) := DaE.cell 9 _ rfl
  have caEs := DaE.lt
  go_wp2_with fail
  clear caE0 caE1 caE2 caE3 caE4 caE5 caE6 caE7 caE8 caE9 caEs
  refine (szEngine_own x1 s1 _ _ (by omega) (by omega) hw1 (engineD.rd_more (engineD.rd_below h1 b3) b3.size)).mono ?_
  rintro e w4 ⟨r4, rfl, hr4, c4⟩
  have b4 := bnext b3 c4
  replace DaF := DaF.below c4
  replace DaE := DaE.below c4
  have s4_ : w3.heap.size ≤ w4.heap.size := c4.size
  rcases hr4 with rfl | ⟨q4, z4⟩
  · go_wp2_with fail
    go_ret
    exact ⟨rfl, b4⟩
  have qb4 : decide (r4 < 0) = false := by simpa using q4
  have hm1 : cntEngine x1 ≤ 2000000 := by omega
  have caF0 : w4.cell? ⟨w.heap.size, 0, none⟩ = some (.int .i64 x0.yard.now) := DaF.cell 0 _ rfl
  have caF1 : w4.cell? ⟨w.heap.size, 1, none⟩ = some (.int .i64 x0.yard.seq) := DaF.cell 1 _ rfl
  have caF2 : w4.cell? ⟨w.heap.size, 2, none⟩ = some (.slice s0.1.a s0.1.n s0.1.c) := DaF.cell 2 _ rfl
  have caF3 : w4.cell? ⟨w.heap.size, 3, none⟩ = some (.slice s0.2.a s0.2.n s0.2.c) := DaF.cell 3 _ rfl
  have caF4 : w4.cell? ⟨w.heap.size, 4, none⟩ = some (.int .i64 x0.seq) := DaF.cell 4 _ rfl
  have caE0 : w4.cell? ⟨w.heap.size + 1, 0, none⟩ = some (.int .i64 x1.yard.now) := DaE.cell 0 _ rfl
  have caE1 : w4.cell? ⟨w.heap.size + 1, 1, none⟩ = some (.int .i64 x1.yard.seq) := DaE.cell 1 _ rfl
  have caE2 : w4.cell? ⟨w.heap.size + 1, 2, none⟩ = some (.slice s1.1.1.a s1.1.1.n s1.1.1.c) := DaE.cell 2 _ rfl
  have caE3 : w4.cell? ⟨w.heap.size + 1, 3, none⟩ = some (.slice s1.1.2.a s1.1.2.n s1.1.2.c) := DaE.cell 3 _ rfl
  have caE4 : w4.cell? ⟨w.heap.size + 1, 4, none⟩ = some (.slice s1.2.1.a s1.2.1.n s1.2.1.c) := DaE.cell 4 _ rfl
  have caE5 : w4.cell? ⟨w.heap.size + 1, 5, none⟩ = some (.int .i64 x1.next) := DaE.cell 5 _ rfl
  have caE6 : w4.cell? ⟨w.heap.size + 1, 6, none⟩ = some (.int .i64 x1.calls) := DaE.cell 6 _ rfl
  have caE7 : w4.cell? ⟨w.heap.size + 1, 7, none⟩ = some (.slice s1.2.2.a s1.2.2.n s1.2.2.c) := DaE.cell 7 _ rfl
  have caE8 : w4.cell? ⟨w.heap.size + 1, 8, none⟩ = some (.int .i64 x1.state) := DaE.cell 8 _ rfl
  have caE9 : w4.cell? ⟨w.heap.size + 1, 9, none⟩ = some (.bool x1.broken) := DaE.cell 9 _ rfl
  have caFs := DaF.lt
  have caEs := DaE.lt
  go_wp2_with fail
  clear caF0 caF1 caF2 caF3 caF4 caFs caE0 caE1 caE2 caE3 caE4 caE5 caE6 caE7 caE8 caE9 caEs
  have caF0 : w4.cell? ⟨w.heap.size, 0, none⟩ = some (.int .i64 x0.yard.now) := DaF.cell 0 _ rfl
  have caF1 : w4.cell? ⟨w.heap.size, 1, none⟩ = some (.int .i64 x0.yard.seq) := DaF.cell 1 _ rfl
  have caF2 : w4.cell? ⟨w.heap.size, 2, none⟩ = some (.slice s0.1.a s0.1.n s0.1.c) := DaF.cell 2 _ rfl
  have caF3 : w4.cell? ⟨w.heap.size, 3, none⟩ = some (.slice s0.2.a s0.2.n s0.2.c) := DaF.cell 3 _ rfl
  have caF4 : w4.cell? ⟨w.heap.size, 4, none⟩ = some (.int .i64 x0.seq) := DaF.cell 4 _ rfl
  have caE0 : w4.cell? ⟨w.heap.size + 1, 0, none⟩ = some (.int .i64 x1.yard.now) := DaE.cell 0 _ rfl
  have caE1 : w4.cell? ⟨w.heap.size + 1, 1, none⟩ = some (.int .i64 x1.yard.seq) := DaE.cell 1 _ rfl
  have caE2 : w4.cell? ⟨w.heap.size + 1, 2, none⟩ = some (.slice s1.1.1.a s1.1.1.n s1.1.1.c) := DaE.cell 2 _ rfl
  have caE3 : w4.cell? ⟨w.heap.size + 1, 3, none⟩ = some (.slice s1.1.2.a s1.1.2.n s1.1.2.c) := DaE.cell 3 _ rfl
  have caE4 : w4.cell? ⟨w.heap.size + 1, 4, none⟩ = some (.slice s1.2.1.a s1.2.1.n s1.2.1.c) := DaE.cell 4 _ rfl
  have caE5 : w4.cell? ⟨w.heap.size + 1, 5, none⟩ = some (.int .i64 x1.next) := DaE.cell 5 _ rfl
  have caE6 : w4.cell? ⟨w.heap.size + 1, 6, none⟩ = some (.int .i64 x1.calls) := DaE.cell 6 _ rfl
  have caE7 : w4.cell? ⟨w.heap.size + 1, 7, none⟩ = some (.slice s1.2.2.a s1.2.2.n s1.2.2.c) := DaE.cell 7 _ rfl
  have caE8 : w4.cell? ⟨w.heap.size + 1, 8, none⟩ = some (.int .i64 x1.state) := DaE.cell 8 _ rfl
  have caE9 : w4.cell? ⟨w.heap.size + 1, 9, none⟩ = some (.bool x1.broken) := DaE.cell 9 _ rfl
  have caFs := DaF.lt
  have caEs := DaE.lt
  go_region_held3 (fun w' => w'.cell? ⟨w.heap.size, 0, none⟩ = some (.int .i64 x0.yard.now) ∧ w'.cell? ⟨w.heap.size, 1, none⟩ = some (.int .i64 x0.yard.seq) ∧ w'.cell? ⟨w.heap.size, 2, none⟩ = some (.slice s0.1.a s0.1.n s0.1.c) ∧ w'.cell? ⟨w.heap.size, 3, none⟩ = some (.slice s0.2.a s0.2.n s0.2.c) ∧ w'.cell? ⟨w.heap.size, 4, none⟩ = some (.int .i64 x0.seq) ∧ w'.cell? ⟨w.heap.size + 1, 0, none⟩ = some (.int .i64 x1.yard.now) ∧ w'.cell? ⟨w.heap.size + 1, 1, none⟩ = some (.int .i64 x1.yard.seq) ∧ w'.cell? ⟨w.heap.size + 1, 2, none⟩ = some (.slice s1.1.1.a s1.1.1.n s1.1.1.c) ∧ w'.cell? ⟨w.heap.size + 1, 3, none⟩ = some (.slice s1.1.2.a s1.1.2.n s1.1.2.c) ∧ w'.cell? ⟨w.heap.size + 1, 4, none⟩ = some (.slice s1.2.1.a s1.2.1.n s1.2.1.c) ∧ w'.cell? ⟨w.heap.size + 1, 5, none⟩ = some (.int .i64 x1.next) ∧ w'.cell? ⟨w.heap.size + 1, 6, none⟩ = some (.int .i64 x1.calls) ∧ w'.cell? ⟨w.heap.size + 1, 7, none⟩ = some (.slice s1.2.2.a s1.2.2.n s1.2.2.c) ∧ w'.cell? ⟨w.heap.size + 1, 8, none⟩ = some (.int .i64 x1.state) ∧ w'.cell? ⟨w.heap.size + 1, 9, none⟩ = some (.bool x1.broken))
    (first | (refine ⟨?_, ?_, ?_, ?_, ?_, ?_, ?_, ?_, ?_, ?_, ?_, ?_, ?_, ?_, ?_⟩ <;> first | assumption | go_keep) | go_keep)
    (first
      | (go_at_call 13; (with_reducible refine (toFollower_own x0 s0 _ hm0 (followerD.rd_more (followerD.rd_below h0 b4.drew) b4.drew.size)).mono ?_); rintro e w5 ⟨rw0s0, Fw0s0, rfl, ow0s0, nw0s0, c5⟩; have b5 := bnext b4 (bnext ((Below.refl w4.heap.size w4).drew) c5); replace DaF := DaF.below (bnext ((Below.refl w4.heap.size w4).drew) c5); replace DaE := DaE.below (bnext ((Below.refl w4.heap.size w4).drew) c5); have s5_ : w4.heap.size ≤ w5.heap.size := c5.size; replace ow0s0 : followerD.ow w5 Fw0s0 x0 rw0s0 := ow0s0; replace nw0s0 : ∀ b ∈ Fw0s0, w4.heap.size ≤ b := nw0s0; have tw0s0 : ∀ b ∈ Fw0s0, b < w5.heap.size := (followerD.ow_lt ow0s0); have XaF0 : w5.cell? ⟨w.heap.size, 0, none⟩ = some (.int .i64 x0.yard.now) := DaF.cell 0 _ rfl; have XaF1 : w5.cell? ⟨w.heap.size, 1, none⟩ = some (.int .i64 x0.yard.seq) := DaF.cell 1 _ rfl; have XaF2 : w5.cell? ⟨w.heap.size, 2, none⟩ = some (.slice s0.1.a s0.1.n s0.1.c) := DaF.cell 2 _ rfl; have XaF3 : w5.cell? ⟨w.heap.size, 3, none⟩ = some (.slice s0.2.a s0.2.n s0.2.c) := DaF.cell 3 _ rfl; have XaF4 : w5.cell? ⟨w.heap.size, 4, none⟩ = some (.int .i64 x0.seq) := DaF.cell 4 _ rfl; have XaE0 : w5.cell? ⟨w.heap.size + 1, 0, none⟩ = some (.int .i64 x1.yard.now) := DaE.cell 0 _ rfl; have XaE1 : w5.cell? ⟨w.heap.size + 1, 1, none⟩ = some (.int .i64 x1.yard.seq) := DaE.cell 1 _ rfl; have XaE2 : w5.cell? ⟨w.heap.size + 1, 2, none⟩ = some (.slice s1.1.1.a s1.1.1.n s1.1.1.c) := DaE.cell 2 _ rfl; have XaE3 : w5.cell? ⟨w.heap.size + 1, 3, none⟩ = some (.slice s1.1.2.a s1.1.2.n s1.1.2.c) := DaE.cell 3 _ rfl; have XaE4 : w5.cell? ⟨w.heap.size + 1, 4, none⟩ = some (.slice s1.2.1.a s1.2.1.n s1.2.1.c) := DaE.cell 4 _ rfl; have XaE5 : w5.cell? ⟨w.heap.size + 1, 5, none⟩ = some (.int .i64 x1.next) := DaE.cell 5 _ rfl; have XaE6 : w5.cell? ⟨w.heap.size + 1, 6, none⟩ = some (.int .i64 x1.calls) := DaE.cell 6 _ rfl; have XaE7 : w5.cell? ⟨w.heap.size + 1, 7, none⟩ = some (.slice s1.2.2.a s1.2.2.n s1.2.2.c) := DaE.cell 7 _ rfl; have XaE8 : w5.cell? ⟨w.heap.size + 1, 8, none⟩ = some (.int .i64 x1.state) := DaE.cell 8 _ rfl; have XaE9 : w5.cell? ⟨w.heap.size + 1, 9, none⟩ = some (.bool x1.broken) := DaE.cell 9 _ rfl; have XaFs := DaF.lt; have XaEs := DaE.lt)
      | (go_at_call 14; (with_reducible refine (toEngine_own x1 s1 _ hm1 (engineD.rd_more (engineD.rd_below h1 b5) b5.size)).mono ?_); rintro e w6 ⟨rw0s1, Fw0s1, rfl, ow0s1, nw0s1, c6⟩; have b6 := bnext b5 c6; replace ow0s0 := (followerD.ow_below ow0s0 c6); replace DaF := DaF.below c6; replace DaE := DaE.below c6; have s6_ : w5.heap.size ≤ w6.heap.size := c6.size; replace ow0s1 : engineD.ow w6 Fw0s1 x1 rw0s1 := ow0s1; replace nw0s1 : ∀ b ∈ Fw0s1, w5.heap.size ≤ b := nw0s1; have tw0s1 : ∀ b ∈ Fw0s1, b < w6.heap.size := (engineD.ow_lt ow0s1); have X1aF0 : w6.cell? ⟨w.heap.size, 0, none⟩ = some (.int .i64 x0.yard.now) := DaF.cell 0 _ rfl; have X1aF1 : w6.cell? ⟨w.heap.size, 1, none⟩ = some (.int .i64 x0.yard.seq) := DaF.cell 1 _ rfl; have X1aF2 : w6.cell? ⟨w.heap.size, 2, none⟩ = some (.slice s0.1.a s0.1.n s0.1.c) := DaF.cell 2 _ rfl; have X1aF3 : w6.cell? ⟨w.heap.size, 3, none⟩ = some (.slice s0.2.a s0.2.n s0.2.c) := DaF.cell 3 _ rfl; have X1aF4 : w6.cell? ⟨w.heap.size, 4, none⟩ = some (.int .i64 x0.seq) := DaF.cell 4 _ rfl; have X1aE0 : w6.cell? ⟨w.heap.size + 1, 0, none⟩ = some (.int .i64 x1.yard.now) := DaE.cell 0 _ rfl; have X1aE1 : w6.cell? ⟨w.heap.size + 1, 1, none⟩ = some (.int .i64 x1.yard.seq) := DaE.cell 1 _ rfl; have X1aE2 : w6.cell? ⟨w.heap.size + 1, 2, none⟩ = some (.slice s1.1.1.a s1.1.1.n s1.1.1.c) := DaE.cell 2 _ rfl; have X1aE3 : w6.cell? ⟨w.heap.size + 1, 3, none⟩ = some (.slice s1.1.2.a s1.1.2.n s1.1.2.c) := DaE.cell 3 _ rfl; have X1aE4 : w6.cell? ⟨w.heap.size + 1, 4, none⟩ = some (.slice s1.2.1.a s1.2.1.n s1.2.1.c) := DaE.cell 4 _ rfl; have X1aE5 : w6.cell? ⟨w.heap.size + 1, 5, none⟩ = some (.int .i64 x1.next) := DaE.cell 5 _ rfl; have X1aE6 : w6.cell? ⟨w.heap.size + 1, 6, none⟩ = some (.int .i64 x1.calls) := DaE.cell 6 _ rfl; have X1aE7 : w6.cell? ⟨w.heap.size + 1, 7, none⟩ = some (.slice s1.2.2.a s1.2.2.n s1.2.2.c) := DaE.cell 7 _ rfl; have X1aE8 : w6.cell? ⟨w.heap.size + 1, 8, none⟩ = some (.int .i64 x1.state) := DaE.cell 8 _ rfl; have X1aE9 : w6.cell? ⟨w.heap.size + 1, 9, none⟩ = some (.bool x1.broken) := DaE.cell 9 _ rfl; have X1aFs := DaF.lt; have X1aEs := DaE.lt)
      | (go_at_call 12; (with_reducible refine (specCaughtUp_own x0 rw0s0 x1 rw0s1 _ hm0 hm1 hw0 hw1 (followerD.ow_rd ow0s0) (engineD.ow_rd ow0s1)).mono ?_); rintro e w7 ⟨rfl, c7⟩; have b7 := bnext b6 c7; replace ow0s0 := (followerD.ow_below ow0s0 c7); replace ow0s1 := (engineD.ow_below ow0s1 c7); replace DaF := DaF.below c7; replace DaE := DaE.below c7; have s7_ : w6.heap.size ≤ w7.heap.size := c7.size; clear ow0s0 nw0s0 tw0s0; clear ow0s1 nw0s1 tw0s1; have X2aF0 : w7.cell? ⟨w.heap.size, 0, none⟩ = some (.int .i64 x0.yard.now) := DaF.cell 0 _ rfl; have X2aF1 : w7.cell? ⟨w.heap.size, 1, none⟩ = some (.int .i64 x0.yard.seq) := DaF.cell 1 _ rfl; have X2aF2 : w7.cell? ⟨w.heap.size, 2, none⟩ = some (.slice s0.1.a s0.1.n s0.1.c) := DaF.cell 2 _ rfl; have X2aF3 : w7.cell? ⟨w.heap.size, 3, none⟩ = some (.slice s0.2.a s0.2.n s0.2.c) := DaF.cell 3 _ rfl; have X2aF4 : w7.cell? ⟨w.heap.size, 4, none⟩ = some (.int .i64 x0.seq) := DaF.cell 4 _ rfl; have X2aE0 : w7.cell? ⟨w.heap.size + 1, 0, none⟩ = some (.int .i64 x1.yard.now) := DaE.cell 0 _ rfl; have X2aE1 : w7.cell? ⟨w.heap.size + 1, 1, none⟩ = some (.int .i64 x1.yard.seq) := DaE.cell 1 _ rfl; have X2aE2 : w7.cell? ⟨w.heap.size + 1, 2, none⟩ = some (.slice s1.1.1.a s1.1.1.n s1.1.1.c) := DaE.cell 2 _ rfl; have X2aE3 : w7.cell? ⟨w.heap.size + 1, 3, none⟩ = some (.slice s1.1.2.a s1.1.2.n s1.1.2.c) := DaE.cell 3 _ rfl; have X2aE4 : w7.cell? ⟨w.heap.size + 1, 4, none⟩ = some (.slice s1.2.1.a s1.2.1.n s1.2.1.c) := DaE.cell 4 _ rfl; have X2aE5 : w7.cell? ⟨w.heap.size + 1, 5, none⟩ = some (.int .i64 x1.next) := DaE.cell 5 _ rfl; have X2aE6 : w7.cell? ⟨w.heap.size + 1, 6, none⟩ = some (.int .i64 x1.calls) := DaE.cell 6 _ rfl; have X2aE7 : w7.cell? ⟨w.heap.size + 1, 7, none⟩ = some (.slice s1.2.2.a s1.2.2.n s1.2.2.c) := DaE.cell 7 _ rfl; have X2aE8 : w7.cell? ⟨w.heap.size + 1, 8, none⟩ = some (.int .i64 x1.state) := DaE.cell 8 _ rfl; have X2aE9 : w7.cell? ⟨w.heap.size + 1, 9, none⟩ = some (.bool x1.broken) := DaE.cell 9 _ rfl; have X2aFs := DaF.lt; have X2aEs := DaE.lt))
  clear caF0 caF1 caF2 caF3 caF4 caFs caE0 caE1 caE2 caE3 caE4 caE5 caE6 caE7 caE8 caE9 caEs
  clear XaF0 XaF1 XaF2 XaF3 XaF4 XaFs XaE0 XaE1 XaE2 XaE3 XaE4 XaE5 XaE6 XaE7 XaE8 XaE9 XaEs
  clear X1aF0 X1aF1 X1aF2 X1aF3 X1aF4 X1aFs X1aE0 X1aE1 X1aE2 X1aE3 X1aE4 X1aE5 X1aE6 X1aE7 X1aE8 X1aE9 X1aEs
  clear X2aF0 X2aF1 X2aF2 X2aF3 X2aF4 X2aFs X2aE0 X2aE1 X2aE2 X2aE3 X2aE4 X2aE5 X2aE6 X2aE7 X2aE8 X2aE9 X2aEs
  have caF0 : w7.cell? ⟨w.heap.size, 0, none⟩ = some (.int .i64 x0.yard.now) := DaF.cell 0 _ rfl
  have caF1 : w7.cell? ⟨w.heap.size, 1, none⟩ = some (.int .i64 x0.yard.seq) := DaF.cell 1 _ rfl
  have caF2 : w7.cell? ⟨w.heap.size, 2, none⟩ = some (.slice s0.1.a s0.1.n s0.1.c) := DaF.cell 2 _ rfl
  have caF3 : w7.cell? ⟨w.heap.size, 3, none⟩ = some (.slice s0.2.a s0.2.n s0.2.c) := DaF.cell 3 _ rfl
  have caF4 : w7.cell? ⟨w.heap.size, 4, none⟩ = some (.int .i64 x0.seq) := DaF.cell 4 _ rfl
  have caFs := DaF.lt
  go_wp2_with fail
  clear caF0 caF1 caF2 caF3 caF4 caFs
  refine (toFollower_own x0 s0 _ hm0 (followerD.rd_more (followerD.rd_below h0 b7) b7.size)).mono ?_
  rintro e w8 ⟨rx0, Fx0, rfl, ox0, nx0, c8⟩
  have b8 := bnext b7 c8
  replace DaF := DaF.below c8
  replace DaE := DaE.below c8
  have s8_ : w7.heap.size ≤ w8.heap.size := c8.size
  replace ox0 : followerD.ow w8 Fx0 x0 rx0 := ox0
  replace nx0 : ∀ b ∈ Fx0, w7.heap.size ≤ b := nx0
  have tx0 : ∀ b ∈ Fx0, b < w8.heap.size := (followerD.ow_lt ox0)
  have caE0 : w8.cell? ⟨w.heap.size + 1, 0, none⟩ = some (.int .i64 x1.yard.now) := DaE.cell 0 _ rfl
  have caE1 : w8.cell? ⟨w.heap.size + 1, 1, none⟩ = some (.int .i64 x1.yard.seq) := DaE.cell 1 _ rfl
  have caE2 : w8.cell? ⟨w.heap.size + 1, 2, none⟩ = some (.slice s1.1.1.a s1.1.1.n s1.1.1.c) := DaE.cell 2 _ rfl
  have caE3 : w8.cell? ⟨w.heap.size + 1, 3, none⟩ = some (.slice s1.1.2.a s1.1.2.n s1.1.2.c) := DaE.cell 3 _ rfl
  have caE4 : w8.cell? ⟨w.heap.size + 1, 4, none⟩ = some (.slice s1.2.1.a s1.2.1.n s1.2.1.c) := DaE.cell 4 _ rfl
  have caE5 : w8.cell? ⟨w.heap.size + 1, 5, none⟩ = some (.int .i64 x1.next) := DaE.cell 5 _ rfl
  have caE6 : w8.cell? ⟨w.heap.size + 1, 6, none⟩ = some (.int .i64 x1.calls) := DaE.cell 6 _ rfl
  have caE7 : w8.cell? ⟨w.heap.size + 1, 7, none⟩ = some (.slice s1.2.2.a s1.2.2.n s1.2.2.c) := DaE.cell 7 _ rfl
  have caE8 : w8.cell? ⟨w.heap.size + 1, 8, none⟩ = some (.int .i64 x1.state) := DaE.cell 8 _ rfl
  have caE9 : w8.cell? ⟨w.heap.size + 1, 9, none⟩ = some (.bool x1.broken) := DaE.cell 9 _ rfl
  have caEs := DaE.lt
  go_wp2_with fail
  clear caE0 caE1 caE2 caE3 caE4 caE5 caE6 caE7 caE8 caE9 caEs
  generalize hW9 : w8.alloc (.cells #[.int .i64 x0.yard.now, .int .i64 x0.yard.seq, .slice rx0.1.a rx0.1.n rx0.1.c, .slice rx0.2.a rx0.2.n rx0.2.c, .int .i64 x0.seq] 49) = w9
  have c9 : Below w8.heap.size w8 w9 := by rw [← hW9]; exact (Below.refl _ _).alloc (Nat.le_refl _) _
  have Dx0 : DBox (w8.heap.size) [.int .i64 x0.yard.now, .int .i64 x0.yard.seq, .slice rx0.1.a rx0.1.n rx0.1.c, .slice rx0.2.a rx0.2.n rx0.2.c, .int .i64 x0.seq] w9 := by rw [← hW9]; exact DBox.new 49 _ _ (rfl)
  clear hW9
  have lx0 := Dx0.lt
  have b9 := bnext b8 c9
  replace ox0 := (followerD.ow_below ox0 c9)
  replace DaF := DaF.below c9
  replace DaE := DaE.below c9
  have s9_ : w8.heap.size ≤ w9.heap.size := c9.size
  refine (toEngine_own x1 s1 _ hm1 (engineD.rd_more (engineD.rd_below h1 b9) b9.size)).mono ?_
  rintro e w10 ⟨rx1, Fx1, rfl, ox1, nx1, c10⟩
  have b10 := bnext b9 c10
  replace ox0 := (followerD.ow_below ox0 c10)
  replace DaF := DaF.below c10
  replace DaE := DaE.below c10
  replace Dx0 := Dx0.below c10
  have s10_ : w9.heap.size ≤ w10.heap.size := c10.size
  replace ox1 : engineD.ow w10 Fx1 x1 rx1 := ox1
  replace nx1 : ∀ b ∈ Fx1, w9.heap.size ≤ b := nx1
  have tx1 : ∀ b ∈ Fx1, b < w10.heap.size := (engineD.ow_lt ox1)
  have cx00 : w10.cell? ⟨w8.heap.size, 0, none⟩ = some (.int .i64 x0.yard.now) := Dx0.cell 0 _ rfl
  have cx01 : w10.cell? ⟨w8.heap.size, 1, none⟩ = some (.int .i64 x0.yard.seq) := Dx0.cell 1 _ rfl
  have cx02 : w10.cell? ⟨w8.heap.size, 2, none⟩ = some (.slice rx0.1.a rx0.1.n rx0.1.c) := Dx0.cell 2 _ rfl
  have cx03 : w10.cell? ⟨w8.heap.size, 3, none⟩ = some (.slice rx0.2.a rx0.2.n rx0.2.c) := Dx0.cell 3 _ rfl
  have cx04 : w10.cell? ⟨w8.heap.size, 4, none⟩ = some (.int .i64 x0.seq) := Dx0.cell 4 _ rfl
  have cx0s := Dx0.lt
  go_wp2_with fail
  clear cx00 cx01 cx02 cx03 cx04 cx0s
  generalize hW11 : w10.alloc (.cells #[.int .i64 x1.yard.now, .int .i64 x1.yard.seq, .slice rx1.1.1.a rx1.1.1.n rx1.1.1.c, .slice rx1.1.2.a rx1.1.2.n rx1.1.2.c, .slice rx1.2.1.a rx1.2.1.n rx1.2.1.c, .int .i64 x1.next, .int .i64 x1.calls, .slice rx1.2.2.a rx1.2.2.n rx1.2.2.c, .int .i64 x1.state, .bool x1.broken] 56) = w11
  have c11 : Below w10.heap.size w10 w11 := by rw [← hW11]; exact (Below.refl _ _).alloc (Nat.le_refl _) _
  have Dx1 : DBox (w10.heap.size) [.int .i64 x1.yard.now, .int .i64 x1.yard.seq, .slice rx1.1.1.a rx1.1.1.n rx1.1.1.c, .slice rx1.1.2.a rx1.1.2.n rx1.1.2.c, .slice rx1.2.1.a rx1.2.1.n rx1.2.1.c, .int .i64 x1.next, .int .i64 x1.calls, .slice rx1.2.2.a rx1.2.2.n rx1.2.2.c, .int .i64 x1.state, .bool x1.broken] w11 := by rw [← hW11]; exact DBox.new 56 _ _ (rfl)
  clear hW11
  have lx1 := Dx1.lt
  have b11 := bnext b10 c11
  replace ox0 := (followerD.ow_below ox0 c11)
  replace ox1 := (engineD.ow_below ox1 c11)
  replace DaF := DaF.below c11
  replace DaE := DaE.below c11
  replace Dx0 := Dx0.below c11
  have s11_ : w10.heap.size ≤ w11.heap.size := c11.size
  refine (implCaughtUp_own x0 rx0 x1 rx1 _ hm0 hm1 hw0 hw1 (followerD.ow_rd ox0) (engineD.ow_rd ox1)).mono ?_
  rintro e w12 ⟨rfl, c12⟩
  have b12 := bnext b11 c12
  replace ox0 := (followerD.ow_below ox0 c12)
  replace ox1 := (engineD.ow_below ox1 c12)
  replace DaF := DaF.below c12
  replace DaE := DaE.below c12
  replace Dx0 := Dx0.below c12
  replace Dx1 := Dx1.below c12
  have s12_ : w11.heap.size ≤ w12.heap.size := c12.size
  have cx00 : w12.cell? ⟨w8.heap.size, 0, none⟩ = some (.int .i64 x0.yard.now) := Dx0.cell 0 _ rfl
  have cx01 : w12.cell? ⟨w8.heap.size, 1, none⟩ = some (.int .i64 x0.yard.seq) := Dx0.cell 1 _ rfl
  have cx02 : w12.cell? ⟨w8.heap.size, 2, none⟩ = some (.slice rx0.1.a rx0.1.n rx0.1.c) := Dx0.cell 2 _ rfl
  have cx03 : w12.cell? ⟨w8.heap.size, 3, none⟩ = some (.slice rx0.2.a rx0.2.n rx0.2.c) := Dx0.cell 3 _ rfl
  have cx04 : w12.cell? ⟨w8.heap.size, 4, none⟩ = some (.int .i64 x0.seq) := Dx0.cell 4 _ rfl
  have caF0 : w12.cell? ⟨w.heap.size, 0, none⟩ = some (.int .i64 x0.yard.now) := DaF.cell 0 _ rfl
  have caF1 : w12.cell? ⟨w.heap.size, 1, none⟩ = some (.int .i64 x0.yard.seq) := DaF.cell 1 _ rfl
  have caF2 : w12.cell? ⟨w.heap.size, 2, none⟩ = some (.slice s0.1.a s0.1.n s0.1.c) := DaF.cell 2 _ rfl
  have caF3 : w12.cell? ⟨w.heap.size, 3, none⟩ = some (.slice s0.2.a s0.2.n s0.2.c) := DaF.cell 3 _ rfl
  have caF4 : w12.cell? ⟨w.heap.size, 4, none⟩ = some (.int .i64 x0.seq) := DaF.cell 4 _ rfl
  have cx0s := Dx0.lt
  have caFs := DaF.lt
  go_wp2_with fail
  clear cx00 cx01 cx02 cx03 cx04 cx0s caF0 caF1 caF2 caF3 caF4 caFs
  have cx00 : w12.cell? ⟨w8.heap.size, 0, none⟩ = some (.int .i64 x0.yard.now) := Dx0.cell 0 _ rfl
  have cx01 : w12.cell? ⟨w8.heap.size, 1, none⟩ = some (.int .i64 x0.yard.seq) := Dx0.cell 1 _ rfl
  have cx02 : w12.cell? ⟨w8.heap.size, 2, none⟩ = some (.slice rx0.1.a rx0.1.n rx0.1.c) := Dx0.cell 2 _ rfl
  have cx03 : w12.cell? ⟨w8.heap.size, 3, none⟩ = some (.slice rx0.2.a rx0.2.n rx0.2.c) := Dx0.cell 3 _ rfl
  have cx04 : w12.cell? ⟨w8.heap.size, 4, none⟩ = some (.int .i64 x0.seq) := Dx0.cell 4 _ rfl
  have caF0 : w12.cell? ⟨w.heap.size, 0, none⟩ = some (.int .i64 x0.yard.now) := DaF.cell 0 _ rfl
  have caF1 : w12.cell? ⟨w.heap.size, 1, none⟩ = some (.int .i64 x0.yard.seq) := DaF.cell 1 _ rfl
  have caF2 : w12.cell? ⟨w.heap.size, 2, none⟩ = some (.slice s0.1.a s0.1.n s0.1.c) := DaF.cell 2 _ rfl
  have caF3 : w12.cell? ⟨w.heap.size, 3, none⟩ = some (.slice s0.2.a s0.2.n s0.2.c) := DaF.cell 3 _ rfl
  have caF4 : w12.cell? ⟨w.heap.size, 4, none⟩ = some (.int .i64 x0.seq) := DaF.cell 4 _ rfl
  have cx0s := Dx0.lt
  have caFs := DaF.lt
  go_region_held3 (fun w' => w'.cell? ⟨w8.heap.size, 0, none⟩ = some (.int .i64 x0.yard.now) ∧ w'.cell? ⟨w8.heap.size, 1, none⟩ = some (.int .i64 x0.yard.seq) ∧ w'.cell? ⟨w8.heap.size, 2, none⟩ = some (.slice rx0.1.a rx0.1.n rx0.1.c) ∧ w'.cell? ⟨w8.heap.size, 3, none⟩ = some (.slice rx0.2.a rx0.2.n rx0.2.c) ∧ w'.cell? ⟨w8.heap.size, 4, none⟩ = some (.int .i64 x0.seq) ∧ w'.cell? ⟨w.heap.size, 0, none⟩ = some (.int .i64 x0.yard.now) ∧ w'.cell? ⟨w.heap.size, 1, none⟩ = some (.int .i64 x0.yard.seq) ∧ w'.cell? ⟨w.heap.size, 2, none⟩ = some (.slice s0.1.a s0.1.n s0.1.c) ∧ w'.cell? ⟨w.heap.size, 3, none⟩ = some (.slice s0.2.a s0.2.n s0.2.c) ∧ w'.cell? ⟨w.heap.size, 4, none⟩ = some (.int .i64 x0.seq))
    (first | (refine ⟨?_, ?_, ?_, ?_, ?_, ?_, ?_, ?_, ?_, ?_⟩ <;> first | assumption | go_keep) | go_keep)
    (first
      | (go_at_call 13; (with_reducible refine (toFollower_own x0 s0 _ hm0 (followerD.rd_more (followerD.rd_below h0 b12.drew) b12.drew.size)).mono ?_); rintro e w13 ⟨ryx0, Fyx0, rfl, oyx0, nyx0, c13⟩; have b13 := bnext b12 (bnext ((Below.refl w12.heap.size w12).drew) c13); replace ox0 := (followerD.ow_below ox0 (bnext ((Below.refl w12.heap.size w12).drew) c13)); replace ox1 := (engineD.ow_below ox1 (bnext ((Below.refl w12.heap.size w12).drew) c13)); replace DaF := DaF.below (bnext ((Below.refl w12.heap.size w12).drew) c13); replace DaE := DaE.below (bnext ((Below.refl w12.heap.size w12).drew) c13); replace Dx0 := Dx0.below (bnext ((Below.refl w12.heap.size w12).drew) c13); replace Dx1 := Dx1.below (bnext ((Below.refl w12.heap.size w12).drew) c13); have s13_ : w12.heap.size ≤ w13.heap.size := c13.size; replace oyx0 : followerD.ow w13 Fyx0 x0 ryx0 := oyx0; replace nyx0 : ∀ b ∈ Fyx0, w12.heap.size ≤ b := nyx0; have tyx0 : ∀ b ∈ Fyx0, b < w13.heap.size := (followerD.ow_lt oyx0); have Xx00 : w13.cell? ⟨w8.heap.size, 0, none⟩ = some (.int .i64 x0.yard.now) := Dx0.cell 0 _ rfl; have Xx01 : w13.cell? ⟨w8.heap.size, 1, none⟩ = some (.int .i64 x0.yard.seq) := Dx0.cell 1 _ rfl; have Xx02 : w13.cell? ⟨w8.heap.size, 2, none⟩ = some (.slice rx0.1.a rx0.1.n rx0.1.c) := Dx0.cell 2 _ rfl; have Xx03 : w13.cell? ⟨w8.heap.size, 3, none⟩ = some (.slice rx0.2.a rx0.2.n rx0.2.c) := Dx0.cell 3 _ rfl; have Xx04 : w13.cell? ⟨w8.heap.size, 4, none⟩ = some (.int .i64 x0.seq) := Dx0.cell 4 _ rfl; have XaF0 : w13.cell? ⟨w.heap.size, 0, none⟩ = some (.int .i64 x0.yard.now) := DaF.cell 0 _ rfl; have XaF1 : w13.cell? ⟨w.heap.size, 1, none⟩ = some (.int .i64 x0.yard.seq) := DaF.cell 1 _ rfl; have XaF2 : w13.cell? ⟨w.heap.size, 2, none⟩ = some (.slice s0.1.a s0.1.n s0.1.c) := DaF.cell 2 _ rfl; have XaF3 : w13.cell? ⟨w.heap.size, 3, none⟩ = some (.slice s0.2.a s0.2.n s0.2.c) := DaF.cell 3 _ rfl; have XaF4 : w13.cell? ⟨w.heap.size, 4, none⟩ = some (.int .i64 x0.seq) := DaF.cell 4 _ rfl; have Xx0s := Dx0.lt; have XaFs := DaF.lt)
      | (go_at_call 16; (with_reducible refine (eqFollower_own x0 x0 rx0 ryx0 _ hm0 hm0 (followerD.ow_rd ox0) (followerD.ow_rd oyx0)).mono ?_); rintro e w14 ⟨rfl, c14⟩; have b14 := bnext b13 c14; replace ox0 := (followerD.ow_below ox0 c14); replace ox1 := (engineD.ow_below ox1 c14); replace oyx0 := (followerD.ow_below oyx0 c14); replace DaF := DaF.below c14; replace DaE := DaE.below c14; replace Dx0 := Dx0.below c14; replace Dx1 := Dx1.below c14; have s14_ : w13.heap.size ≤ w14.heap.size := c14.size; clear oyx0 nyx0 tyx0; have X1x00 : w14.cell? ⟨w8.heap.size, 0, none⟩ = some (.int .i64 x0.yard.now) := Dx0.cell 0 _ rfl; have X1x01 : w14.cell? ⟨w8.heap.size, 1, none⟩ = some (.int .i64 x0.yard.seq) := Dx0.cell 1 _ rfl; have X1x02 : w14.cell? ⟨w8.heap.size, 2, none⟩ = some (.slice rx0.1.a rx0.1.n rx0.1.c) := Dx0.cell 2 _ rfl; have X1x03 : w14.cell? ⟨w8.heap.size, 3, none⟩ = some (.slice rx0.2.a rx0.2.n rx0.2.c) := Dx0.cell 3 _ rfl; have X1x04 : w14.cell? ⟨w8.heap.size, 4, none⟩ = some (.int .i64 x0.seq) := Dx0.cell 4 _ rfl; have X1aF0 : w14.cell? ⟨w.heap.size, 0, none⟩ = some (.int .i64 x0.yard.now) := DaF.cell 0 _ rfl; have X1aF1 : w14.cell? ⟨w.heap.size, 1, none⟩ = some (.int .i64 x0.yard.seq) := DaF.cell 1 _ rfl; have X1aF2 : w14.cell? ⟨w.heap.size, 2, none⟩ = some (.slice s0.1.a s0.1.n s0.1.c) := DaF.cell 2 _ rfl; have X1aF3 : w14.cell? ⟨w.heap.size, 3, none⟩ = some (.slice s0.2.a s0.2.n s0.2.c) := DaF.cell 3 _ rfl; have X1aF4 : w14.cell? ⟨w.heap.size, 4, none⟩ = some (.int .i64 x0.seq) := DaF.cell 4 _ rfl; have X1x0s := Dx0.lt; have X1aFs := DaF.lt))
  clear cx00 cx01 cx02 cx03 cx04 cx0s caF0 caF1 caF2 caF3 caF4 caFs
  clear Xx00 Xx01 Xx02 Xx03 Xx04 Xx0s XaF0 XaF1 XaF2 XaF3 XaF4 XaFs
  clear X1x00 X1x01 X1x02 X1x03 X1x04 X1x0s X1aF0 X1aF1 X1aF2 X1aF3 X1aF4 X1aFs
  have cx10 : w14.cell? ⟨w10.heap.size, 0, none⟩ = some (.int .i64 x1.yard.now) := Dx1.cell 0 _ rfl
  have cx11 : w14.cell? ⟨w10.heap.size, 1, none⟩ = some (.int .i64 x1.yard.seq) := Dx1.cell 1 _ rfl
  have cx12 : w14.cell? ⟨w10.heap.size, 2, none⟩ = some (.slice rx1.1.1.a rx1.1.1.n rx1.1.1.c) := Dx1.cell 2 _ rfl
  have cx13 : w14.cell? ⟨w10.heap.size, 3, none⟩ = some (.slice rx1.1.2.a rx1.1.2.n rx1.1.2.c) := Dx1.cell 3 _ rfl
  have cx14 : w14.cell? ⟨w10.heap.size, 4, none⟩ = some (.slice rx1.2.1.a rx1.2.1.n rx1.2.1.c) := Dx1.cell 4 _ rfl
  have cx15 : w14.cell? ⟨w10.heap.size, 5, none⟩ = some (.int .i64 x1.next) := Dx1.cell 5 _ rfl
  have cx16 : w14.cell? ⟨w10.heap.size, 6, none⟩ = some (.int .i64 x1.calls) := Dx1.cell 6 _ rfl
  have cx17 : w14.cell? ⟨w10.heap.size, 7, none⟩ = some (.slice rx1.2.2.a rx1.2.2.n rx1.2.2.c) := Dx1.cell 7 _ rfl
  have cx18 : w14.cell? ⟨w10.heap.size, 8, none⟩ = some (.int .i64 x1.state) := Dx1.cell 8 _ rfl
  have cx19 : w14.cell? ⟨w10.heap.size, 9, none⟩ = some (.bool x1.broken) := Dx1.cell 9 _ rfl
  have caE0 : w14.cell? ⟨w.heap.size + 1, 0, none⟩ = some (.int .i64 x1.yard.now) := DaE.cell 0 _ rfl
  have caE1 : w14.cell? ⟨w.heap.size + 1, 1, none⟩ = some (.int .i64 x1.yard.seq) := DaE.cell 1 _ rfl
  have caE2 : w14.cell? ⟨w.heap.size + 1, 2, none⟩ = some (.slice s1.1.1.a s1.1.1.n s1.1.1.c) := DaE.cell 2 _ rfl
  have caE3 : w14.cell? ⟨w.heap.size + 1, 3, none⟩ = some (.slice s1.1.2.a s1.1.2.n s1.1.2.c) := DaE.cell 3 _ rfl
  have caE4 : w14.cell? ⟨w.heap.size + 1, 4, none⟩ = some (.slice s1.2.1.a s1.2.1.n s1.2.1.c) := DaE.cell 4 _ rfl
  have caE5 : w14.cell? ⟨w.heap.size + 1, 5, none⟩ = some (.int .i64 x1.next) := DaE.cell 5 _ rfl
  have caE6 : w14.cell? ⟨w.heap.size + 1, 6, none⟩ = some (.int .i64 x1.calls) := DaE.cell 6 _ rfl
  have caE7 : w14.cell? ⟨w.heap.size + 1, 7, none⟩ = some (.slice s1.2.2.a s1.2.2.n s1.2.2.c) := DaE.cell 7 _ rfl
  have caE8 : w14.cell? ⟨w.heap.size + 1, 8, none⟩ = some (.int .i64 x1.state) := DaE.cell 8 _ rfl
  have caE9 : w14.cell? ⟨w.heap.size + 1, 9, none⟩ = some (.bool x1.broken) := DaE.cell 9 _ rfl
  have cx1s := Dx1.lt
  have caEs := DaE.lt
  go_wp2_with fail
  clear cx10 cx11 cx12 cx13 cx14 cx15 cx16 cx17 cx18 cx19 cx1s caE0 caE1 caE2 caE3 caE4 caE5 caE6 caE7 caE8 caE9 caEs
  have cx10 : w14.cell? ⟨w10.heap.size, 0, none⟩ = some (.int .i64 x1.yard.now) := Dx1.cell 0 _ rfl
  have cx11 : w14.cell? ⟨w10.heap.size, 1, none⟩ = some (.int .i64 x1.yard.seq) := Dx1.cell 1 _ rfl
  have cx12 : w14.cell? ⟨w10.heap.size, 2, none⟩ = some (.slice rx1.1.1.a rx1.1.1.n rx1.1.1.c) := Dx1.cell 2 _ rfl
  have cx13 : w14.cell? ⟨w10.heap.size, 3, none⟩ = some (.slice rx1.1.2.a rx1.1.2.n rx1.1.2.c) := Dx1.cell 3 _ rfl
  have cx14 : w14.cell? ⟨w10.heap.size, 4, none⟩ = some (.slice rx1.2.1.a rx1.2.1.n rx1.2.1.c) := Dx1.cell 4 _ rfl
  have cx15 : w14.cell? ⟨w10.heap.size, 5, none⟩ = some (.int .i64 x1.next) := Dx1.cell 5 _ rfl
  have cx16 : w14.cell? ⟨w10.heap.size, 6, none⟩ = some (.int .i64 x1.calls) := Dx1.cell 6 _ rfl
  have cx17 : w14.cell? ⟨w10.heap.size, 7, none⟩ = some (.slice rx1.2.2.a rx1.2.2.n rx1.2.2.c) := Dx1.cell 7 _ rfl
  have cx18 : w14.cell? ⟨w10.heap.size, 8, none⟩ = some (.int .i64 x1.state) := Dx1.cell 8 _ rfl
  have cx19 : w14.cell? ⟨w10.heap.size, 9, none⟩ = some (.bool x1.broken) := Dx1.cell 9 _ rfl
  have caE0 : w14.cell? ⟨w.heap.size + 1, 0, none⟩ = some (.int .i64 x1.yard.now) := DaE.cell 0 _ rfl
  have caE1 : w14.cell? ⟨w.heap.size + 1, 1, none⟩ = some (.int .i64 x1.yard.seq) := DaE.cell 1 _ rfl
  have caE2 : w14.cell? ⟨w.heap.size + 1, 2, none⟩ = some (.slice s1.1.1.a s1.1.1.n s1.1.1.c) := DaE.cell 2 _ rfl
  have caE3 : w14.cell? ⟨w.heap.size + 1, 3, none⟩ = some (.slice s1.1.2.a s1.1.2.n s1.1.2.c) := DaE.cell 3 _ rfl
  have caE4 : w14.cell? ⟨w.heap.size + 1, 4, none⟩ = some (.slice s1.2.1.a s1.2.1.n s1.2.1.c) := DaE.cell 4 _ rfl
  have caE5 : w14.cell? ⟨w.heap.size + 1, 5, none⟩ = some (.int .i64 x1.next) := DaE.cell 5 _ rfl
  have caE6 : w14.cell? ⟨w.heap.size + 1, 6, none⟩ = some (.int .i64 x1.calls) := DaE.cell 6 _ rfl
  have caE7 : w14.cell? ⟨w.heap.size + 1, 7, none⟩ = some (.slice s1.2.2.a s1.2.2.n s1.2.2.c) := DaE.cell 7 _ rfl
  have caE8 : w14.cell? ⟨w.heap.size + 1, 8, none⟩ = some (.int .i64 x1.state) := DaE.cell 8 _ rfl
  have caE9 : w14.cell? ⟨w.heap.size + 1, 9, none⟩ = some (.bool x1.broken) := DaE.cell 9 _ rfl
  have cx1s := Dx1.lt
  have caEs := DaE.lt
  go_region_held3 (fun w' => w'.cell? ⟨w10.heap.size, 0, none⟩ = some (.int .i64 x1.yard.now) ∧ w'.cell? ⟨w10.heap.size, 1, none⟩ = some (.int .i64 x1.yard.seq) ∧ w'.cell? ⟨w10.heap.size, 2, none⟩ = some (.slice rx1.1.1.a rx1.1.1.n rx1.1.1.c) ∧ w'.cell? ⟨w10.heap.size, 3, none⟩ = some (.slice rx1.1.2.a rx1.1.2.n rx1.1.2.c) ∧ w'.cell? ⟨w10.heap.size, 4, none⟩ = some (.slice rx1.2.1.a rx1.2.1.n rx1.2.1.c) ∧ w'.cell? ⟨w10.heap.size, 5, none⟩ = some (.int .i64 x1.next) ∧ w'.cell? ⟨w10.heap.size, 6, none⟩ = some (.int .i64 x1.calls) ∧ w'.cell? ⟨w10.heap.size, 7, none⟩ = some (.slice rx1.2.2.a rx1.2.2.n rx1.2.2.c) ∧ w'.cell? ⟨w10.heap.size, 8, none⟩ = some (.int .i64 x1.state) ∧ w'.cell? ⟨w10.heap.size, 9, none⟩ = some (.bool x1.broken) ∧ w'.cell? ⟨w.heap.size + 1, 0, none⟩ = some (.int .i64 x1.yard.now) ∧ w'.cell? ⟨w.heap.size + 1, 1, none⟩ = some (.int .i64 x1.yard.seq) ∧ w'.cell? ⟨w.heap.size + 1, 2, none⟩ = some (.slice s1.1.1.a s1.1.1.n s1.1.1.c) ∧ w'.cell? ⟨w.heap.size + 1, 3, none⟩ = some (.slice s1.1.2.a s1.1.2.n s1.1.2.c) ∧ w'.cell? ⟨w.heap.size + 1, 4, none⟩ = some (.slice s1.2.1.a s1.2.1.n s1.2.1.c) ∧ w'.cell? ⟨w.heap.size + 1, 5, none⟩ = some (.int .i64 x1.next) ∧ w'.cell? ⟨w.heap.size + 1, 6, none⟩ = some (.int .i64 x1.calls) ∧ w'.cell? ⟨w.heap.size + 1, 7, none⟩ = some (.slice s1.2.2.a s1.2.2.n s1.2.2.c) ∧ w'.cell? ⟨w.heap.size + 1, 8, none⟩ = some (.int .i64 x1.state) ∧ w'.cell? ⟨w.heap.size + 1, 9, none⟩ = some (.bool x1.broken))
    (first | (refine ⟨?_, ?_, ?_, ?_, ?_, ?_, ?_, ?_, ?_, ?_, ?_, ?_, ?_, ?_, ?_, ?_, ?_, ?_, ?_, ?_⟩ <;> first | assumption | go_keep) | go_keep)
    (first
      | (go_at_call 14; (with_reducible refine (toEngine_own x1 s1 _ hm1 (engineD.rd_more (engineD.rd_below h1 b14.drew) b14.drew.size)).mono ?_); rintro e w15 ⟨ryx1, Fyx1, rfl, oyx1, nyx1, c15⟩; have b15 := bnext b14 (bnext ((Below.refl w14.heap.size w14).drew) c15); replace ox0 := (followerD.ow_below ox0 (bnext ((Below.refl w14.heap.size w14).drew) c15)); replace ox1 := (engineD.ow_below ox1 (bnext ((Below.refl w14.heap.size w14).drew) c15)); replace DaF := DaF.below (bnext ((Below.refl w14.heap.size w14).drew) c15); replace DaE := DaE.below (bnext ((Below.refl w14.heap.size w14).drew) c15); replace Dx0 := Dx0.below (bnext ((Below.refl w14.heap.size w14).drew) c15); replace Dx1 := Dx1.below (bnext ((Below.refl w14.heap.size w14).drew) c15); have s15_ : w14.heap.size ≤ w15.heap.size := c15.size; replace oyx1 : engineD.ow w15 Fyx1 x1 ryx1 := oyx1; replace nyx1 : ∀ b ∈ Fyx1, w14.heap.size ≤ b := nyx1; have tyx1 : ∀ b ∈ Fyx1, b < w15.heap.size := (engineD.ow_lt oyx1); have Xx10 : w15.cell? ⟨w10.heap.size, 0, none⟩ = some (.int .i64 x1.yard.now) := Dx1.cell 0 _ rfl; have Xx11 : w15.cell? ⟨w10.heap.size, 1, none⟩ = some (.int .i64 x1.yard.seq) := Dx1.cell 1 _ rfl; have Xx12 : w15.cell? ⟨w10.heap.size, 2, none⟩ = some (.slice rx1.1.1.a rx1.1.1.n rx1.1.1.c) := Dx1.cell 2 _ rfl; have Xx13 : w15.cell? ⟨w10.heap.size, 3, none⟩ = some (.slice rx1.1.2.a rx1.1.2.n rx1.1.2.c) := Dx1.cell 3 _ rfl; have Xx14 : w15.cell? ⟨w10.heap.size, 4, none⟩ = some (.slice rx1.2.1.a rx1.2.1.n rx1.2.1.c) := Dx1.cell 4 _ rfl; have Xx15 : w15.cell? ⟨w10.heap.size, 5, none⟩ = some (.int .i64 x1.next) := Dx1.cell 5 _ rfl; have Xx16 : w15.cell? ⟨w10.heap.size, 6, none⟩ = some (.int .i64 x1.calls) := Dx1.cell 6 _ rfl; have Xx17 : w15.cell? ⟨w10.heap.size, 7, none⟩ = some (.slice rx1.2.2.a rx1.2.2.n rx1.2.2.c) := Dx1.cell 7 _ rfl; have Xx18 : w15.cell? ⟨w10.heap.size, 8, none⟩ = some (.int .i64 x1.state) := Dx1.cell 8 _ rfl; have Xx19 : w15.cell? ⟨w10.heap.size, 9, none⟩ = some (.bool x1.broken) := Dx1.cell 9 _ rfl; have XaE0 : w15.cell? ⟨w.heap.size + 1, 0, none⟩ = some (.int .i64 x1.yard.now) := DaE.cell 0 _ rfl; have XaE1 : w15.cell? ⟨w.heap.size + 1, 1, none⟩ = some (.int .i64 x1.yard.seq) := DaE.cell 1 _ rfl; have XaE2 : w15.cell? ⟨w.heap.size + 1, 2, none⟩ = some (.slice s1.1.1.a s1.1.1.n s1.1.1.c) := DaE.cell 2 _ rfl; have XaE3 : w15.cell? ⟨w.heap.size + 1, 3, none⟩ = some (.slice s1.1.2.a s1.1.2.n s1.1.2.c) := DaE.cell 3 _ rfl; have XaE4 : w15.cell? ⟨w.heap.size + 1, 4, none⟩ = some (.slice s1.2.1.a s1.2.1.n s1.2.1.c) := DaE.cell 4 _ rfl; have XaE5 : w15.cell? ⟨w.heap.size + 1, 5, none⟩ = some (.int .i64 x1.next) := DaE.cell 5 _ rfl; have XaE6 : w15.cell? ⟨w.heap.size + 1, 6, none⟩ = some (.int .i64 x1.calls) := DaE.cell 6 _ rfl; have XaE7 : w15.cell? ⟨w.heap.size + 1, 7, none⟩ = some (.slice s1.2.2.a s1.2.2.n s1.2.2.c) := DaE.cell 7 _ rfl; have XaE8 : w15.cell? ⟨w.heap.size + 1, 8, none⟩ = some (.int .i64 x1.state) := DaE.cell 8 _ rfl; have XaE9 : w15.cell? ⟨w.heap.size + 1, 9, none⟩ = some (.bool x1.broken) := DaE.cell 9 _ rfl; have Xx1s := Dx1.lt; have XaEs := DaE.lt)
      | (go_at_call 17; (with_reducible refine (eqEngine_own x1 x1 rx1 ryx1 _ hm1 hm1 (engineD.ow_rd ox1) (engineD.ow_rd oyx1)).mono ?_); rintro e w16 ⟨rfl, c16⟩; have b16 := bnext b15 c16; replace ox0 := (followerD.ow_below ox0 c16); replace ox1 := (engineD.ow_below ox1 c16); replace oyx1 := (engineD.ow_below oyx1 c16); replace DaF := DaF.below c16; replace DaE := DaE.below c16; replace Dx0 := Dx0.below c16; replace Dx1 := Dx1.below c16; have s16_ : w15.heap.size ≤ w16.heap.size := c16.size; clear oyx1 nyx1 tyx1; have X1x10 : w16.cell? ⟨w10.heap.size, 0, none⟩ = some (.int .i64 x1.yard.now) := Dx1.cell 0 _ rfl; have X1x11 : w16.cell? ⟨w10.heap.size, 1, none⟩ = some (.int .i64 x1.yard.seq) := Dx1.cell 1 _ rfl; have X1x12 : w16.cell? ⟨w10.heap.size, 2, none⟩ = some (.slice rx1.1.1.a rx1.1.1.n rx1.1.1.c) := Dx1.cell 2 _ rfl; have X1x13 : w16.cell? ⟨w10.heap.size, 3, none⟩ = some (.slice rx1.1.2.a rx1.1.2.n rx1.1.2.c) := Dx1.cell 3 _ rfl; have X1x14 : w16.cell? ⟨w10.heap.size, 4, none⟩ = some (.slice rx1.2.1.a rx1.2.1.n rx1.2.1.c) := Dx1.cell 4 _ rfl; have X1x15 : w16.cell? ⟨w10.heap.size, 5, none⟩ = some (.int .i64 x1.next) := Dx1.cell 5 _ rfl; have X1x16 : w16.cell? ⟨w10.heap.size, 6, none⟩ = some (.int .i64 x1.calls) := Dx1.cell 6 _ rfl; have X1x17 : w16.cell? ⟨w10.heap.size, 7, none⟩ = some (.slice rx1.2.2.a rx1.2.2.n rx1.2.2.c) := Dx1.cell 7 _ rfl; have X1x18 : w16.cell? ⟨w10.heap.size, 8, none⟩ = some (.int .i64 x1.state) := Dx1.cell 8 _ rfl; have X1x19 : w16.cell? ⟨w10.heap.size, 9, none⟩ = some (.bool x1.broken) := Dx1.cell 9 _ rfl; have X1aE0 : w16.cell? ⟨w.heap.size + 1, 0, none⟩ = some (.int .i64 x1.yard.now) := DaE.cell 0 _ rfl; have X1aE1 : w16.cell? ⟨w.heap.size + 1, 1, none⟩ = some (.int .i64 x1.yard.seq) := DaE.cell 1 _ rfl; have X1aE2 : w16.cell? ⟨w.heap.size + 1, 2, none⟩ = some (.slice s1.1.1.a s1.1.1.n s1.1.1.c) := DaE.cell 2 _ rfl; have X1aE3 : w16.cell? ⟨w.heap.size + 1, 3, none⟩ = some (.slice s1.1.2.a s1.1.2.n s1.1.2.c) := DaE.cell 3 _ rfl; have X1aE4 : w16.cell? ⟨w.heap.size + 1, 4, none⟩ = some (.slice s1.2.1.a s1.2.1.n s1.2.1.c) := DaE.cell 4 _ rfl; have X1aE5 : w16.cell? ⟨w.heap.size + 1, 5, none⟩ = some (.int .i64 x1.next) := DaE.cell 5 _ rfl; have X1aE6 : w16.cell? ⟨w.heap.size + 1, 6, none⟩ = some (.int .i64 x1.calls) := DaE.cell 6 _ rfl; have X1aE7 : w16.cell? ⟨w.heap.size + 1, 7, none⟩ = some (.slice s1.2.2.a s1.2.2.n s1.2.2.c) := DaE.cell 7 _ rfl; have X1aE8 : w16.cell? ⟨w.heap.size + 1, 8, none⟩ = some (.int .i64 x1.state) := DaE.cell 8 _ rfl; have X1aE9 : w16.cell? ⟨w.heap.size + 1, 9, none⟩ = some (.bool x1.broken) := DaE.cell 9 _ rfl; have X1x1s := Dx1.lt; have X1aEs := DaE.lt))
  clear cx10 cx11 cx12 cx13 cx14 cx15 cx16 cx17 cx18 cx19 cx1s caE0 caE1 caE2 caE3 caE4 caE5 caE6 caE7 caE8 caE9 caEs
  clear Xx10 Xx11 Xx12 Xx13 Xx14 Xx15 Xx16 Xx17 Xx18 Xx19 Xx1s XaE0 XaE1 XaE2 XaE3 XaE4 XaE5 XaE6 XaE7 XaE8 XaE9 XaEs
  clear X1x10 X1x11 X1x12 X1x13 X1x14 X1x15 X1x16 X1x17 X1x18 X1x19 X1x1s X1aE0 X1aE1 X1aE2 X1aE3 X1aE4 X1aE5 X1aE6 X1aE7 X1aE8 X1aE9 X1aEs
  go_wp2_with fail
  go_ret
  exact ⟨rfl, b16⟩
end Go.Proofs.Ytjobmbjadpldfaa
