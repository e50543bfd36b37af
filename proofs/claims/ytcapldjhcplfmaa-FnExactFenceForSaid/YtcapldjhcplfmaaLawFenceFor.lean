/-
  The law FnExactFenceFor: its walk, out of the contracts of what it calls. Written by program (lawdeep.py).
-/
import Derived.Test.YtcapldjhcplfmaaFf
import Derived.Test.YtcapldjhcplfmaaTFence
import Derived.Test.YtcapldjhcplfmaaDb
import Derived.Deep.RegionHeld3
namespace Go.Proofs.Ytcapldjhcplfmaa
open Go.RowKit
set_option maxRecDepth 100000
set_option maxHeartbeats 2000000
set_option linter.unusedVariables false

theorem lawFenceFor_walk (x0 : Yard) (s0 : Sl × Sl) (n1 : Int) (n2 : Int) (n3 : ByteArray) (w : World) (hw0 : wfYard x0) (h0 : yardD.rd w w.heap.size x0 s0) (hw1 : Wf n1) (hw2 : Wf n2) (hw3 : n3.size ≤ maxLen) :
    Calls Try.prog 7 #[yardW x0 s0, .int .i64 n1, .int .i64 n2, .string n3] w fun e w' => e = .returned (.bool true) ∧ Below w.heap.size w w' := by
  have b0 := Below.refl w.heap.size w
  by_cases hbig3 : (1048576 : Int) < (n3.size : Int)
  · go_enter Try.func7, Try.ntmps7
    go_wp2
    go_ret
    exact ⟨rfl, by repeat (first | exact Below.refl _ _ | refine Below.alloc ?_ (by simp <;> omega) _)⟩
  go_enter Try.func7, Try.ntmps7
  go_wp2_with fail
  generalize hW1 : w.alloc (.cells #[.int .i64 x0.now, .int .i64 x0.seq, .slice s0.1.a s0.1.n s0.1.c, .slice s0.2.a s0.2.n s0.2.c] 53) = w1
  have c1 : Below w.heap.size w w1 := by rw [← hW1]; exact (Below.refl _ _).alloc (Nat.le_refl _) _
  have DaY : DBox (w.heap.size) [.int .i64 x0.now, .int .i64 x0.seq, .slice s0.1.a s0.1.n s0.1.c, .slice s0.2.a s0.2.n s0.2.c] w1 := by rw [← hW1]; exact DBox.new 53 _ _ (rfl)
  clear hW1
  have laY := DaY.lt
  have b1 := bnext b0 c1
  have s1_ : w.heap.size ≤ w1.heap.size := c1.size
  refine (szYard_own x0 s0 _ _ (by omega) (by omega) hw0 (yardD.rd_more (yardD.rd_below h0 b1) b1.size)).mono ?_
  rintro e w2 ⟨r2, rfl, hr2, c2⟩
  have b2 := bnext b1 c2
  replace DaY := DaY.below c2
  have s2_ : w1.heap.size ≤ w2.heap.size := c2.size
  rcases hr2 with rfl | ⟨q2, z2⟩
  · go_wp2_with fail
    go_ret
    exact ⟨rfl, b2⟩
  have qb2 : decide (r2 < 0) = false := by simpa using q2
  have hm0 : cntYard x0 ≤ 2000000 := by omega
  have hmr : cntFence ((fenceFor x0 n1 n2 n3).1) ≤ 2000000 := by simp [cntFence]
  have caY0 : w2.cell? ⟨w.heap.size, 0, none⟩ = some (.int .i64 x0.now) := DaY.cell 0 _ rfl
  have caY1 : w2.cell? ⟨w.heap.size, 1, none⟩ = some (.int .i64 x0.seq) := DaY.cell 1 _ rfl
  have caY2 : w2.cell? ⟨w.heap.size, 2, none⟩ = some (.slice s0.1.a s0.1.n s0.1.c) := DaY.cell 2 _ rfl
  have caY3 : w2.cell? ⟨w.heap.size, 3, none⟩ = some (.slice s0.2.a s0.2.n s0.2.c) := DaY.cell 3 _ rfl
  have caYs := DaY.lt
  go_wp2_with fail
  clear caY0 caY1 caY2 caY3 caYs
  refine (toYard_own x0 s0 _ hm0 (yardD.rd_more (yardD.rd_below h0 b2) b2.size)).mono ?_
  rintro e w3 ⟨rw0s0, Fw0s0, rfl, ow0s0, nw0s0, c3⟩
  have b3 := bnext b2 c3
  replace DaY := DaY.below c3
  have s3_ : w2.heap.size ≤ w3.heap.size := c3.size
  replace ow0s0 : yardD.ow w3 Fw0s0 x0 rw0s0 := ow0s0
  replace nw0s0 : ∀ b ∈ Fw0s0, w2.heap.size ≤ b := nw0s0
  have tw0s0 : ∀ b ∈ Fw0s0, b < w3.heap.size := (yardD.ow_lt ow0s0)
  go_wp2_with fail
  refine (specFenceFor_own x0 rw0s0 n1 n2 n3 _ hm0 (yardD.ow_rd ow0s0)).mono ?_
  rintro e w4 ⟨rfl, c4⟩
  have b4 := bnext b3 c4
  replace ow0s0 := (yardD.ow_below ow0s0 c4)
  replace DaY := DaY.below c4
  have s4_ : w3.heap.size ≤ w4.heap.size := c4.size
  obtain ⟨Fw0, Ew0⟩ : ∃ F : List Nat, F = [] := ⟨_, rfl⟩
  have ow0 : fenceD.ow w4 Fw0 (fenceFor x0 n1 n2 n3).1 () := Ew0
  have nw0 : ∀ b ∈ Fw0, w3.heap.size ≤ b := by rw [Ew0]; intro b hb; cases hb
  obtain ⟨rw0, Rw0⟩ : ∃ r : Unit, r = () := ⟨_, rfl⟩
  replace ow0 : fenceD.ow w4 Fw0 ((fenceFor x0 n1 n2 n3).1) rw0 := ow0
  replace nw0 : ∀ b ∈ Fw0, w3.heap.size ≤ b := nw0
  have tw0 : ∀ b ∈ Fw0, b < w4.heap.size := (fun b hb => by rw [show Fw0 = [] from ow0] at hb; cases hb)
  clear ow0s0 nw0s0 tw0s0
  have caY0 : w4.cell? ⟨w.heap.size, 0, none⟩ = some (.int .i64 x0.now) := DaY.cell 0 _ rfl
  have caY1 : w4.cell? ⟨w.heap.size, 1, none⟩ = some (.int .i64 x0.seq) := DaY.cell 1 _ rfl
  have caY2 : w4.cell? ⟨w.heap.size, 2, none⟩ = some (.slice s0.1.a s0.1.n s0.1.c) := DaY.cell 2 _ rfl
  have caY3 : w4.cell? ⟨w.heap.size, 3, none⟩ = some (.slice s0.2.a s0.2.n s0.2.c) := DaY.cell 3 _ rfl
  have caYs := DaY.lt
  go_wp2_with fail
  clear caY0 caY1 caY2 caY3 caYs
  generalize hW5 : w4.alloc (.cells #[.int .i64 ((fenceFor x0 n1 n2 n3).1).run, .int .i64 ((fenceFor x0 n1 n2 n3).1).task, .int .i64 ((fenceFor x0 n1 n2 n3).1).try_, .string ((fenceFor x0 n1 n2 n3).1).text] 56) = w5
  have c5 : Below w4.heap.size w4 w5 := by rw [← hW5]; exact (Below.refl _ _).alloc (Nat.le_refl _) _
  have Dw0 : DBox (w4.heap.size) [.int .i64 ((fenceFor x0 n1 n2 n3).1).run, .int .i64 ((fenceFor x0 n1 n2 n3).1).task, .int .i64 ((fenceFor x0 n1 n2 n3).1).try_, .string ((fenceFor x0 n1 n2 n3).1).text] w5 := by rw [← hW5]; exact DBox.new 56 _ _ (rfl)
  clear hW5
  have lw0 := Dw0.lt
  have b5 := bnext b4 c5
  replace ow0 := ow0
  replace DaY := DaY.below c5
  have s5_ : w4.heap.size ≤ w5.heap.size := c5.size
  refine (toYard_own x0 s0 _ hm0 (yardD.rd_more (yardD.rd_below h0 b5) b5.size)).mono ?_
  rintro e w6 ⟨rx0, Fx0, rfl, ox0, nx0, c6⟩
  have b6 := bnext b5 c6
  replace ow0 := ow0
  replace DaY := DaY.below c6
  replace Dw0 := Dw0.below c6
  have s6_ : w5.heap.size ≤ w6.heap.size := c6.size
  replace ox0 : yardD.ow w6 Fx0 x0 rx0 := ox0
  replace nx0 : ∀ b ∈ Fx0, w5.heap.size ≤ b := nx0
  have tx0 : ∀ b ∈ Fx0, b < w6.heap.size := (yardD.ow_lt ox0)
  go_wp2_with fail
  generalize hW7 : w6.alloc (.cells #[.int .i64 x0.now, .int .i64 x0.seq, .slice rx0.1.a rx0.1.n rx0.1.c, .slice rx0.2.a rx0.2.n rx0.2.c] 62) = w7
  have c7 : Below w6.heap.size w6 w7 := by rw [← hW7]; exact (Below.refl _ _).alloc (Nat.le_refl _) _
  have Dx0 : DBox (w6.heap.size) [.int .i64 x0.now, .int .i64 x0.seq, .slice rx0.1.a rx0.1.n rx0.1.c, .slice rx0.2.a rx0.2.n rx0.2.c] w7 := by rw [← hW7]; exact DBox.new 62 _ _ (rfl)
  clear hW7
  have lx0 := Dx0.lt
  have b7 := bnext b6 c7
  replace ow0 := ow0
  replace ox0 := (yardD.ow_below ox0 c7)
  replace DaY := DaY.below c7
  replace Dw0 := Dw0.below c7
  have s7_ : w6.heap.size ≤ w7.heap.size := c7.size
  refine (implFenceFor_own x0 rx0 n1 n2 n3 _ hm0 (yardD.ow_rd ox0)).mono ?_
  rintro e w8 ⟨rfl, c8⟩
  have b8 := bnext b7 c8
  replace ow0 := ow0
  replace ox0 := (yardD.ow_below ox0 c8)
  replace DaY := DaY.below c8
  replace Dw0 := Dw0.below c8
  replace Dx0 := Dx0.below c8
  have s8_ : w7.heap.size ≤ w8.heap.size := c8.size
  obtain ⟨Fg0, Eg0⟩ : ∃ F : List Nat, F = [] := ⟨_, rfl⟩
  have og0 : fenceD.ow w8 Fg0 (fenceFor x0 n1 n2 n3).1 () := Eg0
  have ng0 : ∀ b ∈ Fg0, w7.heap.size ≤ b := by rw [Eg0]; intro b hb; cases hb
  obtain ⟨rg0, Rg0⟩ : ∃ r : Unit, r = () := ⟨_, rfl⟩
  replace og0 : fenceD.ow w8 Fg0 ((fenceFor x0 n1 n2 n3).1) rg0 := og0
  replace ng0 : ∀ b ∈ Fg0, w7.heap.size ≤ b := ng0
  have tg0 : ∀ b ∈ Fg0, b < w8.heap.size := (fun b hb => by rw [show Fg0 = [] from og0] at hb; cases hb)
  have cw00 : w8.cell? ⟨w4.heap.size, 0, none⟩ = some (.int .i64 ((fenceFor x0 n1 n2 n3).1).run) := Dw0.cell 0 _ rfl
  have cw01 : w8.cell? ⟨w4.heap.size, 1, none⟩ = some (.int .i64 ((fenceFor x0 n1 n2 n3).1).task) := Dw0.cell 1 _ rfl
  have cw02 : w8.cell? ⟨w4.heap.size, 2, none⟩ = some (.int .i64 ((fenceFor x0 n1 n2 n3).1).try_) := Dw0.cell 2 _ rfl
  have cw03 : w8.cell? ⟨w4.heap.size, 3, none⟩ = some (.string ((fenceFor x0 n1 n2 n3).1).text) := Dw0.cell 3 _ rfl
  have cw0s := Dw0.lt
  go_wp2_with fail
  clear cw00 cw01 cw02 cw03 cw0s
  generalize hW9 : w8.alloc (.cells #[.int .i64 ((fenceFor x0 n1 n2 n3).1).run, .int .i64 ((fenceFor x0 n1 n2 n3).1).task, .int .i64 ((fenceFor x0 n1 n2 n3).1).try_, .string ((fenceFor x0 n1 n2 n3).1).text] 56) = w9
  have c9 : Below w8.heap.size w8 w9 := by rw [← hW9]; exact (Below.refl _ _).alloc (Nat.le_refl _) _
  have Dg0 : DBox (w8.heap.size) [.int .i64 ((fenceFor x0 n1 n2 n3).1).run, .int .i64 ((fenceFor x0 n1 n2 n3).1).task, .int .i64 ((fenceFor x0 n1 n2 n3).1).try_, .string ((fenceFor x0 n1 n2 n3).1).text] w9 := by rw [← hW9]; exact DBox.new 56 _ _ (rfl)
  clear hW9
  have lg0 := Dg0.lt
  have b9 := bnext b8 c9
  replace ow0 := ow0
  replace ox0 := (yardD.ow_below ox0 c9)
  replace og0 := og0
  replace DaY := DaY.below c9
  replace Dw0 := Dw0.below c9
  replace Dx0 := Dx0.below c9
  have s9_ : w8.heap.size ≤ w9.heap.size := c9.size
  refine (eqFence_own ((fenceFor x0 n1 n2 n3).1) ((fenceFor x0 n1 n2 n3).1) rg0 rw0 _ hmr hmr trivial trivial).mono ?_
  rintro e w10 ⟨rfl, c10⟩
  have b10 := bnext b9 c10
  replace ow0 := ow0
  replace ox0 := (yardD.ow_below ox0 c10)
  replace og0 := og0
  replace DaY := DaY.below c10
  replace Dw0 := Dw0.below c10
  replace Dx0 := Dx0.below c10
  replace Dg0 := Dg0.below c10
  have s10_ : w9.heap.size ≤ w10.heap.size := c10.size
  have cx00 : w10.cell? ⟨w6.heap.size, 0, none⟩ = some (.int .i64 x0.now) := Dx0.cell 0 _ rfl
  have cx01 : w10.cell? ⟨w6.heap.size, 1, none⟩ = some (.int .i64 x0.seq) := Dx0.cell 1 _ rfl
  have cx02 : w10.cell? ⟨w6.heap.size, 2, none⟩ = some (.slice rx0.1.a rx0.1.n rx0.1.c) := Dx0.cell 2 _ rfl
  have cx03 : w10.cell? ⟨w6.heap.size, 3, none⟩ = some (.slice rx0.2.a rx0.2.n rx0.2.c) := Dx0.cell 3 _ rfl
  have caY0 : w10.cell? ⟨w.heap.size, 0, none⟩ = some (.int .i64 x0.now) := DaY.cell 0 _ rfl
  have caY1 : w10.cell? ⟨w.heap.size, 1, none⟩ = some (.int .i64 x0.seq) := DaY.cell 1 _ rfl
  have caY2 : w10.cell? ⟨w.heap.size, 2, none⟩ = some (.slice s0.1.a s0.1.n s0.1.c) := DaY.cell 2 _ rfl
  have caY3 : w10.cell? ⟨w.heap.size, 3, none⟩ = some (.slice s0.2.a s0.2.n s0.2.c) := DaY.cell 3 _ rfl
  have cx0s := Dx0.lt
  have caYs := DaY.lt
  go_wp2_with fail
  clear cx00 cx01 cx02 cx03 cx0s caY0 caY1 caY2 caY3 caYs
  have cx00 : w10.cell? ⟨w6.heap.size, 0, none⟩ = some (.int .i64 x0.now) := Dx0.cell 0 _ rfl
  have cx01 : w10.cell? ⟨w6.heap.size, 1, none⟩ = some (.int .i64 x0.seq) := Dx0.cell 1 _ rfl
  have cx02 : w10.cell? ⟨w6.heap.size, 2, none⟩ = some (.slice rx0.1.a rx0.1.n rx0.1.c) := Dx0.cell 2 _ rfl
  have cx03 : w10.cell? ⟨w6.heap.size, 3, none⟩ = some (.slice rx0.2.a rx0.2.n rx0.2.c) := Dx0.cell 3 _ rfl
  have caY0 : w10.cell? ⟨w.heap.size, 0, none⟩ = some (.int .i64 x0.now) := DaY.cell 0 _ rfl
  have caY1 : w10.cell? ⟨w.heap.size, 1, none⟩ = some (.int .i64 x0.seq) := DaY.cell 1 _ rfl
  have caY2 : w10.cell? ⟨w.heap.size, 2, none⟩ = some (.slice s0.1.a s0.1.n s0.1.c) := DaY.cell 2 _ rfl
  have caY3 : w10.cell? ⟨w.heap.size, 3, none⟩ = some (.slice s0.2.a s0.2.n s0.2.c) := DaY.cell 3 _ rfl
  have cx0s := Dx0.lt
  have caYs := DaY.lt
  go_region_held3 (fun w' => w'.cell? ⟨w6.heap.size, 0, none⟩ = some (.int .i64 x0.now) ∧ w'.cell? ⟨w6.heap.size, 1, none⟩ = some (.int .i64 x0.seq) ∧ w'.cell? ⟨w6.heap.size, 2, none⟩ = some (.slice rx0.1.a rx0.1.n rx0.1.c) ∧ w'.cell? ⟨w6.heap.size, 3, none⟩ = some (.slice rx0.2.a rx0.2.n rx0.2.c) ∧ w'.cell? ⟨w.heap.size, 0, none⟩ = some (.int .i64 x0.now) ∧ w'.cell? ⟨w.heap.size, 1, none⟩ = some (.int .i64 x0.seq) ∧ w'.cell? ⟨w.heap.size, 2, none⟩ = some (.slice s0.1.a s0.1.n s0.1.c) ∧ w'.cell? ⟨w.heap.size, 3, none⟩ = some (.slice s0.2.a s0.2.n s0.2.c))
    (first | (refine ⟨?_, ?_, ?_, ?_, ?_, ?_, ?_, ?_⟩ <;> first | assumption | go_keep) | go_keep)
    (first
      | (go_at_call 42; (with_reducible refine (toYard_own x0 s0 _ hm0 (yardD.rd_more (yardD.rd_below h0 b10.drew) b10.drew.size)).mono ?_); rintro e w11 ⟨ryx0, Fyx0, rfl, oyx0, nyx0, c11⟩; have b11 := bnext b10 (bnext ((Below.refl w10.heap.size w10).drew) c11); replace ow0 := ow0; replace ox0 := (yardD.ow_below ox0 (bnext ((Below.refl w10.heap.size w10).drew) c11)); replace og0 := og0; replace DaY := DaY.below (bnext ((Below.refl w10.heap.size w10).drew) c11); replace Dw0 := Dw0.below (bnext ((Below.refl w10.heap.size w10).drew) c11); replace Dx0 := Dx0.below (bnext ((Below.refl w10.heap.size w10).drew) c11); replace Dg0 := Dg0.below (bnext ((Below.refl w10.heap.size w10).drew) c11); have s11_ : w10.heap.size ≤ w11.heap.size := c11.size; replace oyx0 : yardD.ow w11 Fyx0 x0 ryx0 := oyx0; replace nyx0 : ∀ b ∈ Fyx0, w10.heap.size ≤ b := nyx0; have tyx0 : ∀ b ∈ Fyx0, b < w11.heap.size := (yardD.ow_lt oyx0); have Xx00 : w11.cell? ⟨w6.heap.size, 0, none⟩ = some (.int .i64 x0.now) := Dx0.cell 0 _ rfl; have Xx01 : w11.cell? ⟨w6.heap.size, 1, none⟩ = some (.int .i64 x0.seq) := Dx0.cell 1 _ rfl; have Xx02 : w11.cell? ⟨w6.heap.size, 2, none⟩ = some (.slice rx0.1.a rx0.1.n rx0.1.c) := Dx0.cell 2 _ rfl; have Xx03 : w11.cell? ⟨w6.heap.size, 3, none⟩ = some (.slice rx0.2.a rx0.2.n rx0.2.c) := Dx0.cell 3 _ rfl; have XaY0 : w11.cell? ⟨w.heap.size, 0, none⟩ = some (.int .i64 x0.now) := DaY.cell 0 _ rfl; have XaY1 : w11.cell? ⟨w.heap.size, 1, none⟩ = some (.int .i64 x0.seq) := DaY.cell 1 _ rfl; have XaY2 : w11.cell? ⟨w.heap.size, 2, none⟩ = some (.slice s0.1.a s0.1.n s0.1.c) := DaY.cell 2 _ rfl; have XaY3 : w11.cell? ⟨w.heap.size, 3, none⟩ = some (.slice s0.2.a s0.2.n s0.2.c) := DaY.cell 3 _ rfl; have Xx0s := Dx0.lt; have XaYs := DaY.lt)
      | (go_at_call 45; (with_reducible refine (eqYard_own x0 x0 rx0 ryx0 _ hm0 hm0 (yardD.ow_rd ox0) (yardD.ow_rd oyx0)).mono ?_); rintro e w12 ⟨rfl, c12⟩; have b12 := bnext b11 c12; replace ow0 := ow0; replace ox0 := (yardD.ow_below ox0 c12); replace og0 := og0; replace oyx0 := (yardD.ow_below oyx0 c12); replace DaY := DaY.below c12; replace Dw0 := Dw0.below c12; replace Dx0 := Dx0.below c12; replace Dg0 := Dg0.below c12; have s12_ : w11.heap.size ≤ w12.heap.size := c12.size; clear oyx0 nyx0 tyx0; have X1x00 : w12.cell? ⟨w6.heap.size, 0, none⟩ = some (.int .i64 x0.now) := Dx0.cell 0 _ rfl; have X1x01 : w12.cell? ⟨w6.heap.size, 1, none⟩ = some (.int .i64 x0.seq) := Dx0.cell 1 _ rfl; have X1x02 : w12.cell? ⟨w6.heap.size, 2, none⟩ = some (.slice rx0.1.a rx0.1.n rx0.1.c) := Dx0.cell 2 _ rfl; have X1x03 : w12.cell? ⟨w6.heap.size, 3, none⟩ = some (.slice rx0.2.a rx0.2.n rx0.2.c) := Dx0.cell 3 _ rfl; have X1aY0 : w12.cell? ⟨w.heap.size, 0, none⟩ = some (.int .i64 x0.now) := DaY.cell 0 _ rfl; have X1aY1 : w12.cell? ⟨w.heap.size, 1, none⟩ = some (.int .i64 x0.seq) := DaY.cell 1 _ rfl; have X1aY2 : w12.cell? ⟨w.heap.size, 2, none⟩ = some (.slice s0.1.a s0.1.n s0.1.c) := DaY.cell 2 _ rfl; have X1aY3 : w12.cell? ⟨w.heap.size, 3, none⟩ = some (.slice s0.2.a s0.2.n s0.2.c) := DaY.cell 3 _ rfl; have X1x0s := Dx0.lt; have X1aYs := DaY.lt))
  clear cx00 cx01 cx02 cx03 cx0s caY0 caY1 caY2 caY3 caYs
  clear Xx00 Xx01 Xx02 Xx03 Xx0s XaY0 XaY1 XaY2 XaY3 XaYs
  clear X1x00 X1x01 X1x02 X1x03 X1x0s X1aY0 X1aY1 X1aY2 X1aY3 X1aYs
  go_wp2_with fail
  go_ret
  exact ⟨rfl, b12⟩
end Go.Proofs.Ytcapldjhcplfmaa
