/-
  The law FnExactGapOf: its walk, out of the contracts of what it calls. Written by program (lawdeep.py).
-/
import Derived.Test.YtcapldjhcplfmaaLh
import Derived.Test.YtcapldjhcplfmaaDb
import Derived.Deep.RegionHeld3
namespace Go.Proofs.Ytcapldjhcplfmaa
open Go.RowKit
set_option maxRecDepth 100000
set_option maxHeartbeats 2000000
set_option linter.unusedVariables false

theorem lawGapOf_walk (x0 : Follower) (s0 : (Sl × Sl)) (x1 : List (Note)) (s1 : Sl) (w : World) (hw0 : wfFollower x0) (h0 : followerD.rd w w.heap.size x0 s0) (hw1 : wfL wfNote x1) (h1 : RdL noteD w w.heap.size s1.v x1) :
    Calls Try.prog 14 #[followerW x0 s0, .slice s1.a s1.n s1.c] w fun e w' => e = .returned (.bool true) ∧ Below w.heap.size w w' := by
  have b0 := Below.refl w.heap.size w
  go_enter Try.func14, Try.ntmps14
  go_wp2_with fail
  generalize hW1 : w.alloc (.cells #[.int .i64 x0.yard.now, .int .i64 x0.yard.seq, .slice s0.1.a s0.1.n s0.1.c, .slice s0.2.a s0.2.n s0.2.c, .int .i64 x0.seq] 94) = w1
  have c1 : Below w.heap.size w w1 := by rw [← hW1]; exact (Below.refl _ _).alloc (Nat.le_refl _) _
  have DaF : DBox (w.heap.size) [.int .i64 x0.yard.now, .int .i64 x0.yard.seq, .slice s0.1.a s0.1.n s0.1.c, .slice s0.2.a s0.2.n s0.2.c, .int .i64 x0.seq] w1 := by rw [← hW1]; exact DBox.new 94 _ _ (rfl)
  clear hW1
  have laF := DaF.lt
  have b1 := bnext b0 c1
  have s1_ : w.heap.size ≤ w1.heap.size := c1.size
  refine (szFollower_own x0 s0 _ _ (by omega) (by omega) hw0 (followerD.rd_more (followerD.rd_below h0 b1) b1.size)).mono ?_
  rintro e w2 ⟨r2, rfl, hr2, c2⟩
  have b2 := bnext b1 c2
  replace DaF := DaF.below c2
  have s2_ : w1.heap.size ≤ w2.heap.size := c2.size
  rcases hr2 with rfl | ⟨q2, z2⟩
  · go_wp2_with fail
    go_ret
    exact ⟨rfl, b2⟩
  have qb2 : decide (r2 < 0) = false := by simpa using q2
  have hm0 : cntFollower x0 ≤ 2000000 := by omega
  go_wp2_with fail
  refine (szNoteS_own x1 s1 _ _ (by omega) (by omega) hw1 ((h1.below b2).more b2.size)).mono ?_
  rintro e w3 ⟨r3, rfl, hr3, c3⟩
  have b3 := bnext b2 c3
  replace DaF := DaF.below c3
  have s3_ : w2.heap.size ≤ w3.heap.size := c3.size
  rcases hr3 with rfl | ⟨q3, z3⟩
  · go_wp2_with fail
    go_ret
    exact ⟨rfl, b3⟩
  have qb3 : decide (r3 < 0) = false := by simpa using q3
  have hm1 : cntL cntNote x1 ≤ 2000000 := by omega
  have caF0 : w3.cell? ⟨w.heap.size, 0, none⟩ = some (.int .i64 x0.yard.now) := DaF.cell 0 _ rfl
  have caF1 : w3.cell? ⟨w.heap.size, 1, none⟩ = some (.int .i64 x0.yard.seq) := DaF.cell 1 _ rfl
  have caF2 : w3.cell? ⟨w.heap.size, 2, none⟩ = some (.slice s0.1.a s0.1.n s0.1.c) := DaF.cell 2 _ rfl
  have caF3 : w3.cell? ⟨w.heap.size, 3, none⟩ = some (.slice s0.2.a s0.2.n s0.2.c) := DaF.cell 3 _ rfl
  have caF4 : w3.cell? ⟨w.heap.size, 4, none⟩ = some (.int .i64 x0.seq) := DaF.cell 4 _ rfl
  go_wp2_with fail
  clear caF0 caF1 caF2 caF3 caF4
  refine (toFollower_own x0 s0 _ hm0 (followerD.rd_more (followerD.rd_below h0 b3) b3.size)).mono ?_
  rintro e w4 ⟨rw0s0, Fw0s0, rfl, ow0s0, nw0s0, c4⟩
  have b4 := bnext b3 c4
  replace DaF := DaF.below c4
  have s4_ : w3.heap.size ≤ w4.heap.size := c4.size
  replace ow0s0 : followerD.ow w4 Fw0s0 x0 rw0s0 := ow0s0
  replace nw0s0 : ∀ b ∈ Fw0s0, w3.heap.size ≤ b := nw0s0
  have tw0s0 : ∀ b ∈ Fw0s0, b < w4.heap.size := (followerD.ow_lt ow0s0)
  go_wp2_with fail
  refine (toNoteS_own x1 s1 _ hm1 ((h1.below b4).more b4.size)).mono ?_
  rintro e w5 ⟨rw0s1, Fw0s1, rfl, ow0s1, nw0s1, c5⟩
  have b5 := bnext b4 c5
  replace ow0s0 := (followerD.ow_below ow0s0 c5)
  replace DaF := DaF.below c5
  have s5_ : w4.heap.size ≤ w5.heap.size := c5.size
  replace ow0s1 : OwL noteD w5 Fw0s1 rw0s1.v x1 := ow0s1
  replace nw0s1 : ∀ b ∈ Fw0s1, w4.heap.size ≤ b := nw0s1
  have tw0s1 : ∀ b ∈ Fw0s1, b < w5.heap.size := (OwL.lt ow0s1)
  go_wp2_with fail
  refine (specGapOf_own x0 rw0s0 x1 rw0s1 _ hm0 hm1 hw0 hw1 (followerD.ow_rd ow0s0) (OwL.rd ow0s1)).mono ?_
  rintro e w6 ⟨rfl, c6⟩
  have b6 := bnext b5 c6
  replace ow0s0 := (followerD.ow_below ow0s0 c6)
  replace ow0s1 := (OwL.below ow0s1 c6)
  replace DaF := DaF.below c6
  have s6_ : w5.heap.size ≤ w6.heap.size := c6.size
  clear ow0s0 nw0s0 tw0s0
  clear ow0s1 nw0s1 tw0s1
  have caF0 : w6.cell? ⟨w.heap.size, 0, none⟩ = some (.int .i64 x0.yard.now) := DaF.cell 0 _ rfl
  have caF1 : w6.cell? ⟨w.heap.size, 1, none⟩ = some (.int .i64 x0.yard.seq) := DaF.cell 1 _ rfl
  have caF2 : w6.cell? ⟨w.heap.size, 2, none⟩ = some (.slice s0.1.a s0.1.n s0.1.c) := DaF.cell 2 _ rfl
  have caF3 : w6.cell? ⟨w.heap.size, 3, none⟩ = some (.slice s0.2.a s0.2.n s0.2.c) := DaF.cell 3 _ rfl
  have caF4 : w6.cell? ⟨w.heap.size, 4, none⟩ = some (.int .i64 x0.seq) := DaF.cell 4 _ rfl
  go_wp2_with fail
  clear caF0 caF1 caF2 caF3 caF4
  refine (toFollower_own x0 s0 _ hm0 (followerD.rd_more (followerD.rd_below h0 b6) b6.size)).mono ?_
  rintro e w7 ⟨rx0, Fx0, rfl, ox0, nx0, c7⟩
  have b7 := bnext b6 c7
  replace DaF := DaF.below c7
  have s7_ : w6.heap.size ≤ w7.heap.size := c7.size
  replace ox0 : followerD.ow w7 Fx0 x0 rx0 := ox0
  replace nx0 : ∀ b ∈ Fx0, w6.heap.size ≤ b := nx0
  have tx0 : ∀ b ∈ Fx0, b < w7.heap.size := (followerD.ow_lt ox0)
  go_wp2_with fail
  generalize hW8 : w7.alloc (.cells #[.int .i64 x0.yard.now, .int .i64 x0.yard.seq, .slice rx0.1.a rx0.1.n rx0.1.c, .slice rx0.2.a rx0.2.n rx0.2.c, .int .i64 x0.seq] 98) = w8
  have c8 : Below w7.heap.size w7 w8 := by rw [← hW8]; exact (Below.refl _ _).alloc (Nat.le_refl _) _
  have Dx0 : DBox (w7.heap.size) [.int .i64 x0.yard.now, .int .i64 x0.yard.seq, .slice rx0.1.a rx0.1.n rx0.1.c, .slice rx0.2.a rx0.2.n rx0.2.c, .int .i64 x0.seq] w8 := by rw [← hW8]; exact DBox.new 98 _ _ (rfl)
  clear hW8
  have lx0 := Dx0.lt
  have b8 := bnext b7 c8
  replace ox0 := (followerD.ow_below ox0 c8)
  replace DaF := DaF.below c8
  have s8_ : w7.heap.size ≤ w8.heap.size := c8.size
  refine (toNoteS_own x1 s1 _ hm1 ((h1.below b8).more b8.size)).mono ?_
  rintro e w9 ⟨rx1, Fx1, rfl, ox1, nx1, c9⟩
  have b9 := bnext b8 c9
  replace ox0 := (followerD.ow_below ox0 c9)
  replace DaF := DaF.below c9
  replace Dx0 := Dx0.below c9
  have s9_ : w8.heap.size ≤ w9.heap.size := c9.size
  replace ox1 : OwL noteD w9 Fx1 rx1.v x1 := ox1
  replace nx1 : ∀ b ∈ Fx1, w8.heap.size ≤ b := nx1
  have tx1 : ∀ b ∈ Fx1, b < w9.heap.size := (OwL.lt ox1)
  have cx00 : w9.cell? ⟨w7.heap.size, 0, none⟩ = some (.int .i64 x0.yard.now) := Dx0.cell 0 _ rfl
  have cx01 : w9.cell? ⟨w7.heap.size, 1, none⟩ = some (.int .i64 x0.yard.seq) := Dx0.cell 1 _ rfl
  have cx02 : w9.cell? ⟨w7.heap.size, 2, none⟩ = some (.slice rx0.1.a rx0.1.n rx0.1.c) := Dx0.cell 2 _ rfl
  have cx03 : w9.cell? ⟨w7.heap.size, 3, none⟩ = some (.slice rx0.2.a rx0.2.n rx0.2.c) := Dx0.cell 3 _ rfl
  have cx04 : w9.cell? ⟨w7.heap.size, 4, none⟩ = some (.int .i64 x0.seq) := Dx0.cell 4 _ rfl
  go_wp2_with fail
  clear cx00 cx01 cx02 cx03 cx04
  refine (implGapOf_own x0 rx0 x1 rx1 _ hm0 hm1 hw0 hw1 (followerD.ow_rd ox0) (OwL.rd ox1)).mono ?_
  rintro e w10 ⟨rfl, c10⟩
  have b10 := bnext b9 c10
  replace ox0 := (followerD.ow_below ox0 c10)
  replace ox1 := (OwL.below ox1 c10)
  replace DaF := DaF.below c10
  replace Dx0 := Dx0.below c10
  have s10_ : w9.heap.size ≤ w10.heap.size := c10.size
  have cx00 : w10.cell? ⟨w7.heap.size, 0, none⟩ = some (.int .i64 x0.yard.now) := Dx0.cell 0 _ rfl
  have cx01 : w10.cell? ⟨w7.heap.size, 1, none⟩ = some (.int .i64 x0.yard.seq) := Dx0.cell 1 _ rfl
  have cx02 : w10.cell? ⟨w7.heap.size, 2, none⟩ = some (.slice rx0.1.a rx0.1.n rx0.1.c) := Dx0.cell 2 _ rfl
  have cx03 : w10.cell? ⟨w7.heap.size, 3, none⟩ = some (.slice rx0.2.a rx0.2.n rx0.2.c) := Dx0.cell 3 _ rfl
  have cx04 : w10.cell? ⟨w7.heap.size, 4, none⟩ = some (.int .i64 x0.seq) := Dx0.cell 4 _ rfl
  have caF0 : w10.cell? ⟨w.heap.size, 0, none⟩ = some (.int .i64 x0.yard.now) := DaF.cell 0 _ rfl
  have caF1 : w10.cell? ⟨w.heap.size, 1, none⟩ = some (.int .i64 x0.yard.seq) := DaF.cell 1 _ rfl
  have caF2 : w10.cell? ⟨w.heap.size, 2, none⟩ = some (.slice s0.1.a s0.1.n s0.1.c) := DaF.cell 2 _ rfl
  have caF3 : w10.cell? ⟨w.heap.size, 3, none⟩ = some (.slice s0.2.a s0.2.n s0.2.c) := DaF.cell 3 _ rfl
  have caF4 : w10.cell? ⟨w.heap.size, 4, none⟩ = some (.int .i64 x0.seq) := DaF.cell 4 _ rfl
  go_wp2_with fail
  clear cx00 cx01 cx02 cx03 cx04 caF0 caF1 caF2 caF3 caF4
  have cx00 : w10.cell? ⟨w7.heap.size, 0, none⟩ = some (.int .i64 x0.yard.now) := Dx0.cell 0 _ rfl
  have cx01 : w10.cell? ⟨w7.heap.size, 1, none⟩ = some (.int .i64 x0.yard.seq) := Dx0.cell 1 _ rfl
  have cx02 : w10.cell? ⟨w7.heap.size, 2, none⟩ = some (.slice rx0.1.a rx0.1.n rx0.1.c) := Dx0.cell 2 _ rfl
  have cx03 : w10.cell? ⟨w7.heap.size, 3, none⟩ = some (.slice rx0.2.a rx0.2.n rx0.2.c) := Dx0.cell 3 _ rfl
  have cx04 : w10.cell? ⟨w7.heap.size, 4, none⟩ = some (.int .i64 x0.seq) := Dx0.cell 4 _ rfl
  have caF0 : w10.cell? ⟨w.heap.size, 0, none⟩ = some (.int .i64 x0.yard.now) := DaF.cell 0 _ rfl
  have caF1 : w10.cell? ⟨w.heap.size, 1, none⟩ = some (.int .i64 x0.yard.seq) := DaF.cell 1 _ rfl
  have caF2 : w10.cell? ⟨w.heap.size, 2, none⟩ = some (.slice s0.1.a s0.1.n s0.1.c) := DaF.cell 2 _ rfl
  have caF3 : w10.cell? ⟨w.heap.size, 3, none⟩ = some (.slice s0.2.a s0.2.n s0.2.c) := DaF.cell 3 _ rfl
  have caF4 : w10.cell? ⟨w.heap.size, 4, none⟩ = some (.int .i64 x0.seq) := DaF.cell 4 _ rfl
  go_region_held3 (fun w' => w'.cell? ⟨w7.heap.size, 0, none⟩ = some (.int .i64 x0.yard.now) ∧ w'.cell? ⟨w7.heap.size, 1, none⟩ = some (.int .i64 x0.yard.seq) ∧ w'.cell? ⟨w7.heap.size, 2, none⟩ = some (.slice rx0.1.a rx0.1.n rx0.1.c) ∧ w'.cell? ⟨w7.heap.size, 3, none⟩ = some (.slice rx0.2.a rx0.2.n rx0.2.c) ∧ w'.cell? ⟨w7.heap.size, 4, none⟩ = some (.int .i64 x0.seq) ∧ w'.cell? ⟨w.heap.size, 0, none⟩ = some (.int .i64 x0.yard.now) ∧ w'.cell? ⟨w.heap.size, 1, none⟩ = some (.int .i64 x0.yard.seq) ∧ w'.cell? ⟨w.heap.size, 2, none⟩ = some (.slice s0.1.a s0.1.n s0.1.c) ∧ w'.cell? ⟨w.heap.size, 3, none⟩ = some (.slice s0.2.a s0.2.n s0.2.c) ∧ w'.cell? ⟨w.heap.size, 4, none⟩ = some (.int .i64 x0.seq))
    (first | (refine ⟨?_, ?_, ?_, ?_, ?_, ?_, ?_, ?_, ?_, ?_⟩ <;> first | assumption | go_keep) | go_keep)
    (first
      | (go_at_call 68; (with_reducible refine (toFollower_own x0 s0 _ hm0 (followerD.rd_more (followerD.rd_below h0 b10.drew) b10.drew.size)).mono ?_); rintro e w11 ⟨ryx0, Fyx0, rfl, oyx0, nyx0, c11⟩; have b11 := bnext b10 (bnext ((Below.refl w10.heap.size w10).drew) c11); replace ox0 := (followerD.ow_below ox0 (bnext ((Below.refl w10.heap.size w10).drew) c11)); replace ox1 := (OwL.below ox1 (bnext ((Below.refl w10.heap.size w10).drew) c11)); replace DaF := DaF.below (bnext ((Below.refl w10.heap.size w10).drew) c11); replace Dx0 := Dx0.below (bnext ((Below.refl w10.heap.size w10).drew) c11); have s11_ : w10.heap.size ≤ w11.heap.size := c11.size; replace oyx0 : followerD.ow w11 Fyx0 x0 ryx0 := oyx0; replace nyx0 : ∀ b ∈ Fyx0, w10.heap.size ≤ b := nyx0; have tyx0 : ∀ b ∈ Fyx0, b < w11.heap.size := (followerD.ow_lt oyx0); have Xx00 : w11.cell? ⟨w7.heap.size, 0, none⟩ = some (.int .i64 x0.yard.now) := Dx0.cell 0 _ rfl; have Xx01 : w11.cell? ⟨w7.heap.size, 1, none⟩ = some (.int .i64 x0.yard.seq) := Dx0.cell 1 _ rfl; have Xx02 : w11.cell? ⟨w7.heap.size, 2, none⟩ = some (.slice rx0.1.a rx0.1.n rx0.1.c) := Dx0.cell 2 _ rfl; have Xx03 : w11.cell? ⟨w7.heap.size, 3, none⟩ = some (.slice rx0.2.a rx0.2.n rx0.2.c) := Dx0.cell 3 _ rfl; have Xx04 : w11.cell? ⟨w7.heap.size, 4, none⟩ = some (.int .i64 x0.seq) := Dx0.cell 4 _ rfl; have XaF0 : w11.cell? ⟨w.heap.size, 0, none⟩ = some (.int .i64 x0.yard.now) := DaF.cell 0 _ rfl; have XaF1 : w11.cell? ⟨w.heap.size, 1, none⟩ = some (.int .i64 x0.yard.seq) := DaF.cell 1 _ rfl; have XaF2 : w11.cell? ⟨w.heap.size, 2, none⟩ = some (.slice s0.1.a s0.1.n s0.1.c) := DaF.cell 2 _ rfl; have XaF3 : w11.cell? ⟨w.heap.size, 3, none⟩ = some (.slice s0.2.a s0.2.n s0.2.c) := DaF.cell 3 _ rfl; have XaF4 : w11.cell? ⟨w.heap.size, 4, none⟩ = some (.int .i64 x0.seq) := DaF.cell 4 _ rfl)
      | (go_at_call 70; (with_reducible refine (eqFollower_own x0 x0 rx0 ryx0 _ hm0 hm0 (followerD.ow_rd ox0) (followerD.ow_rd oyx0)).mono ?_); rintro e w12 ⟨rfl, c12⟩; have b12 := bnext b11 c12; replace ox0 := (followerD.ow_below ox0 c12); replace ox1 := (OwL.below ox1 c12); replace oyx0 := (followerD.ow_below oyx0 c12); replace DaF := DaF.below c12; replace Dx0 := Dx0.below c12; have s12_ : w11.heap.size ≤ w12.heap.size := c12.size; clear oyx0 nyx0 tyx0; have X1x00 : w12.cell? ⟨w7.heap.size, 0, none⟩ = some (.int .i64 x0.yard.now) := Dx0.cell 0 _ rfl; have X1x01 : w12.cell? ⟨w7.heap.size, 1, none⟩ = some (.int .i64 x0.yard.seq) := Dx0.cell 1 _ rfl; have X1x02 : w12.cell? ⟨w7.heap.size, 2, none⟩ = some (.slice rx0.1.a rx0.1.n rx0.1.c) := Dx0.cell 2 _ rfl; have X1x03 : w12.cell? ⟨w7.heap.size, 3, none⟩ = some (.slice rx0.2.a rx0.2.n rx0.2.c) := Dx0.cell 3 _ rfl; have X1x04 : w12.cell? ⟨w7.heap.size, 4, none⟩ = some (.int .i64 x0.seq) := Dx0.cell 4 _ rfl; have X1aF0 : w12.cell? ⟨w.heap.size, 0, none⟩ = some (.int .i64 x0.yard.now) := DaF.cell 0 _ rfl; have X1aF1 : w12.cell? ⟨w.heap.size, 1, none⟩ = some (.int .i64 x0.yard.seq) := DaF.cell 1 _ rfl; have X1aF2 : w12.cell? ⟨w.heap.size, 2, none⟩ = some (.slice s0.1.a s0.1.n s0.1.c) := DaF.cell 2 _ rfl; have X1aF3 : w12.cell? ⟨w.heap.size, 3, none⟩ = some (.slice s0.2.a s0.2.n s0.2.c) := DaF.cell 3 _ rfl; have X1aF4 : w12.cell? ⟨w.heap.size, 4, none⟩ = some (.int .i64 x0.seq) := DaF.cell 4 _ rfl))
  clear cx00 cx01 cx02 cx03 cx04 caF0 caF1 caF2 caF3 caF4
  clear Xx00 Xx01 Xx02 Xx03 Xx04 XaF0 XaF1 XaF2 XaF3 XaF4
  clear X1x00 X1x01 X1x02 X1x03 X1x04 X1aF0 X1aF1 X1aF2 X1aF3 X1aF4
  go_wp2_with fail
  refine (toNoteS_own x1 s1 _ hm1 ((h1.below b12).more b12.size)).mono ?_
  rintro e w13 ⟨ryx1, Fyx1, rfl, oyx1, nyx1, c13⟩
  have b13 := bnext b12 c13
  replace ox0 := (followerD.ow_below ox0 c13)
  replace ox1 := (OwL.below ox1 c13)
  replace DaF := DaF.below c13
  replace Dx0 := Dx0.below c13
  have s13_ : w12.heap.size ≤ w13.heap.size := c13.size
  replace oyx1 : OwL noteD w13 Fyx1 ryx1.v x1 := oyx1
  replace nyx1 : ∀ b ∈ Fyx1, w12.heap.size ≤ b := nyx1
  have tyx1 : ∀ b ∈ Fyx1, b < w13.heap.size := (OwL.lt oyx1)
  go_wp2_with fail
  refine (eqNoteS_own x1 x1 rx1 ryx1 _ hm1 hm1 (OwL.rd ox1) (OwL.rd oyx1)).mono ?_
  rintro e w14 ⟨rfl, c14⟩
  have b14 := bnext b13 c14
  replace ox0 := (followerD.ow_below ox0 c14)
  replace ox1 := (OwL.below ox1 c14)
  replace oyx1 := (OwL.below oyx1 c14)
  replace DaF := DaF.below c14
  replace Dx0 := Dx0.below c14
  have s14_ : w13.heap.size ≤ w14.heap.size := c14.size
  clear oyx1 nyx1 tyx1
  go_wp2_with fail
  go_ret
  exact ⟨rfl, b14⟩
end Go.Proofs.Ytcapldjhcplfmaa
