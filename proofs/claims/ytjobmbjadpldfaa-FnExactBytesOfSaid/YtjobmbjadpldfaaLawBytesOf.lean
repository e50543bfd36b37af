/-
  The law FnExactBytesOf: its walk, out of the contracts of what it calls. Written by program (lawdeep.py).
-/
import Derived.Test.YtjobmbjadpldfaaVo
import Derived.Test.YtjobmbjadpldfaaDb
import Derived.Deep.RegionHeld3
namespace Go.Proofs.Ytjobmbjadpldfaa
open Go.RowKit
set_option maxRecDepth 100000
set_option maxHeartbeats 2000000
set_option linter.unusedVariables false

theorem lawBytesOf_walk (x0 : List (Note)) (s0 : Sl) (w : World) (hw0 : wfL wfNote x0) (h0 : RdL noteD w w.heap.size s0.v x0) :
    Calls Try.prog 3 #[.slice s0.a s0.n s0.c] w fun e w' => e = .returned (.bool true) ∧ Below w.heap.size w w' := by
  have b0 := Below.refl w.heap.size w
  go_enter Try.func3, Try.ntmps3
  go_wp2_with fail
  refine (szNoteS_own x0 s0 _ _ (by omega) (by omega) hw0 ((h0.below b0).more b0.size)).mono ?_
  rintro e w1 ⟨r1, rfl, hr1, c1⟩
  have b1 := bnext b0 c1
  have s1_ : w.heap.size ≤ w1.heap.size := c1.size
  rcases hr1 with rfl | ⟨q1, z1⟩
  · go_wp2_with fail
    go_ret
    exact ⟨rfl, b1⟩
  have qb1 : decide (r1 < 0) = false := by simpa using q1
  have hm0 : cntL cntNote x0 ≤ 2000000 := by omega
  go_wp2_with fail
  refine (toNoteS_own x0 s0 _ hm0 ((h0.below b1).more b1.size)).mono ?_
  rintro e w2 ⟨rw0s0, Fw0s0, rfl, ow0s0, nw0s0, c2⟩
  have b2 := bnext b1 c2
  have s2_ : w1.heap.size ≤ w2.heap.size := c2.size
  replace ow0s0 : OwL noteD w2 Fw0s0 rw0s0.v x0 := ow0s0
  replace nw0s0 : ∀ b ∈ Fw0s0, w1.heap.size ≤ b := nw0s0
  have tw0s0 : ∀ b ∈ Fw0s0, b < w2.heap.size := (OwL.lt ow0s0)
  go_wp2_with fail
  refine (specBytesOf_any x0 rw0s0 _ hm0 (OwL.rd ow0s0)).mono ?_
  rintro e w3 ⟨rfl, c3⟩
  have b3 := bnext b2 c3
  replace ow0s0 := (OwL.below ow0s0 c3)
  have s3_ : w2.heap.size ≤ w3.heap.size := c3.size
  clear ow0s0 nw0s0 tw0s0
  go_wp2_with fail
  refine (toNoteS_own x0 s0 _ hm0 ((h0.below b3).more b3.size)).mono ?_
  rintro e w4 ⟨rx0, Fx0, rfl, ox0, nx0, c4⟩
  have b4 := bnext b3 c4
  have s4_ : w3.heap.size ≤ w4.heap.size := c4.size
  replace ox0 : OwL noteD w4 Fx0 rx0.v x0 := ox0
  replace nx0 : ∀ b ∈ Fx0, w3.heap.size ≤ b := nx0
  have tx0 : ∀ b ∈ Fx0, b < w4.heap.size := (OwL.lt ox0)
  go_wp2_with fail
  refine (implBytesOf_any x0 rx0 _ hm0 (OwL.rd ox0)).mono ?_
  rintro e w5 ⟨rfl, c5⟩
  have b5 := bnext b4 c5
  replace ox0 := (OwL.below ox0 c5)
  have s5_ : w4.heap.size ≤ w5.heap.size := c5.size
  go_wp2_with fail
  refine (toNoteS_own x0 s0 _ hm0 ((h0.below b5).more b5.size)).mono ?_
  rintro e w6 ⟨ryx0, Fyx0, rfl, oyx0, nyx0, c6⟩
  have b6 := bnext b5 c6
  replace ox0 := (OwL.below ox0 c6)
  have s6_ : w5.heap.size ≤ w6.heap.size := c6.size
  replace oyx0 : OwL noteD w6 Fyx0 ryx0.v x0 := oyx0
  replace nyx0 : ∀ b ∈ Fyx0, w5.heap.size ≤ b := nyx0
  have tyx0 : ∀ b ∈ Fyx0, b < w6.heap.size := (OwL.lt oyx0)
  go_wp2_with fail
  refine (eqNoteS_own x0 x0 rx0 ryx0 _ hm0 hm0 (OwL.rd ox0) (OwL.rd oyx0)).mono ?_
  rintro e w7 ⟨rfl, c7⟩
  have b7 := bnext b6 c7
  replace ox0 := (OwL.below ox0 c7)
  replace oyx0 := (OwL.below oyx0 c7)
  have s7_ : w6.heap.size ≤ w7.heap.size := c7.size
  clear oyx0 nyx0 tyx0
  go_wp2_with fail
  go_ret
  exact ⟨rfl, b7⟩
end Go.Proofs.Ytjobmbjadpldfaa
