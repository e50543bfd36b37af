/-
  The law FnExactSegs: its walk, out of the contracts of what it calls. Written by program (lawdeep.py).
-/
import Derived.Test.YtcapldjhcplfmaaQc
import Derived.Test.YtcapldjhcplfmaaTSeg
import Derived.Test.YtcapldjhcplfmaaDb
import Derived.Deep.RegionHeld3
namespace Go.Proofs.Ytcapldjhcplfmaa
open Go.RowKit
set_option maxRecDepth 100000
set_option maxHeartbeats 2000000
set_option linter.unusedVariables false

theorem lawSegs_walk (x0 : List (Note)) (s0 : Sl) (n1 : Int) (w : World) (hw0 : wfL wfNote x0) (h0 : RdL noteD w w.heap.size s0.v x0) (hw1 : Wf n1) :
    Calls Try.prog 10 #[.slice s0.a s0.n s0.c, .int .i64 n1] w fun e w' => e = .returned (.bool true) ∧ Below w.heap.size w w' := by
  have b0 := Below.refl w.heap.size w
  go_enter Try.func10, Try.ntmps10
  go_wp2_with fail
  refine (szNoteS_own x0 s0 _ _ (by omega) (by omega) hw0 ((h0.below b0).more b0.size)).mono ?_
  rintro e w1 ⟨r1, rfl, hr1, c1⟩
  have b1 := bnext b0 c1
  have s1_ : w.heap.size ≤ w1.heap.size := c1.size
  rcases hr1 with rfl | ⟨q1, z1⟩
  · go_wp2_with fail
    go_ret
    exact ⟨rfl, b1⟩
  have qb1 : decide (r1 < 0) = false := by simpa using q1
  have hm0 : cntL cntNote x0 ≤ 2000000 := by omega
  have hmr : cntL cntSeg (segsOf x0 n1) ≤ 2000000 := by have := segsOf_cnt x0 n1; omega
  go_wp2_with fail
  refine (toNoteS_own x0 s0 _ hm0 ((h0.below b1).more b1.size)).mono ?_
  rintro e w2 ⟨rw0s0, Fw0s0, rfl, ow0s0, nw0s0, c2⟩
  have b2 := bnext b1 c2
  have s2_ : w1.heap.size ≤ w2.heap.size := c2.size
  replace ow0s0 : OwL noteD w2 Fw0s0 rw0s0.v x0 := ow0s0
  replace nw0s0 : ∀ b ∈ Fw0s0, w1.heap.size ≤ b := nw0s0
  have tw0s0 : ∀ b ∈ Fw0s0, b < w2.heap.size := (OwL.lt ow0s0)
  go_wp2_with fail
  refine (specSegs_own x0 rw0s0 n1 _ (by omega) (OwL.rd ow0s0)).mono ?_
  rintro e w3 ⟨rw0, Fw0, rfl, ow0, nw0, c3⟩
  have b3 := bnext b2 c3
  replace ow0s0 := (OwL.below ow0s0 c3)
  have s3_ : w2.heap.size ≤ w3.heap.size := c3.size
  replace ow0 : OwL segD w3 Fw0 rw0.v (segsOf x0 n1) := ow0
  replace nw0 : ∀ b ∈ Fw0, w2.heap.size ≤ b := nw0
  have tw0 : ∀ b ∈ Fw0, b < w3.heap.size := (OwL.lt ow0)
  clear ow0s0 nw0s0 tw0s0
  go_wp2_with fail
  refine (toNoteS_own x0 s0 _ hm0 ((h0.below b3).more b3.size)).mono ?_
  rintro e w4 ⟨rx0, Fx0, rfl, ox0, nx0, c4⟩
  have b4 := bnext b3 c4
  replace ow0 := (OwL.below ow0 c4)
  have s4_ : w3.heap.size ≤ w4.heap.size := c4.size
  replace ox0 : OwL noteD w4 Fx0 rx0.v x0 := ox0
  replace nx0 : ∀ b ∈ Fx0, w3.heap.size ≤ b := nx0
  have tx0 : ∀ b ∈ Fx0, b < w4.heap.size := (OwL.lt ox0)
  go_wp2_with fail
  refine (implSegs_own x0 rx0 n1 _ (by omega) (OwL.rd ox0)).mono ?_
  rintro e w5 ⟨rg0, Fg0, rfl, og0, ng0, c5⟩
  have b5 := bnext b4 c5
  replace ow0 := (OwL.below ow0 c5)
  replace ox0 := (OwL.below ox0 c5)
  have s5_ : w4.heap.size ≤ w5.heap.size := c5.size
  replace og0 : OwL segD w5 Fg0 rg0.v (segsOf x0 n1) := og0
  replace ng0 : ∀ b ∈ Fg0, w4.heap.size ≤ b := ng0
  have tg0 : ∀ b ∈ Fg0, b < w5.heap.size := (OwL.lt og0)
  go_wp2_with fail
  refine (eqSegS_own (segsOf x0 n1) (segsOf x0 n1) rg0 rw0 _ hmr hmr (OwL.rd og0) (OwL.rd ow0)).mono ?_
  rintro e w6 ⟨rfl, c6⟩
  have b6 := bnext b5 c6
  replace ow0 := (OwL.below ow0 c6)
  replace ox0 := (OwL.below ox0 c6)
  replace og0 := (OwL.below og0 c6)
  have s6_ : w5.heap.size ≤ w6.heap.size := c6.size
  go_wp2_with fail
  refine (toNoteS_own x0 s0 _ hm0 ((h0.below b6).more b6.size)).mono ?_
  rintro e w7 ⟨ryx0, Fyx0, rfl, oyx0, nyx0, c7⟩
  have b7 := bnext b6 c7
  replace ow0 := (OwL.below ow0 c7)
  replace ox0 := (OwL.below ox0 c7)
  replace og0 := (OwL.below og0 c7)
  have s7_ : w6.heap.size ≤ w7.heap.size := c7.size
  replace oyx0 : OwL noteD w7 Fyx0 ryx0.v x0 := oyx0
  replace nyx0 : ∀ b ∈ Fyx0, w6.heap.size ≤ b := nyx0
  have tyx0 : ∀ b ∈ Fyx0, b < w7.heap.size := (OwL.lt oyx0)
  go_wp2_with fail
  refine (eqNoteS_own x0 x0 rx0 ryx0 _ hm0 hm0 (OwL.rd ox0) (OwL.rd oyx0)).mono ?_
  rintro e w8 ⟨rfl, c8⟩
  have b8 := bnext b7 c8
  replace ow0 := (OwL.below ow0 c8)
  replace ox0 := (OwL.below ox0 c8)
  replace og0 := (OwL.below og0 c8)
  replace oyx0 := (OwL.below oyx0 c8)
  have s8_ : w7.heap.size ≤ w8.heap.size := c8.size
  clear oyx0 nyx0 tyx0
  have kx0_ := (numL_le (num := numNote) (cnt := cntNote) (K := 13) numNote_le x0)
  go_wp2_with fail
  refine (markNoteS_own x0 rx0 Fx0 1 _ hm0 (by omega) (by omega) ox0).mono ?_
  rintro e w9 ⟨rfl, oo9, c9⟩
  have b9 := b8.trans (c9.below b8.size (fun x hx => by have := nx0 x hx; omega))
  replace ow0 := (OwL.chg ow0 c9 (apart_of (in_of nw0 tw0) (in_of nx0 tx0) (by first | exact .inl (by omega) | exact .inr (by omega))))
  replace og0 := (OwL.chg og0 c9 (apart_of (in_of ng0 tg0) (in_of nx0 tx0) (by first | exact .inl (by omega) | exact .inr (by omega))))
  have s9_ : w8.heap.size ≤ w9.heap.size := c9.size
  replace ox0 : OwL noteD w9 Fx0 rx0.v (mkL mkNote numNote 1 x0) := oo9
  go_wp2_with fail
  refine (eqSegS_own (segsOf x0 n1) (segsOf x0 n1) rg0 rw0 _ hmr hmr (OwL.rd og0) (OwL.rd ow0)).mono ?_
  rintro e w10 ⟨rfl, c10⟩
  have b10 := bnext b9 c10
  replace ow0 := (OwL.below ow0 c10)
  replace ox0 := (OwL.below ox0 c10)
  replace og0 := (OwL.below og0 c10)
  have s10_ : w9.heap.size ≤ w10.heap.size := c10.size
  have kg0_ := (numL_le (num := numSeg) (cnt := cntSeg) (K := 13) numSeg_le (segsOf x0 n1))
  go_wp2_with fail
  refine (markSegS_own (segsOf x0 n1) rg0 Fg0 1 _ hmr (by omega) (by omega) og0).mono ?_
  rintro e w11 ⟨rfl, oo11, c11⟩
  have b11 := b10.trans (c11.below b10.size (fun x hx => by have := ng0 x hx; omega))
  replace ow0 := (OwL.chg ow0 c11 (apart_of (in_of nw0 tw0) (in_of ng0 tg0) (by first | exact .inl (by omega) | exact .inr (by omega))))
  replace ox0 := (OwL.chg ox0 c11 (apart_of (in_of nx0 tx0) (in_of ng0 tg0) (by first | exact .inl (by omega) | exact .inr (by omega))))
  have s11_ : w10.heap.size ≤ w11.heap.size := c11.size
  replace og0 : OwL segD w11 Fg0 rg0.v (mkL mkSeg numSeg 1 (segsOf x0 n1)) := oo11
  go_wp2_with fail
  refine (heldSegS_own (segsOf x0 n1) rg0 1 _ hmr (by omega) (by omega) (OwL.rd og0)).mono ?_
  rintro e w12 ⟨rfl, c12⟩
  have b12 := bnext b11 c12
  replace ow0 := (OwL.below ow0 c12)
  replace ox0 := (OwL.below ox0 c12)
  replace og0 := (OwL.below og0 c12)
  have s12_ : w11.heap.size ≤ w12.heap.size := c12.size
  go_wp2_with fail
  refine (toNoteS_own x0 s0 _ hm0 ((h0.below b12).more b12.size)).mono ?_
  rintro e w13 ⟨rh0i0, Fh0i0, rfl, oh0i0, nh0i0, c13⟩
  have b13 := bnext b12 c13
  replace ow0 := (OwL.below ow0 c13)
  replace ox0 := (OwL.below ox0 c13)
  replace og0 := (OwL.below og0 c13)
  have s13_ : w12.heap.size ≤ w13.heap.size := c13.size
  replace oh0i0 : OwL noteD w13 Fh0i0 rh0i0.v x0 := oh0i0
  replace nh0i0 : ∀ b ∈ Fh0i0, w12.heap.size ≤ b := nh0i0
  have th0i0 : ∀ b ∈ Fh0i0, b < w13.heap.size := (OwL.lt oh0i0)
  go_wp2_with fail
  refine (implSegs_own x0 rh0i0 n1 _ (by omega) (OwL.rd oh0i0)).mono ?_
  rintro e w14 ⟨rh0, Fh0, rfl, oh0, nh0, c14⟩
  have b14 := bnext b13 c14
  replace ow0 := (OwL.below ow0 c14)
  replace ox0 := (OwL.below ox0 c14)
  replace og0 := (OwL.below og0 c14)
  replace oh0i0 := (OwL.below oh0i0 c14)
  have s14_ : w13.heap.size ≤ w14.heap.size := c14.size
  replace oh0 : OwL segD w14 Fh0 rh0.v (segsOf x0 n1) := oh0
  replace nh0 : ∀ b ∈ Fh0, w13.heap.size ≤ b := nh0
  have th0 : ∀ b ∈ Fh0, b < w14.heap.size := (OwL.lt oh0)
  clear oh0i0 nh0i0 th0i0
  go_wp2_with fail
  refine (eqSegS_own (segsOf x0 n1) (segsOf x0 n1) rh0 rw0 _ hmr hmr (OwL.rd oh0) (OwL.rd ow0)).mono ?_
  rintro e w15 ⟨rfl, c15⟩
  have b15 := bnext b14 c15
  replace ow0 := (OwL.below ow0 c15)
  replace ox0 := (OwL.below ox0 c15)
  replace og0 := (OwL.below og0 c15)
  replace oh0 := (OwL.below oh0 c15)
  have s15_ : w14.heap.size ≤ w15.heap.size := c15.size
  go_wp2_with fail
  refine (heldSegS_own (segsOf x0 n1) rg0 1 _ hmr (by omega) (by omega) (OwL.rd og0)).mono ?_
  rintro e w16 ⟨rfl, c16⟩
  have b16 := bnext b15 c16
  replace ow0 := (OwL.below ow0 c16)
  replace ox0 := (OwL.below ox0 c16)
  replace og0 := (OwL.below og0 c16)
  replace oh0 := (OwL.below oh0 c16)
  have s16_ : w15.heap.size ≤ w16.heap.size := c16.size
  go_wp2_with fail
  go_ret
  exact ⟨rfl, b16⟩
end Go.Proofs.Ytcapldjhcplfmaa
