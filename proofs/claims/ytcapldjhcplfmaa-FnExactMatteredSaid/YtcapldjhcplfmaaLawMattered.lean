/-
  The law FnExactMattered: its walk, out of the contracts of what it calls. Written by program (lawdeep.py).
-/
import Derived.Test.YtcapldjhcplfmaaDs
import Derived.Test.YtcapldjhcplfmaaTReply
import Derived.Test.YtcapldjhcplfmaaDb
import Derived.Deep.RegionHeld3
namespace Go.Proofs.Ytcapldjhcplfmaa
open Go.RowKit
set_option maxRecDepth 100000
set_option maxHeartbeats 2000000
set_option linter.unusedVariables false

theorem lawMattered_walk (x0 : List (Deed)) (s0 : Sl) (x1 : List (Reply)) (s1 : Sl) (w : World) (hw0 : wfL wfDeed x0) (h0 : RdL deedD w w.heap.size s0.v x0) (hw1 : wfL wfReply x1) (h1 : RdL replyD w w.heap.size s1.v x1) :
    Calls Try.prog 6 #[.slice s0.a s0.n s0.c, .slice s1.a s1.n s1.c] w fun e w' => e = .returned (.bool true) ∧ Below w.heap.size w w' := by
  have b0 := Below.refl w.heap.size w
  go_enter Try.func6, Try.ntmps6
  go_wp2_with fail
  refine (szDeedS_own x0 s0 _ _ (by omega) (by omega) hw0 ((h0.below b0).more b0.size)).mono ?_
  rintro e w1 ⟨r1, rfl, hr1, c1⟩
  have b1 := bnext b0 c1
  have s1_ : w.heap.size ≤ w1.heap.size := c1.size
  rcases hr1 with rfl | ⟨q1, z1⟩
  · go_wp2_with fail
    go_ret
    exact ⟨rfl, b1⟩
  have qb1 : decide (r1 < 0) = false := by simpa using q1
  have hm0 : cntL cntDeed x0 ≤ 2000000 := by omega
  go_wp2_with fail
  refine (szReplyS_own x1 s1 _ _ (by omega) (by omega) hw1 ((h1.below b1).more b1.size)).mono ?_
  rintro e w2 ⟨r2, rfl, hr2, c2⟩
  have b2 := bnext b1 c2
  have s2_ : w1.heap.size ≤ w2.heap.size := c2.size
  rcases hr2 with rfl | ⟨q2, z2⟩
  · go_wp2_with fail
    go_ret
    exact ⟨rfl, b2⟩
  have qb2 : decide (r2 < 0) = false := by simpa using q2
  have hm1 : cntL cntReply x1 ≤ 2000000 := by omega
  have hmr : cntL cntDeed (matN x0 x1) ≤ 2000000 := Nat.le_trans (matN_cnt x0 x1) hm0
  go_wp2_with fail
  refine (toDeedS_own x0 s0 _ hm0 ((h0.below b2).more b2.size)).mono ?_
  rintro e w3 ⟨rw0s0, Fw0s0, rfl, ow0s0, nw0s0, c3⟩
  have b3 := bnext b2 c3
  have s3_ : w2.heap.size ≤ w3.heap.size := c3.size
  replace ow0s0 : OwL deedD w3 Fw0s0 rw0s0.v x0 := ow0s0
  replace nw0s0 : ∀ b ∈ Fw0s0, w2.heap.size ≤ b := nw0s0
  have tw0s0 : ∀ b ∈ Fw0s0, b < w3.heap.size := (OwL.lt ow0s0)
  go_wp2_with fail
  refine (toReplyS_own x1 s1 _ hm1 ((h1.below b3).more b3.size)).mono ?_
  rintro e w4 ⟨rw0s1, Fw0s1, rfl, ow0s1, nw0s1, c4⟩
  have b4 := bnext b3 c4
  replace ow0s0 := (OwL.below ow0s0 c4)
  have s4_ : w3.heap.size ≤ w4.heap.size := c4.size
  replace ow0s1 : OwL replyD w4 Fw0s1 rw0s1.v x1 := ow0s1
  replace nw0s1 : ∀ b ∈ Fw0s1, w3.heap.size ≤ b := nw0s1
  have tw0s1 : ∀ b ∈ Fw0s1, b < w4.heap.size := (OwL.lt ow0s1)
  go_wp2_with fail
  refine (specMattered_own x0 rw0s0 x1 rw0s1 _ hm0 hm1 (OwL.rd ow0s0) (OwL.rd ow0s1)).mono ?_
  rintro e w5 ⟨rw0, Fw0, rfl, ow0, nw0, c5⟩
  have b5 := bnext b4 c5
  replace ow0s0 := (OwL.below ow0s0 c5)
  replace ow0s1 := (OwL.below ow0s1 c5)
  have s5_ : w4.heap.size ≤ w5.heap.size := c5.size
  replace ow0 : OwL deedD w5 Fw0 rw0.v (matN x0 x1) := ow0
  replace nw0 : ∀ b ∈ Fw0, w4.heap.size ≤ b := nw0
  have tw0 : ∀ b ∈ Fw0, b < w5.heap.size := (OwL.lt ow0)
  clear ow0s0 nw0s0 tw0s0
  clear ow0s1 nw0s1 tw0s1
  go_wp2_with fail
  refine (toDeedS_own x0 s0 _ hm0 ((h0.below b5).more b5.size)).mono ?_
  rintro e w6 ⟨rx0, Fx0, rfl, ox0, nx0, c6⟩
  have b6 := bnext b5 c6
  replace ow0 := (OwL.below ow0 c6)
  have s6_ : w5.heap.size ≤ w6.heap.size := c6.size
  replace ox0 : OwL deedD w6 Fx0 rx0.v x0 := ox0
  replace nx0 : ∀ b ∈ Fx0, w5.heap.size ≤ b := nx0
  have tx0 : ∀ b ∈ Fx0, b < w6.heap.size := (OwL.lt ox0)
  go_wp2_with fail
  refine (toReplyS_own x1 s1 _ hm1 ((h1.below b6).more b6.size)).mono ?_
  rintro e w7 ⟨rx1, Fx1, rfl, ox1, nx1, c7⟩
  have b7 := bnext b6 c7
  replace ow0 := (OwL.below ow0 c7)
  replace ox0 := (OwL.below ox0 c7)
  have s7_ : w6.heap.size ≤ w7.heap.size := c7.size
  replace ox1 : OwL replyD w7 Fx1 rx1.v x1 := ox1
  replace nx1 : ∀ b ∈ Fx1, w6.heap.size ≤ b := nx1
  have tx1 : ∀ b ∈ Fx1, b < w7.heap.size := (OwL.lt ox1)
  go_wp2_with fail
  refine (implMattered_own x0 rx0 x1 rx1 _ hm0 hm1 (OwL.rd ox0) (OwL.rd ox1)).mono ?_
  rintro e w8 ⟨rg0, Fg0, rfl, og0, ng0, c8⟩
  have b8 := bnext b7 c8
  replace ow0 := (OwL.below ow0 c8)
  replace ox0 := (OwL.below ox0 c8)
  replace ox1 := (OwL.below ox1 c8)
  have s8_ : w7.heap.size ≤ w8.heap.size := c8.size
  replace og0 : OwL deedD w8 Fg0 rg0.v (matN x0 x1) := og0
  replace ng0 : ∀ b ∈ Fg0, w7.heap.size ≤ b := ng0
  have tg0 : ∀ b ∈ Fg0, b < w8.heap.size := (OwL.lt og0)
  go_wp2_with fail
  refine (eqDeedS_own (matN x0 x1) (matN x0 x1) rg0 rw0 _ hmr hmr (OwL.rd og0) (OwL.rd ow0)).mono ?_
  rintro e w9 ⟨rfl, c9⟩
  have b9 := bnext b8 c9
  replace ow0 := (OwL.below ow0 c9)
  replace ox0 := (OwL.below ox0 c9)
  replace ox1 := (OwL.below ox1 c9)
  replace og0 := (OwL.below og0 c9)
  have s9_ : w8.heap.size ≤ w9.heap.size := c9.size
  go_wp2_with fail
  refine (toDeedS_own x0 s0 _ hm0 ((h0.below b9).more b9.size)).mono ?_
  rintro e w10 ⟨ryx0, Fyx0, rfl, oyx0, nyx0, c10⟩
  have b10 := bnext b9 c10
  replace ow0 := (OwL.below ow0 c10)
  replace ox0 := (OwL.below ox0 c10)
  replace ox1 := (OwL.below ox1 c10)
  replace og0 := (OwL.below og0 c10)
  have s10_ : w9.heap.size ≤ w10.heap.size := c10.size
  replace oyx0 : OwL deedD w10 Fyx0 ryx0.v x0 := oyx0
  replace nyx0 : ∀ b ∈ Fyx0, w9.heap.size ≤ b := nyx0
  have tyx0 : ∀ b ∈ Fyx0, b < w10.heap.size := (OwL.lt oyx0)
  go_wp2_with fail
  refine (eqDeedS_own x0 x0 rx0 ryx0 _ hm0 hm0 (OwL.rd ox0) (OwL.rd oyx0)).mono ?_
  rintro e w11 ⟨rfl, c11⟩
  have b11 := bnext b10 c11
  replace ow0 := (OwL.below ow0 c11)
  replace ox0 := (OwL.below ox0 c11)
  replace ox1 := (OwL.below ox1 c11)
  replace og0 := (OwL.below og0 c11)
  replace oyx0 := (OwL.below oyx0 c11)
  have s11_ : w10.heap.size ≤ w11.heap.size := c11.size
  clear oyx0 nyx0 tyx0
  go_wp2_with fail
  refine (toReplyS_own x1 s1 _ hm1 ((h1.below b11).more b11.size)).mono ?_
  rintro e w12 ⟨ryx1, Fyx1, rfl, oyx1, nyx1, c12⟩
  have b12 := bnext b11 c12
  replace ow0 := (OwL.below ow0 c12)
  replace ox0 := (OwL.below ox0 c12)
  replace ox1 := (OwL.below ox1 c12)
  replace og0 := (OwL.below og0 c12)
  have s12_ : w11.heap.size ≤ w12.heap.size := c12.size
  replace oyx1 : OwL replyD w12 Fyx1 ryx1.v x1 := oyx1
  replace nyx1 : ∀ b ∈ Fyx1, w11.heap.size ≤ b := nyx1
  have tyx1 : ∀ b ∈ Fyx1, b < w12.heap.size := (OwL.lt oyx1)
  go_wp2_with fail
  refine (eqReplyS_own x1 x1 rx1 ryx1 _ hm1 hm1 (OwL.rd ox1) (OwL.rd oyx1)).mono ?_
  rintro e w13 ⟨rfl, c13⟩
  have b13 := bnext b12 c13
  replace ow0 := (OwL.below ow0 c13)
  replace ox0 := (OwL.below ox0 c13)
  replace ox1 := (OwL.below ox1 c13)
  replace og0 := (OwL.below og0 c13)
  replace oyx1 := (OwL.below oyx1 c13)
  have s13_ : w12.heap.size ≤ w13.heap.size := c13.size
  clear oyx1 nyx1 tyx1
  have kx0_ := (numL_le (num := numDeed) (cnt := cntDeed) (K := 13) numDeed_le x0)
  go_wp2_with fail
  refine (markDeedS_own x0 rx0 Fx0 1 _ hm0 (by omega) (by omega) ox0).mono ?_
  rintro e w14 ⟨rfl, oo14, c14⟩
  have b14 := b13.trans (c14.below b13.size (fun x hx => by have := nx0 x hx; omega))
  replace ow0 := (OwL.chg ow0 c14 (apart_of (in_of nw0 tw0) (in_of nx0 tx0) (by first | exact .inl (by omega) | exact .inr (by omega))))
  replace ox1 := (OwL.chg ox1 c14 (apart_of (in_of nx1 tx1) (in_of nx0 tx0) (by first | exact .inl (by omega) | exact .inr (by omega))))
  replace og0 := (OwL.chg og0 c14 (apart_of (in_of ng0 tg0) (in_of nx0 tx0) (by first | exact .inl (by omega) | exact .inr (by omega))))
  have s14_ : w13.heap.size ≤ w14.heap.size := c14.size
  replace ox0 : OwL deedD w14 Fx0 rx0.v (mkL mkDeed numDeed 1 x0) := oo14
  have kx1_ := (numL_le (num := numReply) (cnt := cntReply) (K := 13) numReply_le x1)
  go_wp2_with fail
  refine (markReplyS_own x1 rx1 Fx1 (1 + (numL numDeed x0 : Nat)) _ hm1 (by omega) (by omega) ox1).mono ?_
  rintro e w15 ⟨rfl, oo15, c15⟩
  have b15 := b14.trans (c15.below b14.size (fun x hx => by have := nx1 x hx; omega))
  replace ow0 := (OwL.chg ow0 c15 (apart_of (in_of nw0 tw0) (in_of nx1 tx1) (by first | exact .inl (by omega) | exact .inr (by omega))))
  replace ox0 := (OwL.chg ox0 c15 (apart_of (in_of nx0 tx0) (in_of nx1 tx1) (by first | exact .inl (by omega) | exact .inr (by omega))))
  replace og0 := (OwL.chg og0 c15 (apart_of (in_of ng0 tg0) (in_of nx1 tx1) (by first | exact .inl (by omega) | exact .inr (by omega))))
  have s15_ : w14.heap.size ≤ w15.heap.size := c15.size
  replace ox1 : OwL replyD w15 Fx1 rx1.v (mkL mkReply numReply (1 + (numL numDeed x0 : Nat)) x1) := oo15
  go_wp2_with fail
  refine (eqDeedS_own (matN x0 x1) (matN x0 x1) rg0 rw0 _ hmr hmr (OwL.rd og0) (OwL.rd ow0)).mono ?_
  rintro e w16 ⟨rfl, c16⟩
  have b16 := bnext b15 c16
  replace ow0 := (OwL.below ow0 c16)
  replace ox0 := (OwL.below ox0 c16)
  replace ox1 := (OwL.below ox1 c16)
  replace og0 := (OwL.below og0 c16)
  have s16_ : w15.heap.size ≤ w16.heap.size := c16.size
  have kg0_ := (numL_le (num := numDeed) (cnt := cntDeed) (K := 13) numDeed_le (matN x0 x1))
  go_wp2_with fail
  refine (markDeedS_own (matN x0 x1) rg0 Fg0 1 _ hmr (by omega) (by omega) og0).mono ?_
  rintro e w17 ⟨rfl, oo17, c17⟩
  have b17 := b16.trans (c17.below b16.size (fun x hx => by have := ng0 x hx; omega))
  replace ow0 := (OwL.chg ow0 c17 (apart_of (in_of nw0 tw0) (in_of ng0 tg0) (by first | exact .inl (by omega) | exact .inr (by omega))))
  replace ox0 := (OwL.chg ox0 c17 (apart_of (in_of nx0 tx0) (in_of ng0 tg0) (by first | exact .inl (by omega) | exact .inr (by omega))))
  replace ox1 := (OwL.chg ox1 c17 (apart_of (in_of nx1 tx1) (in_of ng0 tg0) (by first | exact .inl (by omega) | exact .inr (by omega))))
  have s17_ : w16.heap.size ≤ w17.heap.size := c17.size
  replace og0 : OwL deedD w17 Fg0 rg0.v (mkL mkDeed numDeed 1 (matN x0 x1)) := oo17
  go_wp2_with fail
  refine (heldDeedS_own (matN x0 x1) rg0 1 _ hmr (by omega) (by omega) (OwL.rd og0)).mono ?_
  rintro e w18 ⟨rfl, c18⟩
  have b18 := bnext b17 c18
  replace ow0 := (OwL.below ow0 c18)
  replace ox0 := (OwL.below ox0 c18)
  replace ox1 := (OwL.below ox1 c18)
  replace og0 := (OwL.below og0 c18)
  have s18_ : w17.heap.size ≤ w18.heap.size := c18.size
  go_wp2_with fail
  refine (toDeedS_own x0 s0 _ hm0 ((h0.below b18).more b18.size)).mono ?_
  rintro e w19 ⟨rh0i0, Fh0i0, rfl, oh0i0, nh0i0, c19⟩
  have b19 := bnext b18 c19
  replace ow0 := (OwL.below ow0 c19)
  replace ox0 := (OwL.below ox0 c19)
  replace ox1 := (OwL.below ox1 c19)
  replace og0 := (OwL.below og0 c19)
  have s19_ : w18.heap.size ≤ w19.heap.size := c19.size
  replace oh0i0 : OwL deedD w19 Fh0i0 rh0i0.v x0 := oh0i0
  replace nh0i0 : ∀ b ∈ Fh0i0, w18.heap.size ≤ b := nh0i0
  have th0i0 : ∀ b ∈ Fh0i0, b < w19.heap.size := (OwL.lt oh0i0)
  go_wp2_with fail
  refine (toReplyS_own x1 s1 _ hm1 ((h1.below b19).more b19.size)).mono ?_
  rintro e w20 ⟨rh0i1, Fh0i1, rfl, oh0i1, nh0i1, c20⟩
  have b20 := bnext b19 c20
  replace ow0 := (OwL.below ow0 c20)
  replace ox0 := (OwL.below ox0 c20)
  replace ox1 := (OwL.below ox1 c20)
  replace og0 := (OwL.below og0 c20)
  replace oh0i0 := (OwL.below oh0i0 c20)
  have s20_ : w19.heap.size ≤ w20.heap.size := c20.size
  replace oh0i1 : OwL replyD w20 Fh0i1 rh0i1.v x1 := oh0i1
  replace nh0i1 : ∀ b ∈ Fh0i1, w19.heap.size ≤ b := nh0i1
  have th0i1 : ∀ b ∈ Fh0i1, b < w20.heap.size := (OwL.lt oh0i1)
  go_wp2_with fail
  refine (implMattered_own x0 rh0i0 x1 rh0i1 _ hm0 hm1 (OwL.rd oh0i0) (OwL.rd oh0i1)).mono ?_
  rintro e w21 ⟨rh0, Fh0, rfl, oh0, nh0, c21⟩
  have b21 := bnext b20 c21
  replace ow0 := (OwL.below ow0 c21)
  replace ox0 := (OwL.below ox0 c21)
  replace ox1 := (OwL.below ox1 c21)
  replace og0 := (OwL.below og0 c21)
  replace oh0i0 := (OwL.below oh0i0 c21)
  replace oh0i1 := (OwL.below oh0i1 c21)
  have s21_ : w20.heap.size ≤ w21.heap.size := c21.size
  replace oh0 : OwL deedD w21 Fh0 rh0.v (matN x0 x1) := oh0
  replace nh0 : ∀ b ∈ Fh0, w20.heap.size ≤ b := nh0
  have th0 : ∀ b ∈ Fh0, b < w21.heap.size := (OwL.lt oh0)
  clear oh0i0 nh0i0 th0i0
  clear oh0i1 nh0i1 th0i1
  go_wp2_with fail
  refine (eqDeedS_own (matN x0 x1) (matN x0 x1) rh0 rw0 _ hmr hmr (OwL.rd oh0) (OwL.rd ow0)).mono ?_
  rintro e w22 ⟨rfl, c22⟩
  have b22 := bnext b21 c22
  replace ow0 := (OwL.below ow0 c22)
  replace ox0 := (OwL.below ox0 c22)
  replace ox1 := (OwL.below ox1 c22)
  replace og0 := (OwL.below og0 c22)
  replace oh0 := (OwL.below oh0 c22)
  have s22_ : w21.heap.size ≤ w22.heap.size := c22.size
  go_wp2_with fail
  refine (heldDeedS_own (matN x0 x1) rg0 1 _ hmr (by omega) (by omega) (OwL.rd og0)).mono ?_
  rintro e w23 ⟨rfl, c23⟩
  have b23 := bnext b22 c23
  replace ow0 := (OwL.below ow0 c23)
  replace ox0 := (OwL.below ox0 c23)
  replace ox1 := (OwL.below ox1 c23)
  replace og0 := (OwL.below og0 c23)
  replace oh0 := (OwL.below oh0 c23)
  have s23_ : w22.heap.size ≤ w23.heap.size := c23.size
  go_wp2_with fail
  go_ret
  exact ⟨rfl, b23⟩
end Go.Proofs.Ytcapldjhcplfmaa
