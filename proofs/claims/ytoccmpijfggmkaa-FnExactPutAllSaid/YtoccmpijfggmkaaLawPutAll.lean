/-
  The law FnExactPutAll: its walk, out of the contracts of what it calls. Written by program (lawgen.py).
-/
import Derived.Test.YtoccmpijfggmkaaPa
import Derived.Test.YtoccmpijfggmkaaMf
import Derived.Test.YtoccmpijfggmkaaIn
import Derived.Test.YtoccmpijfggmkaaBx
import Derived.Test.YtoccmpijfggmkaaMk
import Derived.Deep.RegionHeld3
namespace Go.Proofs.Ytoccmpijfggmkaa
open Go.RowKit
set_option maxRecDepth 100000
set_option maxHeartbeats 2000000

theorem lawPutAll_walk (v0 : Value) (l0 : List Fence) (v1 : Value) (l1 : List Fence) (w : World) (hl0 : l0.length ≤ 9223372036854775807) (h0 : Rd fenceE w w.heap.size v0 l0) (hk0 : ∀ s ∈ l0, s.text.size ≤ 9223372036854775807) (hl1 : l1.length ≤ 9223372036854775807) (h1 : Rd fenceE w w.heap.size v1 l1) (hk1 : ∀ s ∈ l1, s.text.size ≤ 9223372036854775807) :
    Calls Try.prog 17 #[v0, v1] w fun e w' => e = .returned (.bool true) ∧ Below w.heap.size w w' := by
  obtain ⟨A0, e0, rfl, -⟩ := id h0
  obtain ⟨A1, e1, rfl, -⟩ := id h1
  have b0 := Below.refl w.heap.size w
  go_enter Try.func17, Try.ntmps17
  go_wp2_with fail
  refine (szFenceS_any (.slice A0 l0.length e0) l0 _ _ (by omega) (by omega) hl0 hk0 ((h0.below b0).more b0.size)).mono ?_
  rintro e w1 ⟨r1, rfl, hr1, c1⟩
  have b1 := bnext b0 c1
  have s1 : w.heap.size ≤ w1.heap.size := c1.size
  rcases hr1 with rfl | ⟨q1, z1⟩
  · go_wp2_with fail
    go_ret
    exact ⟨rfl, b1⟩
  have qb1 : decide (r1 < 0) = false := by simpa using q1
  have hm0 : l0.length ≤ 2000000 := by omega
  go_wp2_with fail
  refine (szFenceS_any (.slice A1 l1.length e1) l1 _ _ (by omega) (by omega) hl1 hk1 ((h1.below b1).more b1.size)).mono ?_
  rintro e w2 ⟨r2, rfl, hr2, c2⟩
  have b2 := bnext b1 c2
  have s2 : w1.heap.size ≤ w2.heap.size := c2.size
  rcases hr2 with rfl | ⟨q2, z2⟩
  · go_wp2_with fail
    go_ret
    exact ⟨rfl, b2⟩
  have qb2 : decide (r2 < 0) = false := by simpa using q2
  have hm1 : l1.length ≤ 2000000 := by omega
  have hmr : (putAll l0 l1).length ≤ 2000000 := putAll_len l0 l1 hm0
  go_wp2_with fail
  refine (toFenceS_any (.slice A0 l0.length e0) l0 _ hm0 ((h0.below b2).more b2.size)).mono ?_
  rintro e w3 ⟨uw0s0, rfl, ow0s0, c3⟩
  have b3 := bnext b2 c3
  have s3 : w2.heap.size ≤ w3.heap.size := c3.size
  replace ow0s0 : Ow fenceE 80 w3 w2.heap.size uw0s0 l0 := ow0s0
  have iw0s0 := ow0s0.within
  go_wp2_with fail
  refine (toFenceS_any (.slice A1 l1.length e1) l1 _ hm1 ((h1.below b3).more b3.size)).mono ?_
  rintro e w4 ⟨uw0s1, rfl, ow0s1, c4⟩
  have b4 := bnext b3 c4
  replace ow0s0 := ow0s0.below c4
  have s4 : w3.heap.size ≤ w4.heap.size := c4.size
  replace ow0s1 : Ow fenceE 80 w4 w3.heap.size uw0s1 l1 := ow0s1
  have iw0s1 := ow0s1.within
  go_wp2_with fail
  refine (specPutAll_any uw0s0 l0 uw0s1 l1 _ hm0 hm1 (Rd.of_own ow0s0) (Rd.of_own ow0s1)).mono ?_
  rintro e w5 ⟨uw0, rfl, ow0, c5⟩
  have b5 := bnext b4 c5
  replace ow0s0 := ow0s0.below c5
  replace ow0s1 := ow0s1.below c5
  have s5 : w4.heap.size ≤ w5.heap.size := c5.size
  replace ow0 : Ow fenceE 80 w5 w4.heap.size uw0 (putAll l0 l1) := ow0
  have iw0 := ow0.within
  clear ow0s0 iw0s0
  clear ow0s1 iw0s1
  go_wp2_with fail
  refine (toFenceS_any (.slice A0 l0.length e0) l0 _ hm0 ((h0.below b5).more b5.size)).mono ?_
  rintro e w6 ⟨ux0, rfl, ox0, c6⟩
  have b6 := bnext b5 c6
  replace ow0 := ow0.below c6
  have s6 : w5.heap.size ≤ w6.heap.size := c6.size
  replace ox0 : Ow fenceE 80 w6 w5.heap.size ux0 l0 := ox0
  have ix0 := ox0.within
  go_wp2_with fail
  refine (toFenceS_any (.slice A1 l1.length e1) l1 _ hm1 ((h1.below b6).more b6.size)).mono ?_
  rintro e w7 ⟨ux1, rfl, ox1, c7⟩
  have b7 := bnext b6 c7
  replace ow0 := ow0.below c7
  replace ox0 := ox0.below c7
  have s7 : w6.heap.size ≤ w7.heap.size := c7.size
  replace ox1 : Ow fenceE 80 w7 w6.heap.size ux1 l1 := ox1
  have ix1 := ox1.within
  go_wp2_with fail
  refine (implPutAll_any ux0 l0 ux1 l1 _ hm0 hm1 (Rd.of_own ox0) (Rd.of_own ox1)).mono ?_
  rintro e w8 ⟨ug0, rfl, og0, c8⟩
  have b8 := bnext b7 c8
  replace ow0 := ow0.below c8
  replace ox0 := ox0.below c8
  replace ox1 := ox1.below c8
  have s8 : w7.heap.size ≤ w8.heap.size := c8.size
  replace og0 : Ow fenceE 80 w8 w7.heap.size ug0 (putAll l0 l1) := og0
  have ig0 := og0.within
  go_wp2_with fail
  refine (eqFenceS_any ug0 uw0 (putAll l0 l1) (putAll l0 l1) _ hmr hmr (Rd.of_own og0) (Rd.of_own ow0)).mono ?_
  rintro e w9 ⟨rfl, c9⟩
  have b9 := bnext b8 c9
  replace ow0 := ow0.below c9
  replace ox0 := ox0.below c9
  replace ox1 := ox1.below c9
  replace og0 := og0.below c9
  have s9 : w8.heap.size ≤ w9.heap.size := c9.size
  go_wp2_with fail
  refine (toFenceS_any (.slice A0 l0.length e0) l0 _ hm0 ((h0.below b9).more b9.size)).mono ?_
  rintro e w10 ⟨uyx0, rfl, oyx0, c10⟩
  have b10 := bnext b9 c10
  replace ow0 := ow0.below c10
  replace ox0 := ox0.below c10
  replace ox1 := ox1.below c10
  replace og0 := og0.below c10
  have s10 : w9.heap.size ≤ w10.heap.size := c10.size
  replace oyx0 : Ow fenceE 80 w10 w9.heap.size uyx0 l0 := oyx0
  have iyx0 := oyx0.within
  go_wp2_with fail
  refine (eqFenceS_any ux0 uyx0 l0 l0 _ hm0 hm0 (Rd.of_own ox0) (Rd.of_own oyx0)).mono ?_
  rintro e w11 ⟨rfl, c11⟩
  have b11 := bnext b10 c11
  replace ow0 := ow0.below c11
  replace ox0 := ox0.below c11
  replace ox1 := ox1.below c11
  replace og0 := og0.below c11
  replace oyx0 := oyx0.below c11
  have s11 : w10.heap.size ≤ w11.heap.size := c11.size
  clear oyx0 iyx0
  go_wp2_with fail
  refine (toFenceS_any (.slice A1 l1.length e1) l1 _ hm1 ((h1.below b11).more b11.size)).mono ?_
  rintro e w12 ⟨uyx1, rfl, oyx1, c12⟩
  have b12 := bnext b11 c12
  replace ow0 := ow0.below c12
  replace ox0 := ox0.below c12
  replace ox1 := ox1.below c12
  replace og0 := og0.below c12
  have s12 : w11.heap.size ≤ w12.heap.size := c12.size
  replace oyx1 : Ow fenceE 80 w12 w11.heap.size uyx1 l1 := oyx1
  have iyx1 := oyx1.within
  go_wp2_with fail
  refine (eqFenceS_any ux1 uyx1 l1 l1 _ hm1 hm1 (Rd.of_own ox1) (Rd.of_own oyx1)).mono ?_
  rintro e w13 ⟨rfl, c13⟩
  have b13 := bnext b12 c13
  replace ow0 := ow0.below c13
  replace ox0 := ox0.below c13
  replace ox1 := ox1.below c13
  replace og0 := og0.below c13
  replace oyx1 := oyx1.below c13
  have s13 : w12.heap.size ≤ w13.heap.size := c13.size
  clear oyx1 iyx1
  go_wp2_with fail
  refine (markFenceS_any ux0 l0 1 w5.heap.size _ hm0 (by omega) (by omega) (by omega) ox0).mono ?_
  rintro e w14 ⟨rfl, oo14, g14, c14⟩
  have b14 := b13.trans (c14.mono (by omega))
  replace ow0 := ow0.grown g14 (Within.apart iw0 ix0 (by first | exact .inl (by omega) | exact .inr (by omega)))
  replace ox1 := ox1.grown g14 (Within.apart ix1 ix0 (by first | exact .inl (by omega) | exact .inr (by omega)))
  replace og0 := og0.grown g14 (Within.apart ig0 ix0 (by first | exact .inl (by omega) | exact .inr (by omega)))
  have s14 : w13.heap.size ≤ w14.heap.size := c14.size
  replace ox0 := oo14
  go_wp2_with fail
  refine (markFenceS_any ux1 l1 (1 + 4 * l0.length) w6.heap.size _ hm1 (by omega) (by omega) (by omega) ox1).mono ?_
  rintro e w15 ⟨rfl, oo15, g15, c15⟩
  have b15 := b14.trans (c15.mono (by omega))
  replace ow0 := ow0.grown g15 (Within.apart iw0 ix1 (by first | exact .inl (by omega) | exact .inr (by omega)))
  replace ox0 := ox0.grown g15 (Within.apart ix0 ix1 (by first | exact .inl (by omega) | exact .inr (by omega)))
  replace og0 := og0.grown g15 (Within.apart ig0 ix1 (by first | exact .inl (by omega) | exact .inr (by omega)))
  have s15 : w14.heap.size ≤ w15.heap.size := c15.size
  replace ox1 := oo15
  go_wp2_with fail
  refine (eqFenceS_any ug0 uw0 (putAll l0 l1) (putAll l0 l1) _ hmr hmr (Rd.of_own og0) (Rd.of_own ow0)).mono ?_
  rintro e w16 ⟨rfl, c16⟩
  have b16 := bnext b15 c16
  replace ow0 := ow0.below c16
  replace ox0 := ox0.below c16
  replace ox1 := ox1.below c16
  replace og0 := og0.below c16
  have s16 : w15.heap.size ≤ w16.heap.size := c16.size
  go_wp2_with fail
  refine (markFenceS_any ug0 (putAll l0 l1) 1 w7.heap.size _ hmr (by omega) (by omega) (by omega) og0).mono ?_
  rintro e w17 ⟨rfl, oo17, g17, c17⟩
  have b17 := b16.trans (c17.mono (by omega))
  replace ow0 := ow0.grown g17 (Within.apart iw0 ig0 (by first | exact .inl (by omega) | exact .inr (by omega)))
  replace ox0 := ox0.grown g17 (Within.apart ix0 ig0 (by first | exact .inl (by omega) | exact .inr (by omega)))
  replace ox1 := ox1.grown g17 (Within.apart ix1 ig0 (by first | exact .inl (by omega) | exact .inr (by omega)))
  have s17 : w16.heap.size ≤ w17.heap.size := c17.size
  replace og0 := oo17
  go_wp2_with fail
  refine (heldFenceS_any ug0 (putAll l0 l1).length 1 _ hmr (by omega) (by omega) (Rd.of_own og0)).mono ?_
  rintro e w18 ⟨rfl, c18⟩
  have b18 := bnext b17 c18
  replace ow0 := ow0.below c18
  replace ox0 := ox0.below c18
  replace ox1 := ox1.below c18
  replace og0 := og0.below c18
  have s18 : w17.heap.size ≤ w18.heap.size := c18.size
  go_wp2_with fail
  refine (toFenceS_any (.slice A0 l0.length e0) l0 _ hm0 ((h0.below b18).more b18.size)).mono ?_
  rintro e w19 ⟨uh0i0, rfl, oh0i0, c19⟩
  have b19 := bnext b18 c19
  replace ow0 := ow0.below c19
  replace ox0 := ox0.below c19
  replace ox1 := ox1.below c19
  replace og0 := og0.below c19
  have s19 : w18.heap.size ≤ w19.heap.size := c19.size
  replace oh0i0 : Ow fenceE 80 w19 w18.heap.size uh0i0 l0 := oh0i0
  have ih0i0 := oh0i0.within
  go_wp2_with fail
  refine (toFenceS_any (.slice A1 l1.length e1) l1 _ hm1 ((h1.below b19).more b19.size)).mono ?_
  rintro e w20 ⟨uh0i1, rfl, oh0i1, c20⟩
  have b20 := bnext b19 c20
  replace ow0 := ow0.below c20
  replace ox0 := ox0.below c20
  replace ox1 := ox1.below c20
  replace og0 := og0.below c20
  replace oh0i0 := oh0i0.below c20
  have s20 : w19.heap.size ≤ w20.heap.size := c20.size
  replace oh0i1 : Ow fenceE 80 w20 w19.heap.size uh0i1 l1 := oh0i1
  have ih0i1 := oh0i1.within
  go_wp2_with fail
  refine (implPutAll_any uh0i0 l0 uh0i1 l1 _ hm0 hm1 (Rd.of_own oh0i0) (Rd.of_own oh0i1)).mono ?_
  rintro e w21 ⟨uh0, rfl, oh0, c21⟩
  have b21 := bnext b20 c21
  replace ow0 := ow0.below c21
  replace ox0 := ox0.below c21
  replace ox1 := ox1.below c21
  replace og0 := og0.below c21
  replace oh0i0 := oh0i0.below c21
  replace oh0i1 := oh0i1.below c21
  have s21 : w20.heap.size ≤ w21.heap.size := c21.size
  replace oh0 : Ow fenceE 80 w21 w20.heap.size uh0 (putAll l0 l1) := oh0
  have ih0 := oh0.within
  clear oh0i0 ih0i0
  clear oh0i1 ih0i1
  go_wp2_with fail
  refine (eqFenceS_any uh0 uw0 (putAll l0 l1) (putAll l0 l1) _ hmr hmr (Rd.of_own oh0) (Rd.of_own ow0)).mono ?_
  rintro e w22 ⟨rfl, c22⟩
  have b22 := bnext b21 c22
  replace ow0 := ow0.below c22
  replace ox0 := ox0.below c22
  replace ox1 := ox1.below c22
  replace og0 := og0.below c22
  replace oh0 := oh0.below c22
  have s22 : w21.heap.size ≤ w22.heap.size := c22.size
  go_wp2_with fail
  refine (heldFenceS_any ug0 (putAll l0 l1).length 1 _ hmr (by omega) (by omega) (Rd.of_own og0)).mono ?_
  rintro e w23 ⟨rfl, c23⟩
  have b23 := bnext b22 c23
  replace ow0 := ow0.below c23
  replace ox0 := ox0.below c23
  replace ox1 := ox1.below c23
  replace og0 := og0.below c23
  replace oh0 := oh0.below c23
  have s23 : w22.heap.size ≤ w23.heap.size := c23.size
  go_wp2_with fail
  go_ret
  exact ⟨rfl, b23⟩
end Go.Proofs.Ytoccmpijfggmkaa
