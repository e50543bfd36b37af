/-
  The law FnExactSlotsFor: its walk, out of the contracts of what it calls. Written by program (lawgen.py).
-/
import Derived.Test.YtoccmpijfggmkaaSf
import Derived.Test.YtoccmpijfggmkaaPh
import Derived.Test.YtoccmpijfggmkaaIn
import Derived.Test.YtoccmpijfggmkaaBx
import Derived.Test.YtoccmpijfggmkaaMk
import Derived.Deep.RegionHeld3
namespace Go.Proofs.Ytoccmpijfggmkaa
open Go.RowKit
set_option maxRecDepth 100000
set_option maxHeartbeats 2000000

theorem lawSlotsFor_walk (ve0 : Value) (p0 : Plan) (v1 : Value) (l1 : List Int) (n2 : Int) (w : World) (hl0 : p0.edges.length ≤ 9223372036854775807) (h0 : Rd edgeE w w.heap.size ve0 p0.edges) (hl1 : l1.length ≤ 9223372036854775807) (h1 : Rd intE w w.heap.size v1 l1) (_hk1 : ∀ s ∈ l1, -9223372036854775808 ≤ s ∧ s ≤ 9223372036854775807) :
    Calls Try.prog 24 #[planV p0 ve0, v1, .int .i64 n2] w fun e w' => e = .returned (.bool true) ∧ Below w.heap.size w w' := by
  obtain ⟨A1, e1, rfl, -⟩ := id h1
  have b0 := Below.refl w.heap.size w
  unfold planV
  by_cases hbig1 : (1048576 : Int) < (l1.length : Int)
  · go_enter Try.func24, Try.ntmps24
    go_wp2
    go_ret
    exact ⟨rfl, by repeat (first | exact Below.refl _ _ | refine Below.alloc ?_ (by simp <;> omega) _)⟩
  have hm1 : l1.length ≤ 2000000 := by omega
  go_enter Try.func24, Try.ntmps24
  go_wp2_with fail
  generalize hW1 : w.alloc (.cells #[.int .i64 p0.prio, .int .i64 p0.most, .int .i64 p0.wait, .int .i64 p0.tasks, ve0] 42) = w1
  have c1 : Below w.heap.size w w1 := by rw [← hW1]; exact planBox_below 42 p0 ve0 w
  have DaP : BoxAt (w.heap.size) p0 ve0 w1 := by rw [← hW1]; exact BoxAt.new 42 p0 ve0 w
  clear hW1
  have laP := DaP.lt
  have b1 := bnext b0 c1
  have s1 : w.heap.size ≤ w1.heap.size := c1.size
  refine (szPlan_any p0 ve0 _ _ (by omega) (by omega) hl0 ((h0.below b1).more b1.size)).mono ?_
  rintro e w2 ⟨r2, rfl, hr2, c2⟩
  have b2 := bnext b1 c2
  replace DaP := DaP.below c2
  have s2 : w1.heap.size ≤ w2.heap.size := c2.size
  rcases hr2 with rfl | ⟨q2, z2⟩
  · go_wp2_with fail
    go_ret
    exact ⟨rfl, b2⟩
  have qb2 : decide (r2 < 0) = false := by simpa using q2
  have hm0 : p0.edges.length ≤ 2000000 := by omega
  have hmr : (schedOf p0 l1 n2).length ≤ 2000000 := Nat.le_trans (schedOf_len p0 l1 n2) (by omega)
  obtain ⟨xaP0, xaP1, xaP2, xaP3, xaP4, xaPs⟩ := DaP.cells
  go_wp2_with fail
  clear xaP0 xaP1 xaP2 xaP3 xaP4 xaPs
  refine (toPlan_any p0 ve0 _ hm0 ((h0.below b2).more b2.size)).mono ?_
  rintro e w3 ⟨uw0s0, rfl, ow0s0, c3⟩
  have b3 := bnext b2 c3
  replace DaP := DaP.below c3
  have s3 : w2.heap.size ≤ w3.heap.size := c3.size
  replace ow0s0 : Ow edgeE 91 w3 w2.heap.size uw0s0 p0.edges := ow0s0
  have iw0s0 := ow0s0.within
  go_wp2_with fail
  refine (toIntS_any (.slice A1 l1.length e1) l1 _ hm1 ((h1.below b3).more b3.size)).mono ?_
  rintro e w4 ⟨uw0s1, rfl, ow0s1, c4⟩
  have b4 := bnext b3 c4
  replace ow0s0 := ow0s0.below c4
  replace DaP := DaP.below c4
  have s4 : w3.heap.size ≤ w4.heap.size := c4.size
  replace ow0s1 : Ow intE 3 w4 w3.heap.size uw0s1 l1 := ow0s1
  have iw0s1 := ow0s1.within
  go_wp2_with fail
  refine (specSlotsFor_any p0 uw0s0 uw0s1 l1 n2 _ hm0 hm1 (Rd.of_own ow0s0) (Rd.of_own ow0s1)).mono ?_
  rintro e w5 ⟨uw0, rfl, ow0, c5⟩
  have b5 := bnext b4 c5
  replace ow0s0 := ow0s0.below c5
  replace ow0s1 := ow0s1.below c5
  replace DaP := DaP.below c5
  have s5 : w4.heap.size ≤ w5.heap.size := c5.size
  replace ow0 : Ow slotE 62 w5 w4.heap.size uw0 (schedOf p0 l1 n2) := ow0
  have iw0 := ow0.within
  clear ow0s0 iw0s0
  clear ow0s1 iw0s1
  obtain ⟨xaP0, xaP1, xaP2, xaP3, xaP4, xaPs⟩ := DaP.cells
  go_wp2_with fail
  clear xaP0 xaP1 xaP2 xaP3 xaP4 xaPs
  refine (toPlan_any p0 ve0 _ hm0 ((h0.below b5).more b5.size)).mono ?_
  rintro e w6 ⟨ux0, rfl, ox0, c6⟩
  have b6 := bnext b5 c6
  replace ow0 := ow0.below c6
  replace DaP := DaP.below c6
  have s6 : w5.heap.size ≤ w6.heap.size := c6.size
  replace ox0 : Ow edgeE 91 w6 w5.heap.size ux0 p0.edges := ox0
  have ix0 := ox0.within
  obtain ⟨Ax0, ex0, rfl, -⟩ := id (Rd.of_own ox0)
  go_wp2_with fail
  generalize hW7 : w6.alloc (.cells #[.int .i64 p0.prio, .int .i64 p0.most, .int .i64 p0.wait, .int .i64 p0.tasks, (.slice Ax0 p0.edges.length ex0)] 47) = w7
  have c7 : Below w6.heap.size w6 w7 := by rw [← hW7]; exact planBox_below 47 p0 (.slice Ax0 p0.edges.length ex0) w6
  have Dx0 : BoxAt (w6.heap.size) p0 (.slice Ax0 p0.edges.length ex0) w7 := by rw [← hW7]; exact BoxAt.new 47 p0 (.slice Ax0 p0.edges.length ex0) w6
  clear hW7
  have lx0 := Dx0.lt
  have b7 := bnext b6 c7
  replace ow0 := ow0.below c7
  replace ox0 := ox0.below c7
  replace DaP := DaP.below c7
  have s7 : w6.heap.size ≤ w7.heap.size := c7.size
  refine (toIntS_any (.slice A1 l1.length e1) l1 _ hm1 ((h1.below b7).more b7.size)).mono ?_
  rintro e w8 ⟨ux1, rfl, ox1, c8⟩
  have b8 := bnext b7 c8
  replace ow0 := ow0.below c8
  replace ox0 := ox0.below c8
  replace DaP := DaP.below c8
  replace Dx0 := Dx0.below c8
  have s8 : w7.heap.size ≤ w8.heap.size := c8.size
  replace ox1 : Ow intE 3 w8 w7.heap.size ux1 l1 := ox1
  have ix1 := ox1.within
  obtain ⟨xx00, xx01, xx02, xx03, xx04, xx0s⟩ := Dx0.cells
  go_wp2_with fail
  clear xx00 xx01 xx02 xx03 xx04 xx0s
  refine (implSlotsFor_any p0 (.slice Ax0 p0.edges.length ex0) ux1 l1 n2 _ hm0 hm1 (Rd.of_own ox0) (Rd.of_own ox1)).mono ?_
  rintro e w9 ⟨ug0, rfl, og0, c9⟩
  have b9 := bnext b8 c9
  replace ow0 := ow0.below c9
  replace ox0 := ox0.below c9
  replace ox1 := ox1.below c9
  replace DaP := DaP.below c9
  replace Dx0 := Dx0.below c9
  have s9 : w8.heap.size ≤ w9.heap.size := c9.size
  replace og0 : Ow slotE 62 w9 w8.heap.size ug0 (schedOf p0 l1 n2) := og0
  have ig0 := og0.within
  go_wp2_with fail
  refine (eqSlotS_any ug0 uw0 (schedOf p0 l1 n2) (schedOf p0 l1 n2) _ hmr hmr (Rd.of_own og0) (Rd.of_own ow0)).mono ?_
  rintro e w10 ⟨rfl, c10⟩
  have b10 := bnext b9 c10
  replace ow0 := ow0.below c10
  replace ox0 := ox0.below c10
  replace ox1 := ox1.below c10
  replace og0 := og0.below c10
  replace DaP := DaP.below c10
  replace Dx0 := Dx0.below c10
  have s10 : w9.heap.size ≤ w10.heap.size := c10.size
  obtain ⟨xx00, xx01, xx02, xx03, xx04, xx0s⟩ := Dx0.cells
  obtain ⟨xaP0, xaP1, xaP2, xaP3, xaP4, xaPs⟩ := DaP.cells
  go_wp2_with fail
  clear xx00 xx01 xx02 xx03 xx04 xx0s xaP0 xaP1 xaP2 xaP3 xaP4 xaPs
  obtain ⟨xx00, xx01, xx02, xx03, xx04, xx0s⟩ := Dx0.cells
  obtain ⟨xaP0, xaP1, xaP2, xaP3, xaP4, xaPs⟩ := DaP.cells
  go_region_held3 (fun w' => w'.cell? ⟨w6.heap.size, 0, none⟩ = some (.int .i64 p0.prio) ∧ w'.cell? ⟨w6.heap.size, 1, none⟩ = some (.int .i64 p0.most) ∧ w'.cell? ⟨w6.heap.size, 2, none⟩ = some (.int .i64 p0.wait) ∧ w'.cell? ⟨w6.heap.size, 3, none⟩ = some (.int .i64 p0.tasks) ∧ w'.cell? ⟨w6.heap.size, 4, none⟩ = some ((.slice Ax0 p0.edges.length ex0)) ∧ w'.cell? ⟨w.heap.size, 0, none⟩ = some (.int .i64 p0.prio) ∧ w'.cell? ⟨w.heap.size, 1, none⟩ = some (.int .i64 p0.most) ∧ w'.cell? ⟨w.heap.size, 2, none⟩ = some (.int .i64 p0.wait) ∧ w'.cell? ⟨w.heap.size, 3, none⟩ = some (.int .i64 p0.tasks) ∧ w'.cell? ⟨w.heap.size, 4, none⟩ = some (ve0))
    (first | (refine ⟨?_, ?_, ?_, ?_, ?_, ?_, ?_, ?_, ?_, ?_⟩ <;> first | assumption | go_keep) | go_keep)
    (first
      | (go_at_call 45; (with_reducible refine (toPlan_any p0 ve0 _ hm0 ((h0.below b10.drew).more b10.drew.size)).mono ?_); rintro e w11 ⟨uyx0, rfl, oyx0, c11⟩; have b11 := bnext b10 (bnext ((Below.refl w10.heap.size w10).drew) c11); replace ow0 := ow0.below (bnext ((Below.refl w10.heap.size w10).drew) c11); replace ox0 := ox0.below (bnext ((Below.refl w10.heap.size w10).drew) c11); replace ox1 := ox1.below (bnext ((Below.refl w10.heap.size w10).drew) c11); replace og0 := og0.below (bnext ((Below.refl w10.heap.size w10).drew) c11); replace DaP := DaP.below (bnext ((Below.refl w10.heap.size w10).drew) c11); replace Dx0 := Dx0.below (bnext ((Below.refl w10.heap.size w10).drew) c11); have s11 : w10.heap.size ≤ w11.heap.size := c11.size; replace oyx0 : Ow edgeE 91 w11 w10.heap.size uyx0 p0.edges := oyx0; have iyx0 := oyx0.within; obtain ⟨Xx00, Xx01, Xx02, Xx03, Xx04, Xx0s⟩ := Dx0.cells; obtain ⟨XaP0, XaP1, XaP2, XaP3, XaP4, XaPs⟩ := DaP.cells)
      | (go_at_call 47; (with_reducible refine (eqPlan_any p0 p0 _ _ _ hm0 hm0 (Rd.of_own ox0) (Rd.of_own oyx0)).mono ?_); rintro e w12 ⟨rfl, c12⟩; have b12 := bnext b11 c12; replace ow0 := ow0.below c12; replace ox0 := ox0.below c12; replace ox1 := ox1.below c12; replace og0 := og0.below c12; replace oyx0 := oyx0.below c12; replace DaP := DaP.below c12; replace Dx0 := Dx0.below c12; have s12 : w11.heap.size ≤ w12.heap.size := c12.size; clear oyx0 iyx0; obtain ⟨X1x00, X1x01, X1x02, X1x03, X1x04, X1x0s⟩ := Dx0.cells; obtain ⟨X1aP0, X1aP1, X1aP2, X1aP3, X1aP4, X1aPs⟩ := DaP.cells))
  clear xx00 xx01 xx02 xx03 xx04 xx0s xaP0 xaP1 xaP2 xaP3 xaP4 xaPs
  clear Xx00 Xx01 Xx02 Xx03 Xx04 Xx0s XaP0 XaP1 XaP2 XaP3 XaP4 XaPs
  clear X1x00 X1x01 X1x02 X1x03 X1x04 X1x0s X1aP0 X1aP1 X1aP2 X1aP3 X1aP4 X1aPs
  go_wp2_with fail
  refine (toIntS_any (.slice A1 l1.length e1) l1 _ hm1 ((h1.below b12).more b12.size)).mono ?_
  rintro e w13 ⟨uyx1, rfl, oyx1, c13⟩
  have b13 := bnext b12 c13
  replace ow0 := ow0.below c13
  replace ox0 := ox0.below c13
  replace ox1 := ox1.below c13
  replace og0 := og0.below c13
  replace DaP := DaP.below c13
  replace Dx0 := Dx0.below c13
  have s13 : w12.heap.size ≤ w13.heap.size := c13.size
  replace oyx1 : Ow intE 3 w13 w12.heap.size uyx1 l1 := oyx1
  have iyx1 := oyx1.within
  go_wp2_with fail
  refine (eqIntS_any ux1 uyx1 l1 l1 _ hm1 hm1 (Rd.of_own ox1) (Rd.of_own oyx1)).mono ?_
  rintro e w14 ⟨rfl, c14⟩
  have b14 := bnext b13 c14
  replace ow0 := ow0.below c14
  replace ox0 := ox0.below c14
  replace ox1 := ox1.below c14
  replace og0 := og0.below c14
  replace oyx1 := oyx1.below c14
  replace DaP := DaP.below c14
  replace Dx0 := Dx0.below c14
  have s14 : w13.heap.size ≤ w14.heap.size := c14.size
  clear oyx1 iyx1
  obtain ⟨xx00, xx01, xx02, xx03, xx04, xx0s⟩ := Dx0.cells
  go_wp2_with fail
  clear xx00 xx01 xx02 xx03 xx04 xx0s
  refine (markPlan_any p0 (.slice Ax0 p0.edges.length ex0) 1 w5.heap.size _ hm0 (by omega) (by omega) (by omega) ox0).mono ?_
  rintro e w15 ⟨rfl, oo15, g15, c15⟩
  have b15 := b14.trans (c15.mono (by omega))
  replace ow0 := ow0.grown g15 (Within.apart iw0 ix0 (by first | exact .inl (by omega) | exact .inr (by omega)))
  replace ox1 := ox1.grown g15 (Within.apart ix1 ix0 (by first | exact .inl (by omega) | exact .inr (by omega)))
  replace og0 := og0.grown g15 (Within.apart ig0 ix0 (by first | exact .inl (by omega) | exact .inr (by omega)))
  replace DaP := DaP.mark g15 ix0 (by first | exact .inl (by omega) | exact .inr (by omega))
  replace Dx0 := Dx0.mark g15 ix0 (by first | exact .inl (by omega) | exact .inr (by omega))
  have s15 : w14.heap.size ≤ w15.heap.size := c15.size
  replace ox0 := oo15
  go_wp2_with fail
  refine (markIntS_any ux1 l1 (1 + 2 * p0.edges.length) w7.heap.size _ hm1 (by omega) (by omega) (by omega) ox1).mono ?_
  rintro e w16 ⟨rfl, oo16, g16, c16⟩
  have b16 := b15.trans (c16.mono (by omega))
  replace ow0 := ow0.grown g16 (Within.apart iw0 ix1 (by first | exact .inl (by omega) | exact .inr (by omega)))
  replace ox0 := ox0.grown g16 (Within.apart ix0 ix1 (by first | exact .inl (by omega) | exact .inr (by omega)))
  replace og0 := og0.grown g16 (Within.apart ig0 ix1 (by first | exact .inl (by omega) | exact .inr (by omega)))
  replace DaP := DaP.mark g16 ix1 (by first | exact .inl (by omega) | exact .inr (by omega))
  replace Dx0 := Dx0.mark g16 ix1 (by first | exact .inl (by omega) | exact .inr (by omega))
  have s16 : w15.heap.size ≤ w16.heap.size := c16.size
  replace ox1 := oo16
  go_wp2_with fail
  refine (eqSlotS_any ug0 uw0 (schedOf p0 l1 n2) (schedOf p0 l1 n2) _ hmr hmr (Rd.of_own og0) (Rd.of_own ow0)).mono ?_
  rintro e w17 ⟨rfl, c17⟩
  have b17 := bnext b16 c17
  replace ow0 := ow0.below c17
  replace ox0 := ox0.below c17
  replace ox1 := ox1.below c17
  replace og0 := og0.below c17
  replace DaP := DaP.below c17
  replace Dx0 := Dx0.below c17
  have s17 : w16.heap.size ≤ w17.heap.size := c17.size
  go_wp2_with fail
  refine (markSlotS_any ug0 (schedOf p0 l1 n2) 1 w8.heap.size _ hmr (by omega) (by omega) (by omega) og0).mono ?_
  rintro e w18 ⟨rfl, oo18, g18, c18⟩
  have b18 := b17.trans (c18.mono (by omega))
  replace ow0 := ow0.grown g18 (Within.apart iw0 ig0 (by first | exact .inl (by omega) | exact .inr (by omega)))
  replace ox0 := ox0.grown g18 (Within.apart ix0 ig0 (by first | exact .inl (by omega) | exact .inr (by omega)))
  replace ox1 := ox1.grown g18 (Within.apart ix1 ig0 (by first | exact .inl (by omega) | exact .inr (by omega)))
  replace DaP := DaP.mark g18 ig0 (by first | exact .inl (by omega) | exact .inr (by omega))
  replace Dx0 := Dx0.mark g18 ig0 (by first | exact .inl (by omega) | exact .inr (by omega))
  have s18 : w17.heap.size ≤ w18.heap.size := c18.size
  replace og0 := oo18
  go_wp2_with fail
  refine (heldSlotS_any ug0 (schedOf p0 l1 n2).length 1 _ hmr (by omega) (by omega) (Rd.of_own og0)).mono ?_
  rintro e w19 ⟨rfl, c19⟩
  have b19 := bnext b18 c19
  replace ow0 := ow0.below c19
  replace ox0 := ox0.below c19
  replace ox1 := ox1.below c19
  replace og0 := og0.below c19
  replace DaP := DaP.below c19
  replace Dx0 := Dx0.below c19
  have s19 : w18.heap.size ≤ w19.heap.size := c19.size
  obtain ⟨xaP0, xaP1, xaP2, xaP3, xaP4, xaPs⟩ := DaP.cells
  go_wp2_with fail
  clear xaP0 xaP1 xaP2 xaP3 xaP4 xaPs
  refine (toPlan_any p0 ve0 _ hm0 ((h0.below b19).more b19.size)).mono ?_
  rintro e w20 ⟨uh0i0, rfl, oh0i0, c20⟩
  have b20 := bnext b19 c20
  replace ow0 := ow0.below c20
  replace ox0 := ox0.below c20
  replace ox1 := ox1.below c20
  replace og0 := og0.below c20
  replace DaP := DaP.below c20
  replace Dx0 := Dx0.below c20
  have s20 : w19.heap.size ≤ w20.heap.size := c20.size
  replace oh0i0 : Ow edgeE 91 w20 w19.heap.size uh0i0 p0.edges := oh0i0
  have ih0i0 := oh0i0.within
  go_wp2_with fail
  refine (toIntS_any (.slice A1 l1.length e1) l1 _ hm1 ((h1.below b20).more b20.size)).mono ?_
  rintro e w21 ⟨uh0i1, rfl, oh0i1, c21⟩
  have b21 := bnext b20 c21
  replace ow0 := ow0.below c21
  replace ox0 := ox0.below c21
  replace ox1 := ox1.below c21
  replace og0 := og0.below c21
  replace oh0i0 := oh0i0.below c21
  replace DaP := DaP.below c21
  replace Dx0 := Dx0.below c21
  have s21 : w20.heap.size ≤ w21.heap.size := c21.size
  replace oh0i1 : Ow intE 3 w21 w20.heap.size uh0i1 l1 := oh0i1
  have ih0i1 := oh0i1.within
  go_wp2_with fail
  refine (implSlotsFor_any p0 uh0i0 uh0i1 l1 n2 _ hm0 hm1 (Rd.of_own oh0i0) (Rd.of_own oh0i1)).mono ?_
  rintro e w22 ⟨uh0, rfl, oh0, c22⟩
  have b22 := bnext b21 c22
  replace ow0 := ow0.below c22
  replace ox0 := ox0.below c22
  replace ox1 := ox1.below c22
  replace og0 := og0.below c22
  replace oh0i0 := oh0i0.below c22
  replace oh0i1 := oh0i1.below c22
  replace DaP := DaP.below c22
  replace Dx0 := Dx0.below c22
  have s22 : w21.heap.size ≤ w22.heap.size := c22.size
  replace oh0 : Ow slotE 62 w22 w21.heap.size uh0 (schedOf p0 l1 n2) := oh0
  have ih0 := oh0.within
  clear oh0i0 ih0i0
  clear oh0i1 ih0i1
  go_wp2_with fail
  refine (eqSlotS_any uh0 uw0 (schedOf p0 l1 n2) (schedOf p0 l1 n2) _ hmr hmr (Rd.of_own oh0) (Rd.of_own ow0)).mono ?_
  rintro e w23 ⟨rfl, c23⟩
  have b23 := bnext b22 c23
  replace ow0 := ow0.below c23
  replace ox0 := ox0.below c23
  replace ox1 := ox1.below c23
  replace og0 := og0.below c23
  replace oh0 := oh0.below c23
  replace DaP := DaP.below c23
  replace Dx0 := Dx0.below c23
  have s23 : w22.heap.size ≤ w23.heap.size := c23.size
  go_wp2_with fail
  refine (heldSlotS_any ug0 (schedOf p0 l1 n2).length 1 _ hmr (by omega) (by omega) (Rd.of_own og0)).mono ?_
  rintro e w24 ⟨rfl, c24⟩
  have b24 := bnext b23 c24
  replace ow0 := ow0.below c24
  replace ox0 := ox0.below c24
  replace ox1 := ox1.below c24
  replace og0 := og0.below c24
  replace oh0 := oh0.below c24
  replace DaP := DaP.below c24
  replace Dx0 := Dx0.below c24
  have s24 : w23.heap.size ≤ w24.heap.size := c24.size
  go_wp2_with fail
  go_ret
  exact ⟨rfl, b24⟩
end Go.Proofs.Ytoccmpijfggmkaa
