/-
  The law FnExactSameOrder: its walk, out of the contracts of what it calls. Written by program (lawgen.py).
-/
import Derived.Test.YtoccmpijfggmkaaSs
import Derived.Test.YtoccmpijfggmkaaPh
import Derived.Test.YtoccmpijfggmkaaIn
import Derived.Test.YtoccmpijfggmkaaBx
import Derived.Test.YtoccmpijfggmkaaMk
import Derived.Deep.RegionHeld3
namespace Go.Proofs.Ytoccmpijfggmkaa
open Go.RowKit
set_option maxRecDepth 100000
set_option maxHeartbeats 2000000

theorem lawSameOrder_walk (ve0 : Value) (p0 : Plan) (ve1 : Value) (p1 : Plan) (w : World) (hl0 : p0.edges.length ≤ 9223372036854775807) (h0 : Rd edgeE w w.heap.size ve0 p0.edges) (hl1 : p1.edges.length ≤ 9223372036854775807) (h1 : Rd edgeE w w.heap.size ve1 p1.edges) :
    Calls Try.prog 7 #[planV p0 ve0, planV p1 ve1] w fun e w' => e = .returned (.bool true) ∧ Below w.heap.size w w' := by
  have b0 := Below.refl w.heap.size w
  unfold planV
  go_enter Try.func7, Try.ntmps7
  go_wp2_with fail
  generalize hW1 : w.alloc (.cells #[.int .i64 p0.prio, .int .i64 p0.most, .int .i64 p0.wait, .int .i64 p0.tasks, ve0] 42) = w1
  have c1 : Below w.heap.size w w1 := by rw [← hW1]; exact planBox_below 42 p0 ve0 w
  have DaP : BoxAt (w.heap.size) p0 ve0 w1 := by rw [← hW1]; exact BoxAt.new 42 p0 ve0 w
  have z1 : Hid (w1.heap.size = w.heap.size + 1) := by show w1.heap.size = _; rw [← hW1]; exact (planBox_size 42 p0 ve0 w).trans (by rfl)
  clear hW1
  have b1 := bnext b0 c1
  have s1 : w.heap.size ≤ w1.heap.size := c1.size
  generalize hW2 : w1.alloc (.cells #[.int .i64 p1.prio, .int .i64 p1.most, .int .i64 p1.wait, .int .i64 p1.tasks, ve1] 42) = w2
  have c2 : Below w1.heap.size w1 w2 := by rw [← hW2]; exact planBox_below 42 p1 ve1 w1
  have DaQ : BoxAt (w.heap.size + 1) p1 ve1 w2 := by rw [← z1.out]; rw [← hW2]; exact BoxAt.new 42 p1 ve1 w1
  have z2 : Hid (w2.heap.size = w.heap.size + 2) := by show w2.heap.size = _; rw [← hW2]; exact (planBox_size 42 p1 ve1 w1).trans (by rw [z1.out])
  clear hW2
  have b2 := bnext b1 c2
  replace DaP := DaP.below c2
  have s2 : w1.heap.size ≤ w2.heap.size := c2.size
  refine (szPlan_any p0 ve0 _ _ (by omega) (by omega) hl0 ((h0.below b2).more b2.size)).mono ?_
  rintro e w3 ⟨r3, rfl, hr3, c3⟩
  have b3 := bnext b2 c3
  replace DaP := DaP.below c3
  replace DaQ := DaQ.below c3
  have s3 : w2.heap.size ≤ w3.heap.size := c3.size
  rcases hr3 with rfl | ⟨q3, z3⟩
  · go_wp2_with fail
    go_ret
    exact ⟨rfl, b3⟩
  have qb3 : decide (r3 < 0) = false := by simpa using q3
  have hm0 : p0.edges.length ≤ 2000000 := by omega
  obtain ⟨xaQ0, xaQ1, xaQ2, xaQ3, xaQ4, xaQs⟩ := DaQ.cells
  go_wp2_with fail
  clear xaQ0 xaQ1 xaQ2 xaQ3 xaQ4 xaQs
  refine (szPlan_any p1 ve1 _ _ (by omega) (by omega) hl1 ((h1.below b3).more b3.size)).mono ?_
  rintro e w4 ⟨r4, rfl, hr4, c4⟩
  have b4 := bnext b3 c4
  replace DaP := DaP.below c4
  replace DaQ := DaQ.below c4
  have s4 : w3.heap.size ≤ w4.heap.size := c4.size
  rcases hr4 with rfl | ⟨q4, z4⟩
  · go_wp2_with fail
    go_ret
    exact ⟨rfl, b4⟩
  have qb4 : decide (r4 < 0) = false := by simpa using q4
  have hm1 : p1.edges.length ≤ 2000000 := by omega
  obtain ⟨xaP0, xaP1, xaP2, xaP3, xaP4, xaPs⟩ := DaP.cells
  obtain ⟨xaQ0, xaQ1, xaQ2, xaQ3, xaQ4, xaQs⟩ := DaQ.cells
  go_wp2_with fail
  clear xaP0 xaP1 xaP2 xaP3 xaP4 xaPs xaQ0 xaQ1 xaQ2 xaQ3 xaQ4 xaQs
  obtain ⟨xaP0, xaP1, xaP2, xaP3, xaP4, xaPs⟩ := DaP.cells
  obtain ⟨xaQ0, xaQ1, xaQ2, xaQ3, xaQ4, xaQs⟩ := DaQ.cells
  go_region_held3 (fun w' => Hid (Below w4.heap.size w4 w') ∧ w'.cell? ⟨w.heap.size, 0, none⟩ = some (.int .i64 p0.prio) ∧ w'.cell? ⟨w.heap.size, 1, none⟩ = some (.int .i64 p0.most) ∧ w'.cell? ⟨w.heap.size, 2, none⟩ = some (.int .i64 p0.wait) ∧ w'.cell? ⟨w.heap.size, 3, none⟩ = some (.int .i64 p0.tasks) ∧ w'.cell? ⟨w.heap.size, 4, none⟩ = some (ve0) ∧ w'.cell? ⟨w.heap.size + 1, 0, none⟩ = some (.int .i64 p1.prio) ∧ w'.cell? ⟨w.heap.size + 1, 1, none⟩ = some (.int .i64 p1.most) ∧ w'.cell? ⟨w.heap.size + 1, 2, none⟩ = some (.int .i64 p1.wait) ∧ w'.cell? ⟨w.heap.size + 1, 3, none⟩ = some (.int .i64 p1.tasks) ∧ w'.cell? ⟨w.heap.size + 1, 4, none⟩ = some (ve1))
    (first | (refine ⟨?_, ?_, ?_, ?_, ?_, ?_, ?_, ?_, ?_, ?_, ?_⟩ <;> first | (exact Lib.hid ((Below.refl _ _).drew)) | assumption | go_keep) | go_keep)
    (first
      | (go_at_call 45; (with_reducible refine (toPlan_any p0 ve0 _ hm0 ((h0.below b4.drew).more b4.drew.size)).mono ?_); rintro e w5 ⟨uw0s0, rfl, ow0s0, c5⟩; have b5 := bnext b4 (bnext ((Below.refl w4.heap.size w4).drew) c5); replace DaP := DaP.below (bnext ((Below.refl w4.heap.size w4).drew) c5); replace DaQ := DaQ.below (bnext ((Below.refl w4.heap.size w4).drew) c5); have s5 : w4.heap.size ≤ w5.heap.size := c5.size; have j5 := Lib.hid (bnext ((Below.refl w4.heap.size w4).drew) c5); replace ow0s0 : Ow edgeE 91 w5 w4.heap.size uw0s0 p0.edges := ow0s0; have iw0s0 := ow0s0.within; obtain ⟨XaP0, XaP1, XaP2, XaP3, XaP4, XaPs⟩ := DaP.cells; obtain ⟨XaQ0, XaQ1, XaQ2, XaQ3, XaQ4, XaQs⟩ := DaQ.cells)
      | (go_at_call 45; (with_reducible refine (toPlan_any p1 ve1 _ hm1 ((h1.below b5).more b5.size)).mono ?_); rintro e w6 ⟨uw0s1, rfl, ow0s1, c6⟩; have b6 := bnext b5 c6; replace ow0s0 := ow0s0.below c6; replace DaP := DaP.below c6; replace DaQ := DaQ.below c6; have s6 : w5.heap.size ≤ w6.heap.size := c6.size; have j6 := Lib.hid (bnext j5.out c6); replace ow0s1 : Ow edgeE 91 w6 w5.heap.size uw0s1 p1.edges := ow0s1; have iw0s1 := ow0s1.within; obtain ⟨X1aP0, X1aP1, X1aP2, X1aP3, X1aP4, X1aPs⟩ := DaP.cells; obtain ⟨X1aQ0, X1aQ1, X1aQ2, X1aQ3, X1aQ4, X1aQs⟩ := DaQ.cells)
      | (go_at_call 44; (with_reducible refine (specSameOrder_any p0 uw0s0 p1 uw0s1 _ hm0 hm1 (Rd.of_own ow0s0) (Rd.of_own ow0s1)).mono ?_); rintro e w7 ⟨rfl, c7⟩; have b7 := bnext b6 c7; replace ow0s0 := ow0s0.below c7; replace ow0s1 := ow0s1.below c7; replace DaP := DaP.below c7; replace DaQ := DaQ.below c7; have s7 : w6.heap.size ≤ w7.heap.size := c7.size; have j7 := Lib.hid (bnext j6.out c7); clear ow0s0 iw0s0; clear ow0s1 iw0s1; obtain ⟨X2aP0, X2aP1, X2aP2, X2aP3, X2aP4, X2aPs⟩ := DaP.cells; obtain ⟨X2aQ0, X2aQ1, X2aQ2, X2aQ3, X2aQ4, X2aQs⟩ := DaQ.cells))
  clear xaP0 xaP1 xaP2 xaP3 xaP4 xaPs xaQ0 xaQ1 xaQ2 xaQ3 xaQ4 xaQs
  clear XaP0 XaP1 XaP2 XaP3 XaP4 XaPs XaQ0 XaQ1 XaQ2 XaQ3 XaQ4 XaQs
  clear X1aP0 X1aP1 X1aP2 X1aP3 X1aP4 X1aPs X1aQ0 X1aQ1 X1aQ2 X1aQ3 X1aQ4 X1aQs
  clear X2aP0 X2aP1 X2aP2 X2aP3 X2aP4 X2aPs X2aQ0 X2aQ1 X2aQ2 X2aQ3 X2aQ4 X2aQs
  obtain ⟨xaP0, xaP1, xaP2, xaP3, xaP4, xaPs⟩ := DaP.cells
  go_wp2_with fail
  clear xaP0 xaP1 xaP2 xaP3 xaP4 xaPs
  refine (toPlan_any p0 ve0 _ hm0 ((h0.below b7).more b7.size)).mono ?_
  rintro e w8 ⟨ux0, rfl, ox0, c8⟩
  have b8 := bnext b7 c8
  replace DaP := DaP.below c8
  replace DaQ := DaQ.below c8
  have s8 : w7.heap.size ≤ w8.heap.size := c8.size
  replace ox0 : Ow edgeE 91 w8 w7.heap.size ux0 p0.edges := ox0
  have ix0 := ox0.within
  obtain ⟨Ax0, ex0, rfl, -⟩ := id (Rd.of_own ox0)
  obtain ⟨xaQ0, xaQ1, xaQ2, xaQ3, xaQ4, xaQs⟩ := DaQ.cells
  go_wp2_with fail
  clear xaQ0 xaQ1 xaQ2 xaQ3 xaQ4 xaQs
  generalize hW9 : w8.alloc (.cells #[.int .i64 p0.prio, .int .i64 p0.most, .int .i64 p0.wait, .int .i64 p0.tasks, (.slice Ax0 p0.edges.length ex0)] 47) = w9
  have c9 : Below w8.heap.size w8 w9 := by rw [← hW9]; exact planBox_below 47 p0 (.slice Ax0 p0.edges.length ex0) w8
  have Dx0 : BoxAt (w8.heap.size) p0 (.slice Ax0 p0.edges.length ex0) w9 := by rw [← hW9]; exact BoxAt.new 47 p0 (.slice Ax0 p0.edges.length ex0) w8
  clear hW9
  have b9 := bnext b8 c9
  replace ox0 := ox0.below c9
  replace DaP := DaP.below c9
  replace DaQ := DaQ.below c9
  have s9 : w8.heap.size ≤ w9.heap.size := c9.size
  refine (toPlan_any p1 ve1 _ hm1 ((h1.below b9).more b9.size)).mono ?_
  rintro e w10 ⟨ux1, rfl, ox1, c10⟩
  have b10 := bnext b9 c10
  replace ox0 := ox0.below c10
  replace DaP := DaP.below c10
  replace DaQ := DaQ.below c10
  replace Dx0 := Dx0.below c10
  have s10 : w9.heap.size ≤ w10.heap.size := c10.size
  replace ox1 : Ow edgeE 91 w10 w9.heap.size ux1 p1.edges := ox1
  have ix1 := ox1.within
  obtain ⟨Ax1, ex1, rfl, -⟩ := id (Rd.of_own ox1)
  obtain ⟨xx00, xx01, xx02, xx03, xx04, xx0s⟩ := Dx0.cells
  go_wp2_with fail
  clear xx00 xx01 xx02 xx03 xx04 xx0s
  generalize hW11 : w10.alloc (.cells #[.int .i64 p1.prio, .int .i64 p1.most, .int .i64 p1.wait, .int .i64 p1.tasks, (.slice Ax1 p1.edges.length ex1)] 47) = w11
  have c11 : Below w10.heap.size w10 w11 := by rw [← hW11]; exact planBox_below 47 p1 (.slice Ax1 p1.edges.length ex1) w10
  have Dx1 : BoxAt (w10.heap.size) p1 (.slice Ax1 p1.edges.length ex1) w11 := by rw [← hW11]; exact BoxAt.new 47 p1 (.slice Ax1 p1.edges.length ex1) w10
  clear hW11
  have b11 := bnext b10 c11
  replace ox0 := ox0.below c11
  replace ox1 := ox1.below c11
  replace DaP := DaP.below c11
  replace DaQ := DaQ.below c11
  replace Dx0 := Dx0.below c11
  have s11 : w10.heap.size ≤ w11.heap.size := c11.size
  refine (implSameOrder_any p0 (.slice Ax0 p0.edges.length ex0) p1 (.slice Ax1 p1.edges.length ex1) _ hm0 hm1 (Rd.of_own ox0) (Rd.of_own ox1)).mono ?_
  rintro e w12 ⟨rfl, c12⟩
  have b12 := bnext b11 c12
  replace ox0 := ox0.below c12
  replace ox1 := ox1.below c12
  replace DaP := DaP.below c12
  replace DaQ := DaQ.below c12
  replace Dx0 := Dx0.below c12
  replace Dx1 := Dx1.below c12
  have s12 : w11.heap.size ≤ w12.heap.size := c12.size
  obtain ⟨xx00, xx01, xx02, xx03, xx04, xx0s⟩ := Dx0.cells
  obtain ⟨xaP0, xaP1, xaP2, xaP3, xaP4, xaPs⟩ := DaP.cells
  go_wp2_with fail
  clear xx00 xx01 xx02 xx03 xx04 xx0s xaP0 xaP1 xaP2 xaP3 xaP4 xaPs
  obtain ⟨xx00, xx01, xx02, xx03, xx04, xx0s⟩ := Dx0.cells
  obtain ⟨xaP0, xaP1, xaP2, xaP3, xaP4, xaPs⟩ := DaP.cells
  go_region_held3 (fun w' => Hid (Below w12.heap.size w12 w') ∧ w'.cell? ⟨w8.heap.size, 0, none⟩ = some (.int .i64 p0.prio) ∧ w'.cell? ⟨w8.heap.size, 1, none⟩ = some (.int .i64 p0.most) ∧ w'.cell? ⟨w8.heap.size, 2, none⟩ = some (.int .i64 p0.wait) ∧ w'.cell? ⟨w8.heap.size, 3, none⟩ = some (.int .i64 p0.tasks) ∧ w'.cell? ⟨w8.heap.size, 4, none⟩ = some ((.slice Ax0 p0.edges.length ex0)) ∧ w'.cell? ⟨w.heap.size, 0, none⟩ = some (.int .i64 p0.prio) ∧ w'.cell? ⟨w.heap.size, 1, none⟩ = some (.int .i64 p0.most) ∧ w'.cell? ⟨w.heap.size, 2, none⟩ = some (.int .i64 p0.wait) ∧ w'.cell? ⟨w.heap.size, 3, none⟩ = some (.int .i64 p0.tasks) ∧ w'.cell? ⟨w.heap.size, 4, none⟩ = some (ve0))
    (first | (refine ⟨?_, ?_, ?_, ?_, ?_, ?_, ?_, ?_, ?_, ?_, ?_⟩ <;> first | (exact Lib.hid ((Below.refl _ _).drew)) | assumption | go_keep) | go_keep)
    (first
      | (go_at_call 45; (with_reducible refine (toPlan_any p0 ve0 _ hm0 ((h0.below b12.drew).more b12.drew.size)).mono ?_); rintro e w13 ⟨uyx0, rfl, oyx0, c13⟩; have b13 := bnext b12 (bnext ((Below.refl w12.heap.size w12).drew) c13); replace ox0 := ox0.below (bnext ((Below.refl w12.heap.size w12).drew) c13); replace ox1 := ox1.below (bnext ((Below.refl w12.heap.size w12).drew) c13); replace DaP := DaP.below (bnext ((Below.refl w12.heap.size w12).drew) c13); replace DaQ := DaQ.below (bnext ((Below.refl w12.heap.size w12).drew) c13); replace Dx0 := Dx0.below (bnext ((Below.refl w12.heap.size w12).drew) c13); replace Dx1 := Dx1.below (bnext ((Below.refl w12.heap.size w12).drew) c13); have s13 : w12.heap.size ≤ w13.heap.size := c13.size; have j13 := Lib.hid (bnext ((Below.refl w12.heap.size w12).drew) c13); replace oyx0 : Ow edgeE 91 w13 w12.heap.size uyx0 p0.edges := oyx0; have iyx0 := oyx0.within; obtain ⟨Xx00, Xx01, Xx02, Xx03, Xx04, Xx0s⟩ := Dx0.cells; obtain ⟨XaP0, XaP1, XaP2, XaP3, XaP4, XaPs⟩ := DaP.cells)
      | (go_at_call 47; (with_reducible refine (eqPlan_any p0 p0 _ _ _ hm0 hm0 (Rd.of_own ox0) (Rd.of_own oyx0)).mono ?_); rintro e w14 ⟨rfl, c14⟩; have b14 := bnext b13 c14; replace ox0 := ox0.below c14; replace ox1 := ox1.below c14; replace oyx0 := oyx0.below c14; replace DaP := DaP.below c14; replace DaQ := DaQ.below c14; replace Dx0 := Dx0.below c14; replace Dx1 := Dx1.below c14; have s14 : w13.heap.size ≤ w14.heap.size := c14.size; have j14 := Lib.hid (bnext j13.out c14); clear oyx0 iyx0; obtain ⟨X1x00, X1x01, X1x02, X1x03, X1x04, X1x0s⟩ := Dx0.cells; obtain ⟨X1aP0, X1aP1, X1aP2, X1aP3, X1aP4, X1aPs⟩ := DaP.cells))
  clear xx00 xx01 xx02 xx03 xx04 xx0s xaP0 xaP1 xaP2 xaP3 xaP4 xaPs
  clear Xx00 Xx01 Xx02 Xx03 Xx04 Xx0s XaP0 XaP1 XaP2 XaP3 XaP4 XaPs
  clear X1x00 X1x01 X1x02 X1x03 X1x04 X1x0s X1aP0 X1aP1 X1aP2 X1aP3 X1aP4 X1aPs
  obtain ⟨xx10, xx11, xx12, xx13, xx14, xx1s⟩ := Dx1.cells
  obtain ⟨xaQ0, xaQ1, xaQ2, xaQ3, xaQ4, xaQs⟩ := DaQ.cells
  go_wp2_with fail
  clear xx10 xx11 xx12 xx13 xx14 xx1s xaQ0 xaQ1 xaQ2 xaQ3 xaQ4 xaQs
  obtain ⟨xx10, xx11, xx12, xx13, xx14, xx1s⟩ := Dx1.cells
  obtain ⟨xaQ0, xaQ1, xaQ2, xaQ3, xaQ4, xaQs⟩ := DaQ.cells
  go_region_held3 (fun w' => Hid (Below w14.heap.size w14 w') ∧ w'.cell? ⟨w10.heap.size, 0, none⟩ = some (.int .i64 p1.prio) ∧ w'.cell? ⟨w10.heap.size, 1, none⟩ = some (.int .i64 p1.most) ∧ w'.cell? ⟨w10.heap.size, 2, none⟩ = some (.int .i64 p1.wait) ∧ w'.cell? ⟨w10.heap.size, 3, none⟩ = some (.int .i64 p1.tasks) ∧ w'.cell? ⟨w10.heap.size, 4, none⟩ = some ((.slice Ax1 p1.edges.length ex1)) ∧ w'.cell? ⟨w.heap.size + 1, 0, none⟩ = some (.int .i64 p1.prio) ∧ w'.cell? ⟨w.heap.size + 1, 1, none⟩ = some (.int .i64 p1.most) ∧ w'.cell? ⟨w.heap.size + 1, 2, none⟩ = some (.int .i64 p1.wait) ∧ w'.cell? ⟨w.heap.size + 1, 3, none⟩ = some (.int .i64 p1.tasks) ∧ w'.cell? ⟨w.heap.size + 1, 4, none⟩ = some (ve1))
    (first | (refine ⟨?_, ?_, ?_, ?_, ?_, ?_, ?_, ?_, ?_, ?_, ?_⟩ <;> first | (exact Lib.hid ((Below.refl _ _).drew)) | assumption | go_keep) | go_keep)
    (first
      | (go_at_call 45; (with_reducible refine (toPlan_any p1 ve1 _ hm1 ((h1.below b14.drew).more b14.drew.size)).mono ?_); rintro e w15 ⟨uyx1, rfl, oyx1, c15⟩; have b15 := bnext b14 (bnext ((Below.refl w14.heap.size w14).drew) c15); replace ox0 := ox0.below (bnext ((Below.refl w14.heap.size w14).drew) c15); replace ox1 := ox1.below (bnext ((Below.refl w14.heap.size w14).drew) c15); replace DaP := DaP.below (bnext ((Below.refl w14.heap.size w14).drew) c15); replace DaQ := DaQ.below (bnext ((Below.refl w14.heap.size w14).drew) c15); replace Dx0 := Dx0.below (bnext ((Below.refl w14.heap.size w14).drew) c15); replace Dx1 := Dx1.below (bnext ((Below.refl w14.heap.size w14).drew) c15); have s15 : w14.heap.size ≤ w15.heap.size := c15.size; have j15 := Lib.hid (bnext ((Below.refl w14.heap.size w14).drew) c15); replace oyx1 : Ow edgeE 91 w15 w14.heap.size uyx1 p1.edges := oyx1; have iyx1 := oyx1.within; obtain ⟨Xx10, Xx11, Xx12, Xx13, Xx14, Xx1s⟩ := Dx1.cells; obtain ⟨XaQ0, XaQ1, XaQ2, XaQ3, XaQ4, XaQs⟩ := DaQ.cells)
      | (go_at_call 47; (with_reducible refine (eqPlan_any p1 p1 _ _ _ hm1 hm1 (Rd.of_own ox1) (Rd.of_own oyx1)).mono ?_); rintro e w16 ⟨rfl, c16⟩; have b16 := bnext b15 c16; replace ox0 := ox0.below c16; replace ox1 := ox1.below c16; replace oyx1 := oyx1.below c16; replace DaP := DaP.below c16; replace DaQ := DaQ.below c16; replace Dx0 := Dx0.below c16; replace Dx1 := Dx1.below c16; have s16 : w15.heap.size ≤ w16.heap.size := c16.size; have j16 := Lib.hid (bnext j15.out c16); clear oyx1 iyx1; obtain ⟨X1x10, X1x11, X1x12, X1x13, X1x14, X1x1s⟩ := Dx1.cells; obtain ⟨X1aQ0, X1aQ1, X1aQ2, X1aQ3, X1aQ4, X1aQs⟩ := DaQ.cells))
  clear xx10 xx11 xx12 xx13 xx14 xx1s xaQ0 xaQ1 xaQ2 xaQ3 xaQ4 xaQs
  clear Xx10 Xx11 Xx12 Xx13 Xx14 Xx1s XaQ0 XaQ1 XaQ2 XaQ3 XaQ4 XaQs
  clear X1x10 X1x11 X1x12 X1x13 X1x14 X1x1s X1aQ0 X1aQ1 X1aQ2 X1aQ3 X1aQ4 X1aQs
  go_wp2_with fail
  go_ret
  exact ⟨rfl, b16⟩
end Go.Proofs.Ytoccmpijfggmkaa
