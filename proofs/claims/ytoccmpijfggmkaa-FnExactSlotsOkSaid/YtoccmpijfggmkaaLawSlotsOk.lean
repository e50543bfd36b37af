/-
  The law FnExactSlotsOk: its walk, out of the contracts of what it calls. Written by program (lawgen.py).
-/
import Derived.Test.YtoccmpijfggmkaaSr
import Derived.Test.YtoccmpijfggmkaaPh
import Derived.Test.YtoccmpijfggmkaaIn
import Derived.Test.YtoccmpijfggmkaaBx
import Derived.Test.YtoccmpijfggmkaaMk
import Derived.Deep.RegionHeld3
namespace Go.Proofs.Ytoccmpijfggmkaa
open Go.RowKit
set_option maxRecDepth 100000
set_option maxHeartbeats 2000000

theorem lawSlotsOk_walk (ve0 : Value) (p0 : Plan) (v1 : Value) (l1 : List Int) (n2 : Int) (v3 : Value) (l3 : List Slot) (w : World) (hl0 : p0.edges.length ≤ 9223372036854775807) (h0 : Rd edgeE w w.heap.size ve0 p0.edges) (hl1 : l1.length ≤ 9223372036854775807) (h1 : Rd intE w w.heap.size v1 l1) (_hk1 : ∀ s ∈ l1, -9223372036854775808 ≤ s ∧ s ≤ 9223372036854775807) (hl3 : l3.length ≤ 9223372036854775807) (h3 : Rd slotE w w.heap.size v3 l3) :
    Calls Try.prog 15 #[planV p0 ve0, v1, .int .i64 n2, v3] w fun e w' => e = .returned (.bool true) ∧ Below w.heap.size w w' := by
  obtain ⟨A1, e1, rfl, -⟩ := id h1
  obtain ⟨A3, e3, rfl, -⟩ := id h3
  have b0 := Below.refl w.heap.size w
  unfold planV
  by_cases hbig1 : (1048576 : Int) < (l1.length : Int)
  · go_enter Try.func15, Try.ntmps15
    go_wp2
    go_ret
    exact ⟨rfl, by repeat (first | exact Below.refl _ _ | refine Below.alloc ?_ (by simp <;> omega) _)⟩
  have hm1 : l1.length ≤ 2000000 := by omega
  go_enter Try.func15, Try.ntmps15
  go_wp2_with fail
  generalize hW1 : w.alloc (.cells #[.int .i64 p0.prio, .int .i64 p0.most, .int .i64 p0.wait, .int .i64 p0.tasks, ve0] 42) = w1
  have c1 : Below w.heap.size w w1 := by rw [← hW1]; exact planBox_below 42 p0 ve0 w
  have DaP : BoxAt (w.heap.size) p0 ve0 w1 := by rw [← hW1]; exact BoxAt.new 42 p0 ve0 w
  clear hW1
  have laP := DaP.lt
  have b1 := bnext b0 c1
  have s1 : w.heap.size ≤ w1.heap.size := c1.size
  refine (szPlan_any p0 ve0 _ _ (by omega) (by omega) hl0 ((h0.below b1).more b1.size)).mono ?_
  rintro e w2 ⟨r2, rfl, hr2, c2⟩
  have b2 := bnext b1 c2
  replace DaP := DaP.below c2
  have s2 : w1.heap.size ≤ w2.heap.size := c2.size
  rcases hr2 with rfl | ⟨q2, z2⟩
  · go_wp2_with fail
    go_ret
    exact ⟨rfl, b2⟩
  have qb2 : decide (r2 < 0) = false := by simpa using q2
  have hm0 : p0.edges.length ≤ 2000000 := by omega
  go_wp2_with fail
  refine (szSlotS_any (.slice A3 l3.length e3) l3 _ _ (by omega) (by omega) hl3 ((h3.below b2).more b2.size)).mono ?_
  rintro e w3 ⟨r3, rfl, hr3, c3⟩
  have b3 := bnext b2 c3
  replace DaP := DaP.below c3
  have s3 : w2.heap.size ≤ w3.heap.size := c3.size
  rcases hr3 with rfl | ⟨q3, z3⟩
  · go_wp2_with fail
    go_ret
    exact ⟨rfl, b3⟩
  have qb3 : decide (r3 < 0) = false := by simpa using q3
  have hm3 : l3.length ≤ 2000000 := by omega
  obtain ⟨xaP0, xaP1, xaP2, xaP3, xaP4, xaPs⟩ := DaP.cells
  go_wp2_with fail
  clear xaP0 xaP1 xaP2 xaP3 xaP4 xaPs
  refine (toPlan_any p0 ve0 _ hm0 ((h0.below b3).more b3.size)).mono ?_
  rintro e w4 ⟨uw0s0, rfl, ow0s0, c4⟩
  have b4 := bnext b3 c4
  replace DaP := DaP.below c4
  have s4 : w3.heap.size ≤ w4.heap.size := c4.size
  replace ow0s0 : Ow edgeE 91 w4 w3.heap.size uw0s0 p0.edges := ow0s0
  have iw0s0 := ow0s0.within
  go_wp2_with fail
  refine (toIntS_any (.slice A1 l1.length e1) l1 _ hm1 ((h1.below b4).more b4.size)).mono ?_
  rintro e w5 ⟨uw0s1, rfl, ow0s1, c5⟩
  have b5 := bnext b4 c5
  replace ow0s0 := ow0s0.below c5
  replace DaP := DaP.below c5
  have s5 : w4.heap.size ≤ w5.heap.size := c5.size
  replace ow0s1 : Ow intE 3 w5 w4.heap.size uw0s1 l1 := ow0s1
  have iw0s1 := ow0s1.within
  go_wp2_with fail
  refine (toSlotS_any (.slice A3 l3.length e3) l3 _ hm3 ((h3.below b5).more b5.size)).mono ?_
  rintro e w6 ⟨uw0s3, rfl, ow0s3, c6⟩
  have b6 := bnext b5 c6
  replace ow0s0 := ow0s0.below c6
  replace ow0s1 := ow0s1.below c6
  replace DaP := DaP.below c6
  have s6 : w5.heap.size ≤ w6.heap.size := c6.size
  replace ow0s3 : Ow slotE 62 w6 w5.heap.size uw0s3 l3 := ow0s3
  have iw0s3 := ow0s3.within
  go_wp2_with fail
  refine (specSlotsOk_any p0 uw0s0 uw0s1 l1 n2 uw0s3 l3 _ hm0 hm1 hm3 (Rd.of_own ow0s0) (Rd.of_own ow0s1) (Rd.of_own ow0s3)).mono ?_
  rintro e w7 ⟨rfl, c7⟩
  have b7 := bnext b6 c7
  replace ow0s0 := ow0s0.below c7
  replace ow0s1 := ow0s1.below c7
  replace ow0s3 := ow0s3.below c7
  replace DaP := DaP.below c7
  have s7 : w6.heap.size ≤ w7.heap.size := c7.size
  clear ow0s0 iw0s0
  clear ow0s1 iw0s1
  clear ow0s3 iw0s3
  obtain ⟨xaP0, xaP1, xaP2, xaP3, xaP4, xaPs⟩ := DaP.cells
  go_wp2_with fail
  clear xaP0 xaP1 xaP2 xaP3 xaP4 xaPs
  refine (toPlan_any p0 ve0 _ hm0 ((h0.below b7).more b7.size)).mono ?_
  rintro e w8 ⟨ux0, rfl, ox0, c8⟩
  have b8 := bnext b7 c8
  replace DaP := DaP.below c8
  have s8 : w7.heap.size ≤ w8.heap.size := c8.size
  replace ox0 : Ow edgeE 91 w8 w7.heap.size ux0 p0.edges := ox0
  have ix0 := ox0.within
  obtain ⟨Ax0, ex0, rfl, -⟩ := id (Rd.of_own ox0)
  go_wp2_with fail
  generalize hW9 : w8.alloc (.cells #[.int .i64 p0.prio, .int .i64 p0.most, .int .i64 p0.wait, .int .i64 p0.tasks, (.slice Ax0 p0.edges.length ex0)] 47) = w9
  have c9 : Below w8.heap.size w8 w9 := by rw [← hW9]; exact planBox_below 47 p0 (.slice Ax0 p0.edges.length ex0) w8
  have Dx0 : BoxAt (w8.heap.size) p0 (.slice Ax0 p0.edges.length ex0) w9 := by rw [← hW9]; exact BoxAt.new 47 p0 (.slice Ax0 p0.edges.length ex0) w8
  clear hW9
  have lx0 := Dx0.lt
  have b9 := bnext b8 c9
  replace ox0 := ox0.below c9
  replace DaP := DaP.below c9
  have s9 : w8.heap.size ≤ w9.heap.size := c9.size
  refine (toIntS_any (.slice A1 l1.length e1) l1 _ hm1 ((h1.below b9).more b9.size)).mono ?_
  rintro e w10 ⟨ux1, rfl, ox1, c10⟩
  have b10 := bnext b9 c10
  replace ox0 := ox0.below c10
  replace DaP := DaP.below c10
  replace Dx0 := Dx0.below c10
  have s10 : w9.heap.size ≤ w10.heap.size := c10.size
  replace ox1 : Ow intE 3 w10 w9.heap.size ux1 l1 := ox1
  have ix1 := ox1.within
  go_wp2_with fail
  refine (toSlotS_any (.slice A3 l3.length e3) l3 _ hm3 ((h3.below b10).more b10.size)).mono ?_
  rintro e w11 ⟨ux3, rfl, ox3, c11⟩
  have b11 := bnext b10 c11
  replace ox0 := ox0.below c11
  replace ox1 := ox1.below c11
  replace DaP := DaP.below c11
  replace Dx0 := Dx0.below c11
  have s11 : w10.heap.size ≤ w11.heap.size := c11.size
  replace ox3 : Ow slotE 62 w11 w10.heap.size ux3 l3 := ox3
  have ix3 := ox3.within
  obtain ⟨xx00, xx01, xx02, xx03, xx04, xx0s⟩ := Dx0.cells
  go_wp2_with fail
  clear xx00 xx01 xx02 xx03 xx04 xx0s
  refine (implSlotsOk_any p0 (.slice Ax0 p0.edges.length ex0) ux1 l1 n2 ux3 l3 _ hm0 hm1 hm3 (Rd.of_own ox0) (Rd.of_own ox1) (Rd.of_own ox3)).mono ?_
  rintro e w12 ⟨rfl, c12⟩
  have b12 := bnext b11 c12
  replace ox0 := ox0.below c12
  replace ox1 := ox1.below c12
  replace ox3 := ox3.below c12
  replace DaP := DaP.below c12
  replace Dx0 := Dx0.below c12
  have s12 : w11.heap.size ≤ w12.heap.size := c12.size
  obtain ⟨xx00, xx01, xx02, xx03, xx04, xx0s⟩ := Dx0.cells
  obtain ⟨xaP0, xaP1, xaP2, xaP3, xaP4, xaPs⟩ := DaP.cells
  go_wp2_with fail
  clear xx00 xx01 xx02 xx03 xx04 xx0s xaP0 xaP1 xaP2 xaP3 xaP4 xaPs
  obtain ⟨xx00, xx01, xx02, xx03, xx04, xx0s⟩ := Dx0.cells
  obtain ⟨xaP0, xaP1, xaP2, xaP3, xaP4, xaPs⟩ := DaP.cells
  go_region_held3 (fun w' => w'.cell? ⟨w8.heap.size, 0, none⟩ = some (.int .i64 p0.prio) ∧ w'.cell? ⟨w8.heap.size, 1, none⟩ = some (.int .i64 p0.most) ∧ w'.cell? ⟨w8.heap.size, 2, none⟩ = some (.int .i64 p0.wait) ∧ w'.cell? ⟨w8.heap.size, 3, none⟩ = some (.int .i64 p0.tasks) ∧ w'.cell? ⟨w8.heap.size, 4, none⟩ = some ((.slice Ax0 p0.edges.length ex0)) ∧ w'.cell? ⟨w.heap.size, 0, none⟩ = some (.int .i64 p0.prio) ∧ w'.cell? ⟨w.heap.size, 1, none⟩ = some (.int .i64 p0.most) ∧ w'.cell? ⟨w.heap.size, 2, none⟩ = some (.int .i64 p0.wait) ∧ w'.cell? ⟨w.heap.size, 3, none⟩ = some (.int .i64 p0.tasks) ∧ w'.cell? ⟨w.heap.size, 4, none⟩ = some (ve0))
    (first | (refine ⟨?_, ?_, ?_, ?_, ?_, ?_, ?_, ?_, ?_, ?_⟩ <;> first | assumption | go_keep) | go_keep)
    (first
      | (go_at_call 45; (with_reducible refine (toPlan_any p0 ve0 _ hm0 ((h0.below b12.drew).more b12.drew.size)).mono ?_); rintro e w13 ⟨uyx0, rfl, oyx0, c13⟩; have b13 := bnext b12 (bnext ((Below.refl w12.heap.size w12).drew) c13); replace ox0 := ox0.below (bnext ((Below.refl w12.heap.size w12).drew) c13); replace ox1 := ox1.below (bnext ((Below.refl w12.heap.size w12).drew) c13); replace ox3 := ox3.below (bnext ((Below.refl w12.heap.size w12).drew) c13); replace DaP := DaP.below (bnext ((Below.refl w12.heap.size w12).drew) c13); replace Dx0 := Dx0.below (bnext ((Below.refl w12.heap.size w12).drew) c13); have s13 : w12.heap.size ≤ w13.heap.size := c13.size; replace oyx0 : Ow edgeE 91 w13 w12.heap.size uyx0 p0.edges := oyx0; have iyx0 := oyx0.within; obtain ⟨Xx00, Xx01, Xx02, Xx03, Xx04, Xx0s⟩ := Dx0.cells; obtain ⟨XaP0, XaP1, XaP2, XaP3, XaP4, XaPs⟩ := DaP.cells)
      | (go_at_call 47; (with_reducible refine (eqPlan_any p0 p0 _ _ _ hm0 hm0 (Rd.of_own ox0) (Rd.of_own oyx0)).mono ?_); rintro e w14 ⟨rfl, c14⟩; have b14 := bnext b13 c14; replace ox0 := ox0.below c14; replace ox1 := ox1.below c14; replace ox3 := ox3.below c14; replace oyx0 := oyx0.below c14; replace DaP := DaP.below c14; replace Dx0 := Dx0.below c14; have s14 : w13.heap.size ≤ w14.heap.size := c14.size; clear oyx0 iyx0; obtain ⟨X1x00, X1x01, X1x02, X1x03, X1x04, X1x0s⟩ := Dx0.cells; obtain ⟨X1aP0, X1aP1, X1aP2, X1aP3, X1aP4, X1aPs⟩ := DaP.cells))
  clear xx00 xx01 xx02 xx03 xx04 xx0s xaP0 xaP1 xaP2 xaP3 xaP4 xaPs
  clear Xx00 Xx01 Xx02 Xx03 Xx04 Xx0s XaP0 XaP1 XaP2 XaP3 XaP4 XaPs
  clear X1x00 X1x01 X1x02 X1x03 X1x04 X1x0s X1aP0 X1aP1 X1aP2 X1aP3 X1aP4 X1aPs
  go_wp2_with fail
  refine (toIntS_any (.slice A1 l1.length e1) l1 _ hm1 ((h1.below b14).more b14.size)).mono ?_
  rintro e w15 ⟨uyx1, rfl, oyx1, c15⟩
  have b15 := bnext b14 c15
  replace ox0 := ox0.below c15
  replace ox1 := ox1.below c15
  replace ox3 := ox3.below c15
  replace DaP := DaP.below c15
  replace Dx0 := Dx0.below c15
  have s15 : w14.heap.size ≤ w15.heap.size := c15.size
  replace oyx1 : Ow intE 3 w15 w14.heap.size uyx1 l1 := oyx1
  have iyx1 := oyx1.within
  go_wp2_with fail
  refine (eqIntS_any ux1 uyx1 l1 l1 _ hm1 hm1 (Rd.of_own ox1) (Rd.of_own oyx1)).mono ?_
  rintro e w16 ⟨rfl, c16⟩
  have b16 := bnext b15 c16
  replace ox0 := ox0.below c16
  replace ox1 := ox1.below c16
  replace ox3 := ox3.below c16
  replace oyx1 := oyx1.below c16
  replace DaP := DaP.below c16
  replace Dx0 := Dx0.below c16
  have s16 : w15.heap.size ≤ w16.heap.size := c16.size
  clear oyx1 iyx1
  go_wp2_with fail
  refine (toSlotS_any (.slice A3 l3.length e3) l3 _ hm3 ((h3.below b16).more b16.size)).mono ?_
  rintro e w17 ⟨uyx3, rfl, oyx3, c17⟩
  have b17 := bnext b16 c17
  replace ox0 := ox0.below c17
  replace ox1 := ox1.below c17
  replace ox3 := ox3.below c17
  replace DaP := DaP.below c17
  replace Dx0 := Dx0.below c17
  have s17 : w16.heap.size ≤ w17.heap.size := c17.size
  replace oyx3 : Ow slotE 62 w17 w16.heap.size uyx3 l3 := oyx3
  have iyx3 := oyx3.within
  go_wp2_with fail
  refine (eqSlotS_any ux3 uyx3 l3 l3 _ hm3 hm3 (Rd.of_own ox3) (Rd.of_own oyx3)).mono ?_
  rintro e w18 ⟨rfl, c18⟩
  have b18 := bnext b17 c18
  replace ox0 := ox0.below c18
  replace ox1 := ox1.below c18
  replace ox3 := ox3.below c18
  replace oyx3 := oyx3.below c18
  replace DaP := DaP.below c18
  replace Dx0 := Dx0.below c18
  have s18 : w17.heap.size ≤ w18.heap.size := c18.size
  clear oyx3 iyx3
  go_wp2_with fail
  go_ret
  exact ⟨rfl, b18⟩
end Go.Proofs.Ytoccmpijfggmkaa
