/-
  The law FnExactSinksOf: its walk, out of the contracts of what it calls. Written by program (lawgen.py).
-/
import Derived.Test.YtoccmpijfggmkaaSc
import Derived.Test.YtoccmpijfggmkaaMk
import Derived.Deep.RegionHeld3
namespace Go.Proofs.Ytoccmpijfggmkaa
open Go.RowKit
set_option maxRecDepth 100000
set_option maxHeartbeats 2000000

theorem lawSinksOf_walk (ve0 : Value) (p0 : Plan) (w : World) (hl0 : p0.edges.length ≤ 9223372036854775807) (h0 : Rd edgeE w w.heap.size ve0 p0.edges) :
    Calls Try.prog 18 #[planV p0 ve0] w fun e w' => e = .returned (.bool true) ∧ Below w.heap.size w w' := by
  have b0 := Below.refl w.heap.size w
  unfold planV
  go_enter Try.func18, Try.ntmps18
  go_wp2_with fail
  generalize hW1 : w.alloc (.cells #[.int .i64 p0.prio, .int .i64 p0.most, .int .i64 p0.wait, .int .i64 p0.tasks, ve0] 42) = w1
  have c1 : Below w.heap.size w w1 := by rw [← hW1]; exact planBox_below 42 p0 ve0 w
  have DaP : BoxAt (w.heap.size) p0 ve0 w1 := by rw [← hW1]; exact BoxAt.new 42 p0 ve0 w
  clear hW1
  have laP := DaP.lt
  have b1 := bnext b0 c1
  have s1 : w.heap.size ≤ w1.heap.size := c1.size
  refine (szPlan_any p0 ve0 _ _ (by omega) (by omega) hl0 ((h0.below b1).more b1.size)).mono ?_
  rintro e w2 ⟨r2, rfl, hr2, c2⟩
  have b2 := bnext b1 c2
  replace DaP := DaP.below c2
  have s2 : w1.heap.size ≤ w2.heap.size := c2.size
  rcases hr2 with rfl | ⟨q2, z2⟩
  · go_wp2_with fail
    go_ret
    exact ⟨rfl, b2⟩
  have qb2 : decide (r2 < 0) = false := by simpa using q2
  have hm0 : p0.edges.length ≤ 2000000 := by omega
  have hmr : (sinksI p0).length ≤ 2000000 := sinksI_len p0
  obtain ⟨xaP0, xaP1, xaP2, xaP3, xaP4, xaPs⟩ := DaP.cells
  go_wp2_with fail
  clear xaP0 xaP1 xaP2 xaP3 xaP4 xaPs
  refine (toPlan_any p0 ve0 _ hm0 ((h0.below b2).more b2.size)).mono ?_
  rintro e w3 ⟨uw0s0, rfl, ow0s0, c3⟩
  have b3 := bnext b2 c3
  replace DaP := DaP.below c3
  have s3 : w2.heap.size ≤ w3.heap.size := c3.size
  replace ow0s0 : Ow edgeE 91 w3 w2.heap.size uw0s0 p0.edges := ow0s0
  have iw0s0 := ow0s0.within
  go_wp2_with fail
  refine (specSinksI_any p0 uw0s0 _ hm0 (Rd.of_own ow0s0)).mono ?_
  rintro e w4 ⟨uw0, rfl, ow0, c4⟩
  have b4 := bnext b3 c4
  replace ow0s0 := ow0s0.below c4
  replace DaP := DaP.below c4
  have s4 : w3.heap.size ≤ w4.heap.size := c4.size
  replace ow0 : Ow intE 3 w4 w3.heap.size uw0 (sinksI p0) := ow0
  have iw0 := ow0.within
  clear ow0s0 iw0s0
  obtain ⟨xaP0, xaP1, xaP2, xaP3, xaP4, xaPs⟩ := DaP.cells
  go_wp2_with fail
  clear xaP0 xaP1 xaP2 xaP3 xaP4 xaPs
  refine (toPlan_any p0 ve0 _ hm0 ((h0.below b4).more b4.size)).mono ?_
  rintro e w5 ⟨ux0, rfl, ox0, c5⟩
  have b5 := bnext b4 c5
  replace ow0 := ow0.below c5
  replace DaP := DaP.below c5
  have s5 : w4.heap.size ≤ w5.heap.size := c5.size
  replace ox0 : Ow edgeE 91 w5 w4.heap.size ux0 p0.edges := ox0
  have ix0 := ox0.within
  obtain ⟨Ax0, ex0, rfl, -⟩ := id (Rd.of_own ox0)
  go_wp2_with fail
  generalize hW6 : w5.alloc (.cells #[.int .i64 p0.prio, .int .i64 p0.most, .int .i64 p0.wait, .int .i64 p0.tasks, (.slice Ax0 p0.edges.length ex0)] 47) = w6
  have c6 : Below w5.heap.size w5 w6 := by rw [← hW6]; exact planBox_below 47 p0 (.slice Ax0 p0.edges.length ex0) w5
  have Dx0 : BoxAt (w5.heap.size) p0 (.slice Ax0 p0.edges.length ex0) w6 := by rw [← hW6]; exact BoxAt.new 47 p0 (.slice Ax0 p0.edges.length ex0) w5
  clear hW6
  have lx0 := Dx0.lt
  have b6 := bnext b5 c6
  replace ow0 := ow0.below c6
  replace ox0 := ox0.below c6
  replace DaP := DaP.below c6
  have s6 : w5.heap.size ≤ w6.heap.size := c6.size
  refine (implSinksI_any p0 (.slice Ax0 p0.edges.length ex0) _ hm0 (Rd.of_own ox0)).mono ?_
  rintro e w7 ⟨ug0, rfl, og0, c7⟩
  have b7 := bnext b6 c7
  replace ow0 := ow0.below c7
  replace ox0 := ox0.below c7
  replace DaP := DaP.below c7
  replace Dx0 := Dx0.below c7
  have s7 : w6.heap.size ≤ w7.heap.size := c7.size
  replace og0 : Ow intE 3 w7 w6.heap.size ug0 (sinksI p0) := og0
  have ig0 := og0.within
  go_wp2_with fail
  refine (eqIntS_any ug0 uw0 (sinksI p0) (sinksI p0) _ hmr hmr (Rd.of_own og0) (Rd.of_own ow0)).mono ?_
  rintro e w8 ⟨rfl, c8⟩
  have b8 := bnext b7 c8
  replace ow0 := ow0.below c8
  replace ox0 := ox0.below c8
  replace og0 := og0.below c8
  replace DaP := DaP.below c8
  replace Dx0 := Dx0.below c8
  have s8 : w7.heap.size ≤ w8.heap.size := c8.size
  obtain ⟨xx00, xx01, xx02, xx03, xx04, xx0s⟩ := Dx0.cells
  obtain ⟨xaP0, xaP1, xaP2, xaP3, xaP4, xaPs⟩ := DaP.cells
  go_wp2_with fail
  clear xx00 xx01 xx02 xx03 xx04 xx0s xaP0 xaP1 xaP2 xaP3 xaP4 xaPs
  obtain ⟨xx00, xx01, xx02, xx03, xx04, xx0s⟩ := Dx0.cells
  obtain ⟨xaP0, xaP1, xaP2, xaP3, xaP4, xaPs⟩ := DaP.cells
  go_region_held3 (fun w' => w'.cell? ⟨w5.heap.size, 0, none⟩ = some (.int .i64 p0.prio) ∧ w'.cell? ⟨w5.heap.size, 1, none⟩ = some (.int .i64 p0.most) ∧ w'.cell? ⟨w5.heap.size, 2, none⟩ = some (.int .i64 p0.wait) ∧ w'.cell? ⟨w5.heap.size, 3, none⟩ = some (.int .i64 p0.tasks) ∧ w'.cell? ⟨w5.heap.size, 4, none⟩ = some ((.slice Ax0 p0.edges.length ex0)) ∧ w'.cell? ⟨w.heap.size, 0, none⟩ = some (.int .i64 p0.prio) ∧ w'.cell? ⟨w.heap.size, 1, none⟩ = some (.int .i64 p0.most) ∧ w'.cell? ⟨w.heap.size, 2, none⟩ = some (.int .i64 p0.wait) ∧ w'.cell? ⟨w.heap.size, 3, none⟩ = some (.int .i64 p0.tasks) ∧ w'.cell? ⟨w.heap.size, 4, none⟩ = some (ve0))
    (first | (refine ⟨?_, ?_, ?_, ?_, ?_, ?_, ?_, ?_, ?_, ?_⟩ <;> first | assumption | go_keep) | go_keep)
    (first
      | (go_at_call 45; (with_reducible refine (toPlan_any p0 ve0 _ hm0 ((h0.below b8.drew).more b8.drew.size)).mono ?_); rintro e w9 ⟨uyx0, rfl, oyx0, c9⟩; have b9 := bnext b8 (bnext ((Below.refl w8.heap.size w8).drew) c9); replace ow0 := ow0.below (bnext ((Below.refl w8.heap.size w8).drew) c9); replace ox0 := ox0.below (bnext ((Below.refl w8.heap.size w8).drew) c9); replace og0 := og0.below (bnext ((Below.refl w8.heap.size w8).drew) c9); replace DaP := DaP.below (bnext ((Below.refl w8.heap.size w8).drew) c9); replace Dx0 := Dx0.below (bnext ((Below.refl w8.heap.size w8).drew) c9); have s9 : w8.heap.size ≤ w9.heap.size := c9.size; replace oyx0 : Ow edgeE 91 w9 w8.heap.size uyx0 p0.edges := oyx0; have iyx0 := oyx0.within; obtain ⟨Xx00, Xx01, Xx02, Xx03, Xx04, Xx0s⟩ := Dx0.cells; obtain ⟨XaP0, XaP1, XaP2, XaP3, XaP4, XaPs⟩ := DaP.cells)
      | (go_at_call 47; (with_reducible refine (eqPlan_any p0 p0 _ _ _ hm0 hm0 (Rd.of_own ox0) (Rd.of_own oyx0)).mono ?_); rintro e w10 ⟨rfl, c10⟩; have b10 := bnext b9 c10; replace ow0 := ow0.below c10; replace ox0 := ox0.below c10; replace og0 := og0.below c10; replace oyx0 := oyx0.below c10; replace DaP := DaP.below c10; replace Dx0 := Dx0.below c10; have s10 : w9.heap.size ≤ w10.heap.size := c10.size; clear oyx0 iyx0; obtain ⟨X1x00, X1x01, X1x02, X1x03, X1x04, X1x0s⟩ := Dx0.cells; obtain ⟨X1aP0, X1aP1, X1aP2, X1aP3, X1aP4, X1aPs⟩ := DaP.cells))
  clear xx00 xx01 xx02 xx03 xx04 xx0s xaP0 xaP1 xaP2 xaP3 xaP4 xaPs
  clear Xx00 Xx01 Xx02 Xx03 Xx04 Xx0s XaP0 XaP1 XaP2 XaP3 XaP4 XaPs
  clear X1x00 X1x01 X1x02 X1x03 X1x04 X1x0s X1aP0 X1aP1 X1aP2 X1aP3 X1aP4 X1aPs
  obtain ⟨xx00, xx01, xx02, xx03, xx04, xx0s⟩ := Dx0.cells
  go_wp2_with fail
  clear xx00 xx01 xx02 xx03 xx04 xx0s
  refine (markPlan_any p0 (.slice Ax0 p0.edges.length ex0) 1 w4.heap.size _ hm0 (by omega) (by omega) (by omega) ox0).mono ?_
  rintro e w11 ⟨rfl, oo11, g11, c11⟩
  have b11 := b10.trans (c11.mono (by omega))
  replace ow0 := ow0.grown g11 (Within.apart iw0 ix0 (by first | exact .inl (by omega) | exact .inr (by omega)))
  replace og0 := og0.grown g11 (Within.apart ig0 ix0 (by first | exact .inl (by omega) | exact .inr (by omega)))
  replace DaP := DaP.mark g11 ix0 (by first | exact .inl (by omega) | exact .inr (by omega))
  replace Dx0 := Dx0.mark g11 ix0 (by first | exact .inl (by omega) | exact .inr (by omega))
  have s11 : w10.heap.size ≤ w11.heap.size := c11.size
  replace ox0 := oo11
  go_wp2_with fail
  refine (eqIntS_any ug0 uw0 (sinksI p0) (sinksI p0) _ hmr hmr (Rd.of_own og0) (Rd.of_own ow0)).mono ?_
  rintro e w12 ⟨rfl, c12⟩
  have b12 := bnext b11 c12
  replace ow0 := ow0.below c12
  replace ox0 := ox0.below c12
  replace og0 := og0.below c12
  replace DaP := DaP.below c12
  replace Dx0 := Dx0.below c12
  have s12 : w11.heap.size ≤ w12.heap.size := c12.size
  go_wp2_with fail
  refine (markIntS_any ug0 (sinksI p0) 1 w6.heap.size _ hmr (by omega) (by omega) (by omega) og0).mono ?_
  rintro e w13 ⟨rfl, oo13, g13, c13⟩
  have b13 := b12.trans (c13.mono (by omega))
  replace ow0 := ow0.grown g13 (Within.apart iw0 ig0 (by first | exact .inl (by omega) | exact .inr (by omega)))
  replace ox0 := ox0.grown g13 (Within.apart ix0 ig0 (by first | exact .inl (by omega) | exact .inr (by omega)))
  replace DaP := DaP.mark g13 ig0 (by first | exact .inl (by omega) | exact .inr (by omega))
  replace Dx0 := Dx0.mark g13 ig0 (by first | exact .inl (by omega) | exact .inr (by omega))
  have s13 : w12.heap.size ≤ w13.heap.size := c13.size
  replace og0 := oo13
  go_wp2_with fail
  refine (heldIntS_any ug0 (sinksI p0).length 1 _ hmr (by omega) (by omega) (Rd.of_own og0)).mono ?_
  rintro e w14 ⟨rfl, c14⟩
  have b14 := bnext b13 c14
  replace ow0 := ow0.below c14
  replace ox0 := ox0.below c14
  replace og0 := og0.below c14
  replace DaP := DaP.below c14
  replace Dx0 := Dx0.below c14
  have s14 : w13.heap.size ≤ w14.heap.size := c14.size
  obtain ⟨xaP0, xaP1, xaP2, xaP3, xaP4, xaPs⟩ := DaP.cells
  go_wp2_with fail
  clear xaP0 xaP1 xaP2 xaP3 xaP4 xaPs
  refine (toPlan_any p0 ve0 _ hm0 ((h0.below b14).more b14.size)).mono ?_
  rintro e w15 ⟨uh0i0, rfl, oh0i0, c15⟩
  have b15 := bnext b14 c15
  replace ow0 := ow0.below c15
  replace ox0 := ox0.below c15
  replace og0 := og0.below c15
  replace DaP := DaP.below c15
  replace Dx0 := Dx0.below c15
  have s15 : w14.heap.size ≤ w15.heap.size := c15.size
  replace oh0i0 : Ow edgeE 91 w15 w14.heap.size uh0i0 p0.edges := oh0i0
  have ih0i0 := oh0i0.within
  go_wp2_with fail
  refine (implSinksI_any p0 uh0i0 _ hm0 (Rd.of_own oh0i0)).mono ?_
  rintro e w16 ⟨uh0, rfl, oh0, c16⟩
  have b16 := bnext b15 c16
  replace ow0 := ow0.below c16
  replace ox0 := ox0.below c16
  replace og0 := og0.below c16
  replace oh0i0 := oh0i0.below c16
  replace DaP := DaP.below c16
  replace Dx0 := Dx0.below c16
  have s16 : w15.heap.size ≤ w16.heap.size := c16.size
  replace oh0 : Ow intE 3 w16 w15.heap.size uh0 (sinksI p0) := oh0
  have ih0 := oh0.within
  clear oh0i0 ih0i0
  go_wp2_with fail
  refine (eqIntS_any uh0 uw0 (sinksI p0) (sinksI p0) _ hmr hmr (Rd.of_own oh0) (Rd.of_own ow0)).mono ?_
  rintro e w17 ⟨rfl, c17⟩
  have b17 := bnext b16 c17
  replace ow0 := ow0.below c17
  replace ox0 := ox0.below c17
  replace og0 := og0.below c17
  replace oh0 := oh0.below c17
  replace DaP := DaP.below c17
  replace Dx0 := Dx0.below c17
  have s17 : w16.heap.size ≤ w17.heap.size := c17.size
  go_wp2_with fail
  refine (heldIntS_any ug0 (sinksI p0).length 1 _ hmr (by omega) (by omega) (Rd.of_own og0)).mono ?_
  rintro e w18 ⟨rfl, c18⟩
  have b18 := bnext b17 c18
  replace ow0 := ow0.below c18
  replace ox0 := ox0.below c18
  replace og0 := og0.below c18
  replace oh0 := oh0.below c18
  replace DaP := DaP.below c18
  replace Dx0 := Dx0.below c18
  have s18 : w17.heap.size ≤ w18.heap.size := c18.size
  go_wp2_with fail
  go_ret
  exact ⟨rfl, b18⟩
end Go.Proofs.Ytoccmpijfggmkaa
