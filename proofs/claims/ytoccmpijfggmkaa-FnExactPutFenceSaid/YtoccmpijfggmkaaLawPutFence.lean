/-
  The law FnExactPutFence: its walk, out of the contracts of what it calls. Written by program (lawgen.py).
-/
import Derived.Test.YtoccmpijfggmkaaPf
import Derived.Test.YtoccmpijfggmkaaMf
import Derived.Test.YtoccmpijfggmkaaIn
import Derived.Test.YtoccmpijfggmkaaBx
import Derived.Test.YtoccmpijfggmkaaMk
import Derived.Deep.RegionHeld3
namespace Go.Proofs.Ytoccmpijfggmkaa
open Go.RowKit
set_option maxRecDepth 100000
set_option maxHeartbeats 2000000

theorem lawPutFence_walk (v0 : Value) (l0 : List Fence) (f1 : Fence) (w : World) (hl0 : l0.length ≤ 9223372036854775807) (h0 : Rd fenceE w w.heap.size v0 l0) (hk0 : ∀ s ∈ l0, s.text.size ≤ 9223372036854775807) (hk1 : f1.text.size ≤ 9223372036854775807) :
    Calls Try.prog 16 #[v0, fenceV f1] w fun e w' => e = .returned (.bool true) ∧ Below w.heap.size w w' := by
  obtain ⟨A0, e0, rfl, -⟩ := id h0
  have b0 := Below.refl w.heap.size w
  unfold fenceV
  go_enter Try.func16, Try.ntmps16
  go_wp2_with fail
  generalize hW1 : w.alloc (.cells #[.int .i64 f1.run, .int .i64 f1.task, .int .i64 f1.try_, .string f1.text] 76) = w1
  have c1 : Below w.heap.size w w1 := by rw [← hW1]; exact (Below.refl _ _).alloc (Nat.le_refl _) _
  have DaF : FBox (w.heap.size) f1 w1 := by rw [← hW1]; exact FBox.new 76 f1 w
  clear hW1
  have laF := DaF.lt
  have b1 := bnext b0 c1
  have s1 : w.heap.size ≤ w1.heap.size := c1.size
  refine (szFenceS_any (.slice A0 l0.length e0) l0 _ _ (by omega) (by omega) hl0 hk0 ((h0.below b1).more b1.size)).mono ?_
  rintro e w2 ⟨r2, rfl, hr2, c2⟩
  have b2 := bnext b1 c2
  replace DaF := DaF.below c2
  have s2 : w1.heap.size ≤ w2.heap.size := c2.size
  rcases hr2 with rfl | ⟨q2, z2⟩
  · go_wp2_with fail
    go_ret
    exact ⟨rfl, b2⟩
  have qb2 : decide (r2 < 0) = false := by simpa using q2
  have hm0 : l0.length ≤ 2000000 := by omega
  obtain ⟨xaF0, xaF1, xaF2, xaF3, xaFs⟩ := DaF.cells
  go_wp2_with fail
  clear xaF0 xaF1 xaF2 xaF3 xaFs
  refine (szFence_any f1 _ _ (by omega) (by omega) hk1).mono ?_
  rintro e w3 ⟨r3, rfl, hr3, c3⟩
  have b3 := bnext b2 c3
  replace DaF := DaF.below c3
  have s3 : w2.heap.size ≤ w3.heap.size := c3.size
  rcases hr3 with rfl | ⟨q3, z3⟩
  · go_wp2_with fail
    go_ret
    exact ⟨rfl, b3⟩
  have qb3 : decide (r3 < 0) = false := by simpa using q3
  have hmr : ((putFence l0 f1).1).length ≤ 2000000 := Nat.le_trans (putFence_len l0 f1) (by omega)
  obtain ⟨xaF0, xaF1, xaF2, xaF3, xaFs⟩ := DaF.cells
  go_wp2_with fail
  clear xaF0 xaF1 xaF2 xaF3 xaFs
  obtain ⟨xaF0, xaF1, xaF2, xaF3, xaFs⟩ := DaF.cells
  go_region_held3 (fun w' => w'.cell? ⟨w.heap.size, 0, none⟩ = some (.int .i64 f1.run) ∧ w'.cell? ⟨w.heap.size, 1, none⟩ = some (.int .i64 f1.task) ∧ w'.cell? ⟨w.heap.size, 2, none⟩ = some (.int .i64 f1.try_) ∧ w'.cell? ⟨w.heap.size, 3, none⟩ = some (.string f1.text))
    (first | (refine ⟨?_, ?_, ?_, ?_⟩ <;> first | assumption | go_keep) | go_keep)
    (first
      | (go_at_call 36; refine (toFenceS_any (.slice A0 l0.length e0) l0 _ hm0 ((h0.below b3.drew).more b3.drew.size)).mono ?_; rintro e w4 ⟨uw0s0, rfl, ow0s0, c4⟩; have b4 := bnext b3 (bnext ((Below.refl w3.heap.size w3).drew) c4); replace DaF := DaF.below (bnext ((Below.refl w3.heap.size w3).drew) c4); have s4 : w3.heap.size ≤ w4.heap.size := c4.size; replace ow0s0 : Ow fenceE 80 w4 w3.heap.size uw0s0 l0 := ow0s0; have iw0s0 := ow0s0.within; obtain ⟨XaF0, XaF1, XaF2, XaF3, XaFs⟩ := DaF.cells)
      | (go_at_call 85; refine (toFence_any f1 _).mono ?_; rintro e w5 ⟨rfl, c5⟩; have b5 := bnext b4 c5; replace ow0s0 := ow0s0.below c5; replace DaF := DaF.below c5; have s5 : w4.heap.size ≤ w5.heap.size := c5.size; obtain ⟨X1aF0, X1aF1, X1aF2, X1aF3, X1aFs⟩ := DaF.cells)
      | (go_at_call 84; refine (specPutFence_any uw0s0 l0 f1 _ hm0 (Rd.of_own ow0s0)).mono ?_; rintro e w6 ⟨uw0, rfl, ow0, c6⟩; have b6 := bnext b5 c6; replace ow0s0 := ow0s0.below c6; replace DaF := DaF.below c6; have s6 : w5.heap.size ≤ w6.heap.size := c6.size; replace ow0 : Ow fenceE 80 w6 w5.heap.size uw0 ((putFence l0 f1).1) := ow0; have iw0 := ow0.within; clear ow0s0 iw0s0; obtain ⟨X2aF0, X2aF1, X2aF2, X2aF3, X2aFs⟩ := DaF.cells))
  clear xaF0 xaF1 xaF2 xaF3 xaFs
  clear XaF0 XaF1 XaF2 XaF3 XaFs
  clear X1aF0 X1aF1 X1aF2 X1aF3 X1aFs
  clear X2aF0 X2aF1 X2aF2 X2aF3 X2aFs
  go_wp2_with fail
  refine (toFenceS_any (.slice A0 l0.length e0) l0 _ hm0 ((h0.below b6).more b6.size)).mono ?_
  rintro e w7 ⟨ux0, rfl, ox0, c7⟩
  have b7 := bnext b6 c7
  replace ow0 := ow0.below c7
  replace DaF := DaF.below c7
  have s7 : w6.heap.size ≤ w7.heap.size := c7.size
  replace ox0 : Ow fenceE 80 w7 w6.heap.size ux0 l0 := ox0
  have ix0 := ox0.within
  obtain ⟨xaF0, xaF1, xaF2, xaF3, xaFs⟩ := DaF.cells
  go_wp2_with fail
  clear xaF0 xaF1 xaF2 xaF3 xaFs
  refine (toFence_any f1 _).mono ?_
  rintro e w8 ⟨rfl, c8⟩
  have b8 := bnext b7 c8
  replace ow0 := ow0.below c8
  replace ox0 := ox0.below c8
  replace DaF := DaF.below c8
  have s8 : w7.heap.size ≤ w8.heap.size := c8.size
  go_wp2_with fail
  refine (implPutFence_any ux0 l0 f1 _ hm0 (Rd.of_own ox0)).mono ?_
  rintro e w9 ⟨ug0, rfl, og0, c9⟩
  have b9 := bnext b8 c9
  replace ow0 := ow0.below c9
  replace ox0 := ox0.below c9
  replace DaF := DaF.below c9
  have s9 : w8.heap.size ≤ w9.heap.size := c9.size
  replace og0 : Ow fenceE 80 w9 w8.heap.size ug0 ((putFence l0 f1).1) := og0
  have ig0 := og0.within
  go_wp2_with fail
  refine (eqFenceS_any ug0 uw0 ((putFence l0 f1).1) ((putFence l0 f1).1) _ hmr hmr (Rd.of_own og0) (Rd.of_own ow0)).mono ?_
  rintro e w10 ⟨rfl, c10⟩
  have b10 := bnext b9 c10
  replace ow0 := ow0.below c10
  replace ox0 := ox0.below c10
  replace og0 := og0.below c10
  replace DaF := DaF.below c10
  have s10 : w9.heap.size ≤ w10.heap.size := c10.size
  go_wp2_with fail
  refine (toFenceS_any (.slice A0 l0.length e0) l0 _ hm0 ((h0.below b10).more b10.size)).mono ?_
  rintro e w11 ⟨uyx0, rfl, oyx0, c11⟩
  have b11 := bnext b10 c11
  replace ow0 := ow0.below c11
  replace ox0 := ox0.below c11
  replace og0 := og0.below c11
  replace DaF := DaF.below c11
  have s11 : w10.heap.size ≤ w11.heap.size := c11.size
  replace oyx0 : Ow fenceE 80 w11 w10.heap.size uyx0 l0 := oyx0
  have iyx0 := oyx0.within
  go_wp2_with fail
  refine (eqFenceS_any ux0 uyx0 l0 l0 _ hm0 hm0 (Rd.of_own ox0) (Rd.of_own oyx0)).mono ?_
  rintro e w12 ⟨rfl, c12⟩
  have b12 := bnext b11 c12
  replace ow0 := ow0.below c12
  replace ox0 := ox0.below c12
  replace og0 := og0.below c12
  replace oyx0 := oyx0.below c12
  replace DaF := DaF.below c12
  have s12 : w11.heap.size ≤ w12.heap.size := c12.size
  clear oyx0 iyx0
  go_wp2_with fail
  refine (markFenceS_any ux0 l0 1 w6.heap.size _ hm0 (by omega) (by omega) (by omega) ox0).mono ?_
  rintro e w13 ⟨rfl, oo13, g13, c13⟩
  have b13 := b12.trans (c13.mono (by omega))
  replace ow0 := ow0.grown g13 (Within.apart iw0 ix0 (by first | exact .inl (by omega) | exact .inr (by omega)))
  replace og0 := og0.grown g13 (Within.apart ig0 ix0 (by first | exact .inl (by omega) | exact .inr (by omega)))
  replace DaF := DaF.mark g13 ix0 (by first | exact .inl (by omega) | exact .inr (by omega))
  have s13 : w12.heap.size ≤ w13.heap.size := c13.size
  replace ox0 := oo13
  go_wp2_with fail
  refine (eqFenceS_any ug0 uw0 ((putFence l0 f1).1) ((putFence l0 f1).1) _ hmr hmr (Rd.of_own og0) (Rd.of_own ow0)).mono ?_
  rintro e w14 ⟨rfl, c14⟩
  have b14 := bnext b13 c14
  replace ow0 := ow0.below c14
  replace ox0 := ox0.below c14
  replace og0 := og0.below c14
  replace DaF := DaF.below c14
  have s14 : w13.heap.size ≤ w14.heap.size := c14.size
  go_wp2_with fail
  refine (markFenceS_any ug0 ((putFence l0 f1).1) 1 w8.heap.size _ hmr (by omega) (by omega) (by omega) og0).mono ?_
  rintro e w15 ⟨rfl, oo15, g15, c15⟩
  have b15 := b14.trans (c15.mono (by omega))
  replace ow0 := ow0.grown g15 (Within.apart iw0 ig0 (by first | exact .inl (by omega) | exact .inr (by omega)))
  replace ox0 := ox0.grown g15 (Within.apart ix0 ig0 (by first | exact .inl (by omega) | exact .inr (by omega)))
  replace DaF := DaF.mark g15 ig0 (by first | exact .inl (by omega) | exact .inr (by omega))
  have s15 : w14.heap.size ≤ w15.heap.size := c15.size
  replace og0 := oo15
  go_wp2_with fail
  refine (heldFenceS_any ug0 ((putFence l0 f1).1).length 1 _ hmr (by omega) (by omega) (Rd.of_own og0)).mono ?_
  rintro e w16 ⟨rfl, c16⟩
  have b16 := bnext b15 c16
  replace ow0 := ow0.below c16
  replace ox0 := ox0.below c16
  replace og0 := og0.below c16
  replace DaF := DaF.below c16
  have s16 : w15.heap.size ≤ w16.heap.size := c16.size
  obtain ⟨xaF0, xaF1, xaF2, xaF3, xaFs⟩ := DaF.cells
  go_wp2_with fail
  clear xaF0 xaF1 xaF2 xaF3 xaFs
  obtain ⟨xaF0, xaF1, xaF2, xaF3, xaFs⟩ := DaF.cells
  go_region_held3 (fun w' => w'.cell? ⟨w.heap.size, 0, none⟩ = some (.int .i64 f1.run) ∧ w'.cell? ⟨w.heap.size, 1, none⟩ = some (.int .i64 f1.task) ∧ w'.cell? ⟨w.heap.size, 2, none⟩ = some (.int .i64 f1.try_) ∧ w'.cell? ⟨w.heap.size, 3, none⟩ = some (.string f1.text))
    (first | (refine ⟨?_, ?_, ?_, ?_⟩ <;> first | assumption | go_keep) | go_keep)
    (first
      | (go_at_call 36; refine (toFenceS_any (.slice A0 l0.length e0) l0 _ hm0 ((h0.below b16.drew).more b16.drew.size)).mono ?_; rintro e w17 ⟨uh0i0, rfl, oh0i0, c17⟩; have b17 := bnext b16 (bnext ((Below.refl w16.heap.size w16).drew) c17); replace ow0 := ow0.below (bnext ((Below.refl w16.heap.size w16).drew) c17); replace ox0 := ox0.below (bnext ((Below.refl w16.heap.size w16).drew) c17); replace og0 := og0.below (bnext ((Below.refl w16.heap.size w16).drew) c17); replace DaF := DaF.below (bnext ((Below.refl w16.heap.size w16).drew) c17); have s17 : w16.heap.size ≤ w17.heap.size := c17.size; replace oh0i0 : Ow fenceE 80 w17 w16.heap.size uh0i0 l0 := oh0i0; have ih0i0 := oh0i0.within; obtain ⟨XaF0, XaF1, XaF2, XaF3, XaFs⟩ := DaF.cells)
      | (go_at_call 85; refine (toFence_any f1 _).mono ?_; rintro e w18 ⟨rfl, c18⟩; have b18 := bnext b17 c18; replace ow0 := ow0.below c18; replace ox0 := ox0.below c18; replace og0 := og0.below c18; replace oh0i0 := oh0i0.below c18; replace DaF := DaF.below c18; have s18 : w17.heap.size ≤ w18.heap.size := c18.size; obtain ⟨X1aF0, X1aF1, X1aF2, X1aF3, X1aFs⟩ := DaF.cells)
      | (go_at_call 86; refine (implPutFence_any uh0i0 l0 f1 _ hm0 (Rd.of_own oh0i0)).mono ?_; rintro e w19 ⟨uh0, rfl, oh0, c19⟩; have b19 := bnext b18 c19; replace ow0 := ow0.below c19; replace ox0 := ox0.below c19; replace og0 := og0.below c19; replace oh0i0 := oh0i0.below c19; replace DaF := DaF.below c19; have s19 : w18.heap.size ≤ w19.heap.size := c19.size; replace oh0 : Ow fenceE 80 w19 w18.heap.size uh0 ((putFence l0 f1).1) := oh0; have ih0 := oh0.within; clear oh0i0 ih0i0; obtain ⟨X2aF0, X2aF1, X2aF2, X2aF3, X2aFs⟩ := DaF.cells))
  clear xaF0 xaF1 xaF2 xaF3 xaFs
  clear XaF0 XaF1 XaF2 XaF3 XaFs
  clear X1aF0 X1aF1 X1aF2 X1aF3 X1aFs
  clear X2aF0 X2aF1 X2aF2 X2aF3 X2aFs
  go_wp2_with fail
  refine (eqFenceS_any uh0 uw0 ((putFence l0 f1).1) ((putFence l0 f1).1) _ hmr hmr (Rd.of_own oh0) (Rd.of_own ow0)).mono ?_
  rintro e w20 ⟨rfl, c20⟩
  have b20 := bnext b19 c20
  replace ow0 := ow0.below c20
  replace ox0 := ox0.below c20
  replace og0 := og0.below c20
  replace oh0 := oh0.below c20
  replace DaF := DaF.below c20
  have s20 : w19.heap.size ≤ w20.heap.size := c20.size
  go_wp2_with fail
  refine (heldFenceS_any ug0 ((putFence l0 f1).1).length 1 _ hmr (by omega) (by omega) (Rd.of_own og0)).mono ?_
  rintro e w21 ⟨rfl, c21⟩
  have b21 := bnext b20 c21
  replace ow0 := ow0.below c21
  replace ox0 := ox0.below c21
  replace og0 := og0.below c21
  replace oh0 := oh0.below c21
  replace DaF := DaF.below c21
  have s21 : w20.heap.size ≤ w21.heap.size := c21.size
  go_wp2_with fail
  go_ret
  exact ⟨rfl, b21⟩
end Go.Proofs.Ytoccmpijfggmkaa
