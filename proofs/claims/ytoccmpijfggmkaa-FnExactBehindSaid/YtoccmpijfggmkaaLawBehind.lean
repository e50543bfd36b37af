/-
  The law FnExactBehind: its walk, out of the contracts of what it calls. Written by program (lawgen.py).
-/
import Derived.Test.YtoccmpijfggmkaaBt
import Derived.Test.YtoccmpijfggmkaaMk
import Derived.Test.YtoccmpijfggmkaaJb
import Derived.Deep.RegionHeld3
import Derived.Deep.DeepCutAuto
namespace Go.Proofs.Ytoccmpijfggmkaa
open Go.RowKit
set_option maxRecDepth 100000
set_option maxHeartbeats 4000000

theorem lawBehind_walk (ve0 : Value) (p0 : Plan) (ve1 : Value) (p1 : Plan) (w : World) (hl0 : p0.edges.length ≤ 9223372036854775807) (h0 : Rd edgeE w w.heap.size ve0 p0.edges) (hl1 : p1.edges.length ≤ 9223372036854775807) (h1 : Rd edgeE w w.heap.size ve1 p1.edges) :
    Calls Try.prog 22 #[planV p0 ve0, planV p1 ve1] w fun e w' => e = .returned (.bool true) ∧ Below w.heap.size w w' := by
  have b0 := Below.refl w.heap.size w
  unfold planV
  go_enter Try.func22, Try.ntmps22
  go_wp2_with fail
  generalize hW1 : w.alloc (.cells #[.int .i64 p0.prio, .int .i64 p0.most, .int .i64 p0.wait, .int .i64 p0.tasks, ve0] 42) = w1
  have c1 : Below w.heap.size w w1 := by rw [← hW1]; exact planBox_below 42 p0 ve0 w
  have DaP : BoxAt (w.heap.size) p0 ve0 w1 := by rw [← hW1]; exact BoxAt.new 42 p0 ve0 w
  have z1 : Hid (w1.heap.size = w.heap.size + 1) := by show w1.heap.size = _; rw [← hW1]; exact (planBox_size 42 p0 ve0 w).trans (by rfl)
  clear hW1
  have laP := DaP.lt
  have b1 := bnext b0 c1
  have s1 : w.heap.size ≤ w1.heap.size := c1.size
  generalize hW2 : w1.alloc (.cells #[.int .i64 p1.prio, .int .i64 p1.most, .int .i64 p1.wait, .int .i64 p1.tasks, ve1] 42) = w2
  have c2 : Below w1.heap.size w1 w2 := by rw [← hW2]; exact planBox_below 42 p1 ve1 w1
  have DaQ : BoxAt (w.heap.size + 1) p1 ve1 w2 := by rw [← z1.out]; rw [← hW2]; exact BoxAt.new 42 p1 ve1 w1
  have z2 : Hid (w2.heap.size = w.heap.size + 2) := by show w2.heap.size = _; rw [← hW2]; exact (planBox_size 42 p1 ve1 w1).trans (by rw [z1.out])
  clear hW2
  have laQ := DaQ.lt
  have b2 := bnext b1 c2
  replace DaP := DaP.below c2
  have s2 : w1.heap.size ≤ w2.heap.size := c2.size
  refine (szPlan_any p0 ve0 _ _ (by omega) (by omega) hl0 ((h0.below b2).more b2.size)).mono ?_
  rintro e w3 ⟨r3, rfl, hr3, c3⟩
  have b3 := bnext b2 c3
  replace DaP := DaP.below c3
  replace DaQ := DaQ.below c3
  have s3 : w2.heap.size ≤ w3.heap.size := c3.size
  rcases hr3 with rfl | ⟨q3, z3⟩
  · go_wp2_with fail
    go_ret
    exact ⟨rfl, b3⟩
  have qb3 : decide (r3 < 0) = false := by simpa using q3
  have hm0 : p0.edges.length ≤ 2000000 := by omega
  obtain ⟨xaQ0, xaQ1, xaQ2, xaQ3, xaQ4, xaQs⟩ := DaQ.cells
  go_wp2_with fail
  clear xaQ0 xaQ1 xaQ2 xaQ3 xaQ4 xaQs
  refine (szPlan_any p1 ve1 _ _ (by omega) (by omega) hl1 ((h1.below b3).more b3.size)).mono ?_
  rintro e w4 ⟨r4, rfl, hr4, c4⟩
  have b4 := bnext b3 c4
  replace DaP := DaP.below c4
  replace DaQ := DaQ.below c4
  have s4 : w3.heap.size ≤ w4.heap.size := c4.size
  rcases hr4 with rfl | ⟨q4, z4⟩
  · go_wp2_with fail
    go_ret
    exact ⟨rfl, b4⟩
  have qb4 : decide (r4 < 0) = false := by simpa using q4
  have hm1 : p1.edges.length ≤ 2000000 := by omega
  have hmr : ((joined p0 p1 (moreL p0 p1)).1).edges.length ≤ 2000000 := Nat.le_trans joined_len (by have := moreL_len p0 p1; omega)
  have B0 := b4
  go_upto_region 8 with fail
  go_cut [6, 7] (fun sa sb wx => ∃ (g : Nat) (A : Option Addr) (ec : Nat), sa = .pointer (some ⟨g, 0, none⟩) ∧ sb = .bool (joined p0 p1 (moreL p0 p1)).2 ∧ BoxAt g (joined p0 p1 (moreL p0 p1)).1 (.slice A ((joined p0 p1 (moreL p0 p1)).1.edges).length ec) wx ∧ Ow edgeE 91 wx w4.heap.size (.slice A ((joined p0 p1 (moreL p0 p1)).1.edges).length ec) (joined p0 p1 (moreL p0 p1)).1.edges ∧ w4.heap.size ≤ g ∧ Hid ((Value.slice A ((joined p0 p1 (moreL p0 p1)).1.edges).length ec).ownBlock ≠ some g) ∧ Below w4.heap.size w4 wx)
  case first =>
    have hz : Hid (∀ w : World, Below w.heap.size w (w.alloc (.cells #[.int .i64 0, .int .i64 0, .int .i64 0, .int .i64 0, .slice none 0 0] 47))) := fun w => (Below.refl _ _).alloc (Nat.le_refl _) _
    have k0 : Below w4.heap.size w4 w4.drew := (Below.refl _ _).drew
    have Daw := bnext B0 k0; have laP := DaP.lt; have laQ := DaQ.lt
    obtain ⟨xaP0, xaP1, xaP2, xaP3, xaP4, xaPs⟩ := DaP.cells
    obtain ⟨xaQ0, xaQ1, xaQ2, xaQ3, xaQ4, xaQs⟩ := DaQ.cells
    go_region_held3 (fun w' => w'.cell? ⟨w.heap.size, 0, none⟩ = some (.int .i64 p0.prio) ∧ w'.cell? ⟨w.heap.size, 1, none⟩ = some (.int .i64 p0.most) ∧ w'.cell? ⟨w.heap.size, 2, none⟩ = some (.int .i64 p0.wait) ∧ w'.cell? ⟨w.heap.size, 3, none⟩ = some (.int .i64 p0.tasks) ∧ w'.cell? ⟨w.heap.size, 4, none⟩ = some (ve0) ∧ w'.cell? ⟨w.heap.size + 1, 0, none⟩ = some (.int .i64 p1.prio) ∧ w'.cell? ⟨w.heap.size + 1, 1, none⟩ = some (.int .i64 p1.most) ∧ w'.cell? ⟨w.heap.size + 1, 2, none⟩ = some (.int .i64 p1.wait) ∧ w'.cell? ⟨w.heap.size + 1, 3, none⟩ = some (.int .i64 p1.tasks) ∧ w'.cell? ⟨w.heap.size + 1, 4, none⟩ = some (ve1))
      (first | (refine ⟨?_, ?_, ?_, ?_, ?_, ?_, ?_, ?_, ?_, ?_⟩ <;> first | (with_reducible assumption) | ((with_reducible refine (setBox_cell _ _ _ _ _ n0).trans ?_); (with_reducible assumption)) | ((with_reducible refine (setBox_cell _ _ _ _ _ n1).trans ?_); (with_reducible assumption)) | go_keep) | go_keep)
      (first
        | (go_at_call 45; (with_reducible refine (toPlan_any p0 ve0 _ hm0 ((h0.below (bnext B0 k0)).more (bnext B0 k0).size)).mono ?_); rintro e y1 ⟨up, rfl, oup, c⟩; have c0 := c; have iup := oup.within; have k1 := bnext k0 c; replace DaP := DaP.below k1; replace DaQ := DaQ.below k1; have q1 : w4.heap.size ≤ y1.heap.size := k1.size; (try (obtain ⟨z0, z1, z2, z3, z4, zs⟩ := Dz.cells)); (try (have zf := Dz.free)); obtain ⟨X1aP0, X1aP1, X1aP2, X1aP3, X1aP4, X1aPs⟩ := DaP.cells; obtain ⟨X1aQ0, X1aQ1, X1aQ2, X1aQ3, X1aQ4, X1aQs⟩ := DaQ.cells)
        | (go_at_call 45; (with_reducible refine (toPlan_any p0 ve0 _ hm0 ((h0.below (bnext B0 (hz.out w4).drew)).more (bnext B0 (hz.out w4).drew).size)).mono ?_); rintro e y1 ⟨up, rfl, oup, c⟩; have c0 := c; have iup := oup.within; have k1 := bnext (hz.out w4).drew c; replace DaP := DaP.below k1; replace DaQ := DaQ.below k1; have q1 : w4.heap.size ≤ y1.heap.size := k1.size; have Dz := ((BoxAt.new' 47 zeroPlan (.slice none 0 0) w4 rfl).below ((Below.refl _ _).drew)).below c0; have n2 : w4.heap.size ≤ w4.heap.size := Nat.le_refl _; have n0 : ¬ w.heap.size = w4.heap.size := (by omega); have n1 : ¬ w.heap.size + 1 = w4.heap.size := (by omega); have n3 := Dz.lt; (try (obtain ⟨z0, z1, z2, z3, z4, zs⟩ := Dz.cells)); (try (have zf := Dz.free)); obtain ⟨X1aP0, X1aP1, X1aP2, X1aP3, X1aP4, X1aPs⟩ := DaP.cells; obtain ⟨X1aQ0, X1aQ1, X1aQ2, X1aQ3, X1aQ4, X1aQs⟩ := DaQ.cells)
        | (go_at_call 45; (with_reducible refine (toPlan_any p1 ve1 _ hm1 ((h1.below (bnext B0 k1)).more (bnext B0 k1).size)).mono ?_); rintro e y2 ⟨uq, rfl, ouq, c⟩; have c0 := c; have iuq := ouq.within; have k2 := bnext k1 c; replace DaP := DaP.below c; replace DaQ := DaQ.below c; have q2 : (y1).heap.size ≤ y2.heap.size := c.size; (try (replace Dz := Dz.below c)); (try (have n3 := Nat.lt_of_lt_of_le n3 q2)); (try (obtain ⟨z0, z1, z2, z3, z4, zs⟩ := Dz.cells)); (try (have zf := Dz.free)); obtain ⟨X2aP0, X2aP1, X2aP2, X2aP3, X2aP4, X2aPs⟩ := DaP.cells; obtain ⟨X2aQ0, X2aQ1, X2aQ2, X2aQ3, X2aQ4, X2aQs⟩ := DaQ.cells; replace oup := oup.below c)
        | (go_at_call 45; (with_reducible refine (toPlan_any p1 ve1 _ hm1 ((h1.below (bnext B0 (bnext k1 (hz.out (y1))))).more (bnext B0 (bnext k1 (hz.out (y1)))).size)).mono ?_); rintro e y2 ⟨uq, rfl, ouq, c⟩; have c0 := c; have iuq := ouq.within; have c := bnext (hz.out (y1)) c; have k2 := bnext k1 c; replace DaP := DaP.below c; replace DaQ := DaQ.below c; have q2 : (y1).heap.size ≤ y2.heap.size := c.size; have Dz := (BoxAt.new' 47 zeroPlan (.slice none 0 0) (y1) rfl).below c0; have n2 : w4.heap.size ≤ (y1).heap.size := k1.size; have n0 : ¬ w.heap.size = (y1).heap.size := (by omega); have n1 : ¬ w.heap.size + 1 = (y1).heap.size := (by omega); have n3 := Dz.lt; (try (obtain ⟨z0, z1, z2, z3, z4, zs⟩ := Dz.cells)); (try (have zf := Dz.free)); obtain ⟨X2aP0, X2aP1, X2aP2, X2aP3, X2aP4, X2aPs⟩ := DaP.cells; obtain ⟨X2aQ0, X2aQ1, X2aQ2, X2aQ3, X2aQ4, X2aQs⟩ := DaQ.cells; replace oup := oup.below c)
        | (go_at_call 79; (with_reducible refine (specJBehind_any p0 up p1 uq _ hm0 hm1 (Rd.of_own oup) (Rd.of_own ouq)).mono ?_); rintro e y3 ⟨ur, rfl, our, c⟩; have c0 := c; have hbase : w4.heap.size ≤ y2.heap.size := (by have := k2.size; omega); have iur := our.within; have hne : Hid (∀ g, (g < y2.heap.size ∨ y3.heap.size ≤ g) → ur.ownBlock ≠ some g) := (fun g hg e => by have := iur g e; omega); obtain ⟨Ar, er, rfl, -⟩ := id (Rd.of_own our); have k3 := bnext k2 c; replace DaP := DaP.below c; replace DaQ := DaQ.below c; have q3 : (y2).heap.size ≤ y3.heap.size := c.size; (try (replace Dz := Dz.below c)); (try (obtain ⟨z0, z1, z2, z3, z4, zs⟩ := Dz.cells)); (try (have zf := Dz.free)); obtain ⟨X3aP0, X3aP1, X3aP2, X3aP3, X3aP4, X3aPs⟩ := DaP.cells; obtain ⟨X3aQ0, X3aQ1, X3aQ2, X3aQ3, X3aQ4, X3aQs⟩ := DaQ.cells; have q0 : w4.heap.size ≤ y2.heap.size := k2.size)
        | (go_at_call 79; (with_reducible refine (specJBehind_any p0 up p1 uq _ hm0 hm1 (Rd.of_own (oup.below (hz.out y2))) (Rd.of_own (ouq.below (hz.out y2)))).mono ?_); rintro e y3 ⟨ur, rfl, our, c⟩; have c0 := c; replace our : Ow edgeE 91 y3 (y2.heap.size + 1) ur (joined p0 p1 (moreL p0 p1)).1.edges := (by have := our; simp only [World.size_alloc] at this; exact this); have n3 : y2.heap.size < y2.heap.size + 1 := Nat.lt_succ_self _; have hbase : w4.heap.size ≤ y2.heap.size + 1 := (by have := k2.size; omega); have iur := our.within; have hne : Hid (∀ g, (g < y2.heap.size + 1 ∨ y3.heap.size ≤ g) → ur.ownBlock ≠ some g) := (fun g hg e => by have := iur g e; omega); obtain ⟨Ar, er, rfl, -⟩ := id (Rd.of_own our); have c := bnext (hz.out (y2)) c; have k3 := bnext k2 c; replace DaP := DaP.below c; replace DaQ := DaQ.below c; have q3 : (y2).heap.size ≤ y3.heap.size := c.size; have Dz := (BoxAt.new' 47 zeroPlan (.slice none 0 0) (y2) rfl).below c0; have n2 : w4.heap.size ≤ (y2).heap.size := k2.size; have n0 : ¬ w.heap.size = (y2).heap.size := (by omega); have n1 : ¬ w.heap.size + 1 = (y2).heap.size := (by omega); (try (obtain ⟨z0, z1, z2, z3, z4, zs⟩ := Dz.cells)); (try (have zf := Dz.free)); obtain ⟨X3aP0, X3aP1, X3aP2, X3aP3, X3aP4, X3aPs⟩ := DaP.cells; obtain ⟨X3aQ0, X3aQ1, X3aQ2, X3aQ3, X3aQ4, X3aQs⟩ := DaQ.cells; have q0 : w4.heap.size ≤ y2.heap.size := k2.size))
    all_goals (go_wp2_with fail; go_meet)
    all_goals refine ⟨_, Ar, er, rfl, rfl, ?_, ?_, ?_, ?_, ?_⟩
    all_goals first
      | (with_reducible exact BoxAt.new' _ _ _ _ rfl)
      | (with_reducible exact Dz.setAll _ _)
      | (with_reducible exact (our.below ((Below.refl _ _).alloc (Nat.le_refl _) _)).more hbase)
      | (with_reducible exact (our.setFar (hne.out _ (.inl n3)) _ _ _ _ _).more hbase)
      | (with_reducible exact k3.alloc k3.size _)
      | (with_reducible exact Below.setFar k3 n2 _ _ _ _ _)
      | (with_reducible exact k3.size)
      | (with_reducible exact n2)
      | exact hne.out _ (.inr (Nat.le_refl _))
      | exact hne.out _ (.inl n3)
  obtain ⟨gw0, Aw0, ew0, rfl, rfl, Dw0, ow0, hgw0, hnw0, c8⟩ := hcut
  obtain ⟨w8, rfl⟩ : ∃ x, x = wc := ⟨wc, rfl⟩
  clear B0
  have lw0 := Dw0.lt
  have iw0 := ow0.within
  have b8 := bnext b4 c8
  replace DaP := DaP.below c8
  replace DaQ := DaQ.below c8
  have s8 : w4.heap.size ≤ w8.heap.size := c8.size
  obtain ⟨xaP0, xaP1, xaP2, xaP3, xaP4, xaPs⟩ := DaP.cells
  go_wp2_with fail
  clear xaP0 xaP1 xaP2 xaP3 xaP4 xaPs
  refine (toPlan_any p0 ve0 _ hm0 ((h0.below b8).more b8.size)).mono ?_
  rintro e w9 ⟨ux0, rfl, ox0, c9⟩
  have b9 := bnext b8 c9
  replace ow0 := ow0.below c9
  replace DaP := DaP.below c9
  replace DaQ := DaQ.below c9
  replace Dw0 := Dw0.below c9
  have s9 : w8.heap.size ≤ w9.heap.size := c9.size
  replace ox0 : Ow edgeE 91 w9 w8.heap.size ux0 p0.edges := ox0
  have ix0 := ox0.within
  obtain ⟨Ax0, ex0, rfl, -⟩ := id (Rd.of_own ox0)
  obtain ⟨xaQ0, xaQ1, xaQ2, xaQ3, xaQ4, xaQs⟩ := DaQ.cells
  go_wp2_with fail
  clear xaQ0 xaQ1 xaQ2 xaQ3 xaQ4 xaQs
  generalize hW10 : w9.alloc (.cells #[.int .i64 p0.prio, .int .i64 p0.most, .int .i64 p0.wait, .int .i64 p0.tasks, (.slice Ax0 p0.edges.length ex0)] 47) = w10
  have c10 : Below w9.heap.size w9 w10 := by rw [← hW10]; exact planBox_below 47 p0 (.slice Ax0 p0.edges.length ex0) w9
  have Dx0 : BoxAt (w9.heap.size) p0 (.slice Ax0 p0.edges.length ex0) w10 := by rw [← hW10]; exact BoxAt.new 47 p0 (.slice Ax0 p0.edges.length ex0) w9
  clear hW10
  have lx0 := Dx0.lt
  have b10 := bnext b9 c10
  replace ow0 := ow0.below c10
  replace ox0 := ox0.below c10
  replace DaP := DaP.below c10
  replace DaQ := DaQ.below c10
  replace Dw0 := Dw0.below c10
  have s10 : w9.heap.size ≤ w10.heap.size := c10.size
  refine (toPlan_any p1 ve1 _ hm1 ((h1.below b10).more b10.size)).mono ?_
  rintro e w11 ⟨ux1, rfl, ox1, c11⟩
  have b11 := bnext b10 c11
  replace ow0 := ow0.below c11
  replace ox0 := ox0.below c11
  replace DaP := DaP.below c11
  replace DaQ := DaQ.below c11
  replace Dw0 := Dw0.below c11
  replace Dx0 := Dx0.below c11
  have s11 : w10.heap.size ≤ w11.heap.size := c11.size
  replace ox1 : Ow edgeE 91 w11 w10.heap.size ux1 p1.edges := ox1
  have ix1 := ox1.within
  obtain ⟨Ax1, ex1, rfl, -⟩ := id (Rd.of_own ox1)
  obtain ⟨xx00, xx01, xx02, xx03, xx04, xx0s⟩ := Dx0.cells
  go_wp2_with fail
  clear xx00 xx01 xx02 xx03 xx04 xx0s
  generalize hW12 : w11.alloc (.cells #[.int .i64 p1.prio, .int .i64 p1.most, .int .i64 p1.wait, .int .i64 p1.tasks, (.slice Ax1 p1.edges.length ex1)] 47) = w12
  have c12 : Below w11.heap.size w11 w12 := by rw [← hW12]; exact planBox_below 47 p1 (.slice Ax1 p1.edges.length ex1) w11
  have Dx1 : BoxAt (w11.heap.size) p1 (.slice Ax1 p1.edges.length ex1) w12 := by rw [← hW12]; exact BoxAt.new 47 p1 (.slice Ax1 p1.edges.length ex1) w11
  clear hW12
  have lx1 := Dx1.lt
  have b12 := bnext b11 c12
  replace ow0 := ow0.below c12
  replace ox0 := ox0.below c12
  replace ox1 := ox1.below c12
  replace DaP := DaP.below c12
  replace DaQ := DaQ.below c12
  replace Dw0 := Dw0.below c12
  replace Dx0 := Dx0.below c12
  have s12 : w11.heap.size ≤ w12.heap.size := c12.size
  refine (implJBehind_any p0 (.slice Ax0 p0.edges.length ex0) p1 (.slice Ax1 p1.edges.length ex1) _ hm0 hm1 (Rd.of_own ox0) (Rd.of_own ox1)).mono ?_
  rintro e w13 ⟨ug0, rfl, og0, c13⟩
  have b13 := bnext b12 c13
  replace ow0 := ow0.below c13
  replace ox0 := ox0.below c13
  replace ox1 := ox1.below c13
  replace DaP := DaP.below c13
  replace DaQ := DaQ.below c13
  replace Dw0 := Dw0.below c13
  replace Dx0 := Dx0.below c13
  replace Dx1 := Dx1.below c13
  have s13 : w12.heap.size ≤ w13.heap.size := c13.size
  replace og0 : Ow edgeE 91 w13 w12.heap.size ug0 (((joined p0 p1 (moreL p0 p1)).1).edges) := og0
  have ig0 := og0.within
  obtain ⟨Ag0, eg0, rfl, -⟩ := id (Rd.of_own og0)
  obtain ⟨xw00, xw01, xw02, xw03, xw04, xw0s⟩ := Dw0.cells
  go_wp2_with fail
  clear xw00 xw01 xw02 xw03 xw04 xw0s
  generalize hW14 : w13.alloc (.cells #[.int .i64 ((joined p0 p1 (moreL p0 p1)).1).prio, .int .i64 ((joined p0 p1 (moreL p0 p1)).1).most, .int .i64 ((joined p0 p1 (moreL p0 p1)).1).wait, .int .i64 ((joined p0 p1 (moreL p0 p1)).1).tasks, (.slice Ag0 (((joined p0 p1 (moreL p0 p1)).1).edges).length eg0)] 47) = w14
  have c14 : Below w13.heap.size w13 w14 := by rw [← hW14]; exact planBox_below 47 ((joined p0 p1 (moreL p0 p1)).1) (.slice Ag0 (((joined p0 p1 (moreL p0 p1)).1).edges).length eg0) w13
  have Dg0 : BoxAt (w13.heap.size) ((joined p0 p1 (moreL p0 p1)).1) (.slice Ag0 (((joined p0 p1 (moreL p0 p1)).1).edges).length eg0) w14 := by rw [← hW14]; exact BoxAt.new 47 ((joined p0 p1 (moreL p0 p1)).1) (.slice Ag0 (((joined p0 p1 (moreL p0 p1)).1).edges).length eg0) w13
  clear hW14
  have lg0 := Dg0.lt
  have b14 := bnext b13 c14
  replace ow0 := ow0.below c14
  replace ox0 := ox0.below c14
  replace ox1 := ox1.below c14
  replace og0 := og0.below c14
  replace DaP := DaP.below c14
  replace DaQ := DaQ.below c14
  replace Dw0 := Dw0.below c14
  replace Dx0 := Dx0.below c14
  replace Dx1 := Dx1.below c14
  have s14 : w13.heap.size ≤ w14.heap.size := c14.size
  refine (eqPlan_any ((joined p0 p1 (moreL p0 p1)).1) ((joined p0 p1 (moreL p0 p1)).1) _ _ _ hmr hmr (Rd.of_own og0) (Rd.of_own ow0)).mono ?_
  rintro e w15 ⟨rfl, c15⟩
  have b15 := bnext b14 c15
  replace ow0 := ow0.below c15
  replace ox0 := ox0.below c15
  replace ox1 := ox1.below c15
  replace og0 := og0.below c15
  replace DaP := DaP.below c15
  replace DaQ := DaQ.below c15
  replace Dw0 := Dw0.below c15
  replace Dx0 := Dx0.below c15
  replace Dx1 := Dx1.below c15
  replace Dg0 := Dg0.below c15
  have s15 : w14.heap.size ≤ w15.heap.size := c15.size
  obtain ⟨xx00, xx01, xx02, xx03, xx04, xx0s⟩ := Dx0.cells
  obtain ⟨xaP0, xaP1, xaP2, xaP3, xaP4, xaPs⟩ := DaP.cells
  go_wp2_with fail
  clear xx00 xx01 xx02 xx03 xx04 xx0s xaP0 xaP1 xaP2 xaP3 xaP4 xaPs
  obtain ⟨xx00, xx01, xx02, xx03, xx04, xx0s⟩ := Dx0.cells
  obtain ⟨xaP0, xaP1, xaP2, xaP3, xaP4, xaPs⟩ := DaP.cells
  go_region_held3 (fun w' => w'.cell? ⟨w9.heap.size, 0, none⟩ = some (.int .i64 p0.prio) ∧ w'.cell? ⟨w9.heap.size, 1, none⟩ = some (.int .i64 p0.most) ∧ w'.cell? ⟨w9.heap.size, 2, none⟩ = some (.int .i64 p0.wait) ∧ w'.cell? ⟨w9.heap.size, 3, none⟩ = some (.int .i64 p0.tasks) ∧ w'.cell? ⟨w9.heap.size, 4, none⟩ = some ((.slice Ax0 p0.edges.length ex0)) ∧ w'.cell? ⟨w.heap.size, 0, none⟩ = some (.int .i64 p0.prio) ∧ w'.cell? ⟨w.heap.size, 1, none⟩ = some (.int .i64 p0.most) ∧ w'.cell? ⟨w.heap.size, 2, none⟩ = some (.int .i64 p0.wait) ∧ w'.cell? ⟨w.heap.size, 3, none⟩ = some (.int .i64 p0.tasks) ∧ w'.cell? ⟨w.heap.size, 4, none⟩ = some (ve0))
    (first | (refine ⟨?_, ?_, ?_, ?_, ?_, ?_, ?_, ?_, ?_, ?_⟩ <;> first | assumption | go_keep) | go_keep)
    (first
      | (go_at_call 45; (with_reducible refine (toPlan_any p0 ve0 _ hm0 ((h0.below b15.drew).more b15.drew.size)).mono ?_); rintro e w16 ⟨uyx0, rfl, oyx0, c16⟩; have b16 := bnext b15 (bnext ((Below.refl w15.heap.size w15).drew) c16); replace ow0 := ow0.below (bnext ((Below.refl w15.heap.size w15).drew) c16); replace ox0 := ox0.below (bnext ((Below.refl w15.heap.size w15).drew) c16); replace ox1 := ox1.below (bnext ((Below.refl w15.heap.size w15).drew) c16); replace og0 := og0.below (bnext ((Below.refl w15.heap.size w15).drew) c16); replace DaP := DaP.below (bnext ((Below.refl w15.heap.size w15).drew) c16); replace DaQ := DaQ.below (bnext ((Below.refl w15.heap.size w15).drew) c16); replace Dw0 := Dw0.below (bnext ((Below.refl w15.heap.size w15).drew) c16); replace Dx0 := Dx0.below (bnext ((Below.refl w15.heap.size w15).drew) c16); replace Dx1 := Dx1.below (bnext ((Below.refl w15.heap.size w15).drew) c16); replace Dg0 := Dg0.below (bnext ((Below.refl w15.heap.size w15).drew) c16); have s16 : w15.heap.size ≤ w16.heap.size := c16.size; replace oyx0 : Ow edgeE 91 w16 w15.heap.size uyx0 p0.edges := oyx0; have iyx0 := oyx0.within; obtain ⟨Xx00, Xx01, Xx02, Xx03, Xx04, Xx0s⟩ := Dx0.cells; obtain ⟨XaP0, XaP1, XaP2, XaP3, XaP4, XaPs⟩ := DaP.cells)
      | (go_at_call 47; (with_reducible refine (eqPlan_any p0 p0 _ _ _ hm0 hm0 (Rd.of_own ox0) (Rd.of_own oyx0)).mono ?_); rintro e w17 ⟨rfl, c17⟩; have b17 := bnext b16 c17; replace ow0 := ow0.below c17; replace ox0 := ox0.below c17; replace ox1 := ox1.below c17; replace og0 := og0.below c17; replace oyx0 := oyx0.below c17; replace DaP := DaP.below c17; replace DaQ := DaQ.below c17; replace Dw0 := Dw0.below c17; replace Dx0 := Dx0.below c17; replace Dx1 := Dx1.below c17; replace Dg0 := Dg0.below c17; have s17 : w16.heap.size ≤ w17.heap.size := c17.size; clear oyx0 iyx0; obtain ⟨X1x00, X1x01, X1x02, X1x03, X1x04, X1x0s⟩ := Dx0.cells; obtain ⟨X1aP0, X1aP1, X1aP2, X1aP3, X1aP4, X1aPs⟩ := DaP.cells))
  clear xx00 xx01 xx02 xx03 xx04 xx0s xaP0 xaP1 xaP2 xaP3 xaP4 xaPs
  clear Xx00 Xx01 Xx02 Xx03 Xx04 Xx0s XaP0 XaP1 XaP2 XaP3 XaP4 XaPs
  clear X1x00 X1x01 X1x02 X1x03 X1x04 X1x0s X1aP0 X1aP1 X1aP2 X1aP3 X1aP4 X1aPs
  obtain ⟨xx10, xx11, xx12, xx13, xx14, xx1s⟩ := Dx1.cells
  obtain ⟨xaQ0, xaQ1, xaQ2, xaQ3, xaQ4, xaQs⟩ := DaQ.cells
  go_wp2_with fail
  clear xx10 xx11 xx12 xx13 xx14 xx1s xaQ0 xaQ1 xaQ2 xaQ3 xaQ4 xaQs
  obtain ⟨xx10, xx11, xx12, xx13, xx14, xx1s⟩ := Dx1.cells
  obtain ⟨xaQ0, xaQ1, xaQ2, xaQ3, xaQ4, xaQs⟩ := DaQ.cells
  go_region_held3 (fun w' => w'.cell? ⟨w11.heap.size, 0, none⟩ = some (.int .i64 p1.prio) ∧ w'.cell? ⟨w11.heap.size, 1, none⟩ = some (.int .i64 p1.most) ∧ w'.cell? ⟨w11.heap.size, 2, none⟩ = some (.int .i64 p1.wait) ∧ w'.cell? ⟨w11.heap.size, 3, none⟩ = some (.int .i64 p1.tasks) ∧ w'.cell? ⟨w11.heap.size, 4, none⟩ = some ((.slice Ax1 p1.edges.length ex1)) ∧ w'.cell? ⟨w.heap.size + 1, 0, none⟩ = some (.int .i64 p1.prio) ∧ w'.cell? ⟨w.heap.size + 1, 1, none⟩ = some (.int .i64 p1.most) ∧ w'.cell? ⟨w.heap.size + 1, 2, none⟩ = some (.int .i64 p1.wait) ∧ w'.cell? ⟨w.heap.size + 1, 3, none⟩ = some (.int .i64 p1.tasks) ∧ w'.cell? ⟨w.heap.size + 1, 4, none⟩ = some (ve1))
    (first | (refine ⟨?_, ?_, ?_, ?_, ?_, ?_, ?_, ?_, ?_, ?_⟩ <;> first | assumption | go_keep) | go_keep)
    (first
      | (go_at_call 45; (with_reducible refine (toPlan_any p1 ve1 _ hm1 ((h1.below b17.drew).more b17.drew.size)).mono ?_); rintro e w18 ⟨uyx1, rfl, oyx1, c18⟩; have b18 := bnext b17 (bnext ((Below.refl w17.heap.size w17).drew) c18); replace ow0 := ow0.below (bnext ((Below.refl w17.heap.size w17).drew) c18); replace ox0 := ox0.below (bnext ((Below.refl w17.heap.size w17).drew) c18); replace ox1 := ox1.below (bnext ((Below.refl w17.heap.size w17).drew) c18); replace og0 := og0.below (bnext ((Below.refl w17.heap.size w17).drew) c18); replace DaP := DaP.below (bnext ((Below.refl w17.heap.size w17).drew) c18); replace DaQ := DaQ.below (bnext ((Below.refl w17.heap.size w17).drew) c18); replace Dw0 := Dw0.below (bnext ((Below.refl w17.heap.size w17).drew) c18); replace Dx0 := Dx0.below (bnext ((Below.refl w17.heap.size w17).drew) c18); replace Dx1 := Dx1.below (bnext ((Below.refl w17.heap.size w17).drew) c18); replace Dg0 := Dg0.below (bnext ((Below.refl w17.heap.size w17).drew) c18); have s18 : w17.heap.size ≤ w18.heap.size := c18.size; replace oyx1 : Ow edgeE 91 w18 w17.heap.size uyx1 p1.edges := oyx1; have iyx1 := oyx1.within; obtain ⟨Xx10, Xx11, Xx12, Xx13, Xx14, Xx1s⟩ := Dx1.cells; obtain ⟨XaQ0, XaQ1, XaQ2, XaQ3, XaQ4, XaQs⟩ := DaQ.cells)
      | (go_at_call 47; (with_reducible refine (eqPlan_any p1 p1 _ _ _ hm1 hm1 (Rd.of_own ox1) (Rd.of_own oyx1)).mono ?_); rintro e w19 ⟨rfl, c19⟩; have b19 := bnext b18 c19; replace ow0 := ow0.below c19; replace ox0 := ox0.below c19; replace ox1 := ox1.below c19; replace og0 := og0.below c19; replace oyx1 := oyx1.below c19; replace DaP := DaP.below c19; replace DaQ := DaQ.below c19; replace Dw0 := Dw0.below c19; replace Dx0 := Dx0.below c19; replace Dx1 := Dx1.below c19; replace Dg0 := Dg0.below c19; have s19 : w18.heap.size ≤ w19.heap.size := c19.size; clear oyx1 iyx1; obtain ⟨X1x10, X1x11, X1x12, X1x13, X1x14, X1x1s⟩ := Dx1.cells; obtain ⟨X1aQ0, X1aQ1, X1aQ2, X1aQ3, X1aQ4, X1aQs⟩ := DaQ.cells))
  clear xx10 xx11 xx12 xx13 xx14 xx1s xaQ0 xaQ1 xaQ2 xaQ3 xaQ4 xaQs
  clear Xx10 Xx11 Xx12 Xx13 Xx14 Xx1s XaQ0 XaQ1 XaQ2 XaQ3 XaQ4 XaQs
  clear X1x10 X1x11 X1x12 X1x13 X1x14 X1x1s X1aQ0 X1aQ1 X1aQ2 X1aQ3 X1aQ4 X1aQs
  obtain ⟨xx00, xx01, xx02, xx03, xx04, xx0s⟩ := Dx0.cells
  go_wp2_with fail
  clear xx00 xx01 xx02 xx03 xx04 xx0s
  refine (markPlan_any p0 (.slice Ax0 p0.edges.length ex0) 1 w8.heap.size _ hm0 (by omega) (by omega) (by omega) ox0).mono ?_
  rintro e w20 ⟨rfl, oo20, g20, c20⟩
  have b20 := b19.trans (c20.mono (by omega))
  replace ow0 := ow0.grown g20 (Within.apart iw0 ix0 (by first | exact .inl (by omega) | exact .inr (by omega)))
  replace ox1 := ox1.grown g20 (Within.apart ix1 ix0 (by first | exact .inl (by omega) | exact .inr (by omega)))
  replace og0 := og0.grown g20 (Within.apart ig0 ix0 (by first | exact .inl (by omega) | exact .inr (by omega)))
  replace DaP := DaP.mark g20 ix0 (by first | exact .inl (by omega) | exact .inr (by omega))
  replace DaQ := DaQ.mark g20 ix0 (by first | exact .inl (by omega) | exact .inr (by omega))
  replace Dw0 := Dw0.mark g20 ix0 (by first | exact .inl (by omega) | exact .inr (by omega))
  replace Dx0 := Dx0.mark g20 ix0 (by first | exact .inl (by omega) | exact .inr (by omega))
  replace Dx1 := Dx1.mark g20 ix0 (by first | exact .inl (by omega) | exact .inr (by omega))
  replace Dg0 := Dg0.mark g20 ix0 (by first | exact .inl (by omega) | exact .inr (by omega))
  have s20 : w19.heap.size ≤ w20.heap.size := c20.size
  replace ox0 := oo20
  obtain ⟨xx10, xx11, xx12, xx13, xx14, xx1s⟩ := Dx1.cells
  go_wp2_with fail
  clear xx10 xx11 xx12 xx13 xx14 xx1s
  refine (markPlan_any p1 (.slice Ax1 p1.edges.length ex1) (1 + 2 * p0.edges.length) w10.heap.size _ hm1 (by omega) (by omega) (by omega) ox1).mono ?_
  rintro e w21 ⟨rfl, oo21, g21, c21⟩
  have b21 := b20.trans (c21.mono (by omega))
  replace ow0 := ow0.grown g21 (Within.apart iw0 ix1 (by first | exact .inl (by omega) | exact .inr (by omega)))
  replace ox0 := ox0.grown g21 (Within.apart ix0 ix1 (by first | exact .inl (by omega) | exact .inr (by omega)))
  replace og0 := og0.grown g21 (Within.apart ig0 ix1 (by first | exact .inl (by omega) | exact .inr (by omega)))
  replace DaP := DaP.mark g21 ix1 (by first | exact .inl (by omega) | exact .inr (by omega))
  replace DaQ := DaQ.mark g21 ix1 (by first | exact .inl (by omega) | exact .inr (by omega))
  replace Dw0 := Dw0.mark g21 ix1 (by first | exact .inl (by omega) | exact .inr (by omega))
  replace Dx0 := Dx0.mark g21 ix1 (by first | exact .inl (by omega) | exact .inr (by omega))
  replace Dx1 := Dx1.mark g21 ix1 (by first | exact .inl (by omega) | exact .inr (by omega))
  replace Dg0 := Dg0.mark g21 ix1 (by first | exact .inl (by omega) | exact .inr (by omega))
  have s21 : w20.heap.size ≤ w21.heap.size := c21.size
  replace ox1 := oo21
  obtain ⟨xg00, xg01, xg02, xg03, xg04, xg0s⟩ := Dg0.cells
  obtain ⟨xw00, xw01, xw02, xw03, xw04, xw0s⟩ := Dw0.cells
  go_wp2_with fail
  clear xg00 xg01 xg02 xg03 xg04 xg0s xw00 xw01 xw02 xw03 xw04 xw0s
  refine (eqPlan_any ((joined p0 p1 (moreL p0 p1)).1) ((joined p0 p1 (moreL p0 p1)).1) _ _ _ hmr hmr (Rd.of_own og0) (Rd.of_own ow0)).mono ?_
  rintro e w22 ⟨rfl, c22⟩
  have b22 := bnext b21 c22
  replace ow0 := ow0.below c22
  replace ox0 := ox0.below c22
  replace ox1 := ox1.below c22
  replace og0 := og0.below c22
  replace DaP := DaP.below c22
  replace DaQ := DaQ.below c22
  replace Dw0 := Dw0.below c22
  replace Dx0 := Dx0.below c22
  replace Dx1 := Dx1.below c22
  replace Dg0 := Dg0.below c22
  have s22 : w21.heap.size ≤ w22.heap.size := c22.size
  obtain ⟨xg00, xg01, xg02, xg03, xg04, xg0s⟩ := Dg0.cells
  go_wp2_with fail
  clear xg00 xg01 xg02 xg03 xg04 xg0s
  refine (markPlan_any ((joined p0 p1 (moreL p0 p1)).1) (.slice Ag0 (((joined p0 p1 (moreL p0 p1)).1).edges).length eg0) 1 w12.heap.size _ hmr (by omega) (by omega) (by omega) og0).mono ?_
  rintro e w23 ⟨rfl, oo23, g23, c23⟩
  have b23 := b22.trans (c23.mono (by omega))
  replace ow0 := ow0.grown g23 (Within.apart iw0 ig0 (by first | exact .inl (by omega) | exact .inr (by omega)))
  replace ox0 := ox0.grown g23 (Within.apart ix0 ig0 (by first | exact .inl (by omega) | exact .inr (by omega)))
  replace ox1 := ox1.grown g23 (Within.apart ix1 ig0 (by first | exact .inl (by omega) | exact .inr (by omega)))
  replace DaP := DaP.mark g23 ig0 (by first | exact .inl (by omega) | exact .inr (by omega))
  replace DaQ := DaQ.mark g23 ig0 (by first | exact .inl (by omega) | exact .inr (by omega))
  replace Dw0 := Dw0.mark g23 ig0 (by first | exact .inl (by omega) | exact .inr (by omega))
  replace Dx0 := Dx0.mark g23 ig0 (by first | exact .inl (by omega) | exact .inr (by omega))
  replace Dx1 := Dx1.mark g23 ig0 (by first | exact .inl (by omega) | exact .inr (by omega))
  replace Dg0 := Dg0.mark g23 ig0 (by first | exact .inl (by omega) | exact .inr (by omega))
  have s23 : w22.heap.size ≤ w23.heap.size := c23.size
  replace og0 := oo23
  obtain ⟨xg00, xg01, xg02, xg03, xg04, xg0s⟩ := Dg0.cells
  go_wp2_with fail
  clear xg00 xg01 xg02 xg03 xg04 xg0s
  refine (heldPlan_any ((joined p0 p1 (moreL p0 p1)).1) (.slice Ag0 (((joined p0 p1 (moreL p0 p1)).1).edges).length eg0) (((joined p0 p1 (moreL p0 p1)).1).edges).length 1 _ hmr (by omega) (by omega) (Rd.of_own og0)).mono ?_
  rintro e w24 ⟨rfl, c24⟩
  have b24 := bnext b23 c24
  replace ow0 := ow0.below c24
  replace ox0 := ox0.below c24
  replace ox1 := ox1.below c24
  replace og0 := og0.below c24
  replace DaP := DaP.below c24
  replace DaQ := DaQ.below c24
  replace Dw0 := Dw0.below c24
  replace Dx0 := Dx0.below c24
  replace Dx1 := Dx1.below c24
  replace Dg0 := Dg0.below c24
  have s24 : w23.heap.size ≤ w24.heap.size := c24.size
  have B0 := b24
  go_upto_region 31 with fail
  go_cut [15, 16] (fun sa sb wx => ∃ (g : Nat) (A : Option Addr) (ec : Nat), sa = .pointer (some ⟨g, 0, none⟩) ∧ sb = .bool (joined p0 p1 (moreL p0 p1)).2 ∧ BoxAt g (joined p0 p1 (moreL p0 p1)).1 (.slice A ((joined p0 p1 (moreL p0 p1)).1.edges).length ec) wx ∧ Ow edgeE 91 wx w24.heap.size (.slice A ((joined p0 p1 (moreL p0 p1)).1.edges).length ec) (joined p0 p1 (moreL p0 p1)).1.edges ∧ w24.heap.size ≤ g ∧ Hid ((Value.slice A ((joined p0 p1 (moreL p0 p1)).1.edges).length ec).ownBlock ≠ some g) ∧ Below w24.heap.size w24 wx)
  case first =>
    have hz : Hid (∀ w : World, Below w.heap.size w (w.alloc (.cells #[.int .i64 0, .int .i64 0, .int .i64 0, .int .i64 0, .slice none 0 0] 47))) := fun w => (Below.refl _ _).alloc (Nat.le_refl _) _
    have k0 : Below w24.heap.size w24 w24.drew := (Below.refl _ _).drew
    have Daw := bnext B0 k0; have laP := DaP.lt; have laQ := DaQ.lt
    obtain ⟨xaP0, xaP1, xaP2, xaP3, xaP4, xaPs⟩ := DaP.cells
    obtain ⟨xaQ0, xaQ1, xaQ2, xaQ3, xaQ4, xaQs⟩ := DaQ.cells
    go_region_held3 (fun w' => w'.cell? ⟨w.heap.size, 0, none⟩ = some (.int .i64 p0.prio) ∧ w'.cell? ⟨w.heap.size, 1, none⟩ = some (.int .i64 p0.most) ∧ w'.cell? ⟨w.heap.size, 2, none⟩ = some (.int .i64 p0.wait) ∧ w'.cell? ⟨w.heap.size, 3, none⟩ = some (.int .i64 p0.tasks) ∧ w'.cell? ⟨w.heap.size, 4, none⟩ = some (ve0) ∧ w'.cell? ⟨w.heap.size + 1, 0, none⟩ = some (.int .i64 p1.prio) ∧ w'.cell? ⟨w.heap.size + 1, 1, none⟩ = some (.int .i64 p1.most) ∧ w'.cell? ⟨w.heap.size + 1, 2, none⟩ = some (.int .i64 p1.wait) ∧ w'.cell? ⟨w.heap.size + 1, 3, none⟩ = some (.int .i64 p1.tasks) ∧ w'.cell? ⟨w.heap.size + 1, 4, none⟩ = some (ve1))
      (first | (refine ⟨?_, ?_, ?_, ?_, ?_, ?_, ?_, ?_, ?_, ?_⟩ <;> first | (with_reducible assumption) | ((with_reducible refine (setBox_cell _ _ _ _ _ n0).trans ?_); (with_reducible assumption)) | ((with_reducible refine (setBox_cell _ _ _ _ _ n1).trans ?_); (with_reducible assumption)) | go_keep) | go_keep)
      (first
        | (go_at_call 45; (with_reducible refine (toPlan_any p0 ve0 _ hm0 ((h0.below (bnext B0 k0)).more (bnext B0 k0).size)).mono ?_); rintro e y1 ⟨up, rfl, oup, c⟩; have c0 := c; have iup := oup.within; have k1 := bnext k0 c; replace DaP := DaP.below k1; replace DaQ := DaQ.below k1; have q1 : w24.heap.size ≤ y1.heap.size := k1.size; (try (obtain ⟨z0, z1, z2, z3, z4, zs⟩ := Dz.cells)); (try (have zf := Dz.free)); obtain ⟨X1aP0, X1aP1, X1aP2, X1aP3, X1aP4, X1aPs⟩ := DaP.cells; obtain ⟨X1aQ0, X1aQ1, X1aQ2, X1aQ3, X1aQ4, X1aQs⟩ := DaQ.cells)
        | (go_at_call 45; (with_reducible refine (toPlan_any p0 ve0 _ hm0 ((h0.below (bnext B0 (hz.out w24).drew)).more (bnext B0 (hz.out w24).drew).size)).mono ?_); rintro e y1 ⟨up, rfl, oup, c⟩; have c0 := c; have iup := oup.within; have k1 := bnext (hz.out w24).drew c; replace DaP := DaP.below k1; replace DaQ := DaQ.below k1; have q1 : w24.heap.size ≤ y1.heap.size := k1.size; have Dz := ((BoxAt.new' 47 zeroPlan (.slice none 0 0) w24 rfl).below ((Below.refl _ _).drew)).below c0; have n2 : w24.heap.size ≤ w24.heap.size := Nat.le_refl _; have n0 : ¬ w.heap.size = w24.heap.size := (by omega); have n1 : ¬ w.heap.size + 1 = w24.heap.size := (by omega); have n3 := Dz.lt; (try (obtain ⟨z0, z1, z2, z3, z4, zs⟩ := Dz.cells)); (try (have zf := Dz.free)); obtain ⟨X1aP0, X1aP1, X1aP2, X1aP3, X1aP4, X1aPs⟩ := DaP.cells; obtain ⟨X1aQ0, X1aQ1, X1aQ2, X1aQ3, X1aQ4, X1aQs⟩ := DaQ.cells)
        | (go_at_call 45; (with_reducible refine (toPlan_any p1 ve1 _ hm1 ((h1.below (bnext B0 k1)).more (bnext B0 k1).size)).mono ?_); rintro e y2 ⟨uq, rfl, ouq, c⟩; have c0 := c; have iuq := ouq.within; have k2 := bnext k1 c; replace DaP := DaP.below c; replace DaQ := DaQ.below c; have q2 : (y1).heap.size ≤ y2.heap.size := c.size; (try (replace Dz := Dz.below c)); (try (have n3 := Nat.lt_of_lt_of_le n3 q2)); (try (obtain ⟨z0, z1, z2, z3, z4, zs⟩ := Dz.cells)); (try (have zf := Dz.free)); obtain ⟨X2aP0, X2aP1, X2aP2, X2aP3, X2aP4, X2aPs⟩ := DaP.cells; obtain ⟨X2aQ0, X2aQ1, X2aQ2, X2aQ3, X2aQ4, X2aQs⟩ := DaQ.cells; replace oup := oup.below c)
        | (go_at_call 45; (with_reducible refine (toPlan_any p1 ve1 _ hm1 ((h1.below (bnext B0 (bnext k1 (hz.out (y1))))).more (bnext B0 (bnext k1 (hz.out (y1)))).size)).mono ?_); rintro e y2 ⟨uq, rfl, ouq, c⟩; have c0 := c; have iuq := ouq.within; have c := bnext (hz.out (y1)) c; have k2 := bnext k1 c; replace DaP := DaP.below c; replace DaQ := DaQ.below c; have q2 : (y1).heap.size ≤ y2.heap.size := c.size; have Dz := (BoxAt.new' 47 zeroPlan (.slice none 0 0) (y1) rfl).below c0; have n2 : w24.heap.size ≤ (y1).heap.size := k1.size; have n0 : ¬ w.heap.size = (y1).heap.size := (by omega); have n1 : ¬ w.heap.size + 1 = (y1).heap.size := (by omega); have n3 := Dz.lt; (try (obtain ⟨z0, z1, z2, z3, z4, zs⟩ := Dz.cells)); (try (have zf := Dz.free)); obtain ⟨X2aP0, X2aP1, X2aP2, X2aP3, X2aP4, X2aPs⟩ := DaP.cells; obtain ⟨X2aQ0, X2aQ1, X2aQ2, X2aQ3, X2aQ4, X2aQs⟩ := DaQ.cells; replace oup := oup.below c)
        | (go_at_call 78; (with_reducible refine (implJBehind_any p0 up p1 uq _ hm0 hm1 (Rd.of_own oup) (Rd.of_own ouq)).mono ?_); rintro e y3 ⟨ur, rfl, our, c⟩; have c0 := c; have hbase : w24.heap.size ≤ y2.heap.size := (by have := k2.size; omega); have iur := our.within; have hne : Hid (∀ g, (g < y2.heap.size ∨ y3.heap.size ≤ g) → ur.ownBlock ≠ some g) := (fun g hg e => by have := iur g e; omega); obtain ⟨Ar, er, rfl, -⟩ := id (Rd.of_own our); have k3 := bnext k2 c; replace DaP := DaP.below c; replace DaQ := DaQ.below c; have q3 : (y2).heap.size ≤ y3.heap.size := c.size; (try (replace Dz := Dz.below c)); (try (obtain ⟨z0, z1, z2, z3, z4, zs⟩ := Dz.cells)); (try (have zf := Dz.free)); obtain ⟨X3aP0, X3aP1, X3aP2, X3aP3, X3aP4, X3aPs⟩ := DaP.cells; obtain ⟨X3aQ0, X3aQ1, X3aQ2, X3aQ3, X3aQ4, X3aQs⟩ := DaQ.cells; have q0 : w24.heap.size ≤ y2.heap.size := k2.size)
        | (go_at_call 78; (with_reducible refine (implJBehind_any p0 up p1 uq _ hm0 hm1 (Rd.of_own (oup.below (hz.out y2))) (Rd.of_own (ouq.below (hz.out y2)))).mono ?_); rintro e y3 ⟨ur, rfl, our, c⟩; have c0 := c; replace our : Ow edgeE 91 y3 (y2.heap.size + 1) ur (joined p0 p1 (moreL p0 p1)).1.edges := (by have := our; simp only [World.size_alloc] at this; exact this); have n3 : y2.heap.size < y2.heap.size + 1 := Nat.lt_succ_self _; have hbase : w24.heap.size ≤ y2.heap.size + 1 := (by have := k2.size; omega); have iur := our.within; have hne : Hid (∀ g, (g < y2.heap.size + 1 ∨ y3.heap.size ≤ g) → ur.ownBlock ≠ some g) := (fun g hg e => by have := iur g e; omega); obtain ⟨Ar, er, rfl, -⟩ := id (Rd.of_own our); have c := bnext (hz.out (y2)) c; have k3 := bnext k2 c; replace DaP := DaP.below c; replace DaQ := DaQ.below c; have q3 : (y2).heap.size ≤ y3.heap.size := c.size; have Dz := (BoxAt.new' 47 zeroPlan (.slice none 0 0) (y2) rfl).below c0; have n2 : w24.heap.size ≤ (y2).heap.size := k2.size; have n0 : ¬ w.heap.size = (y2).heap.size := (by omega); have n1 : ¬ w.heap.size + 1 = (y2).heap.size := (by omega); (try (obtain ⟨z0, z1, z2, z3, z4, zs⟩ := Dz.cells)); (try (have zf := Dz.free)); obtain ⟨X3aP0, X3aP1, X3aP2, X3aP3, X3aP4, X3aPs⟩ := DaP.cells; obtain ⟨X3aQ0, X3aQ1, X3aQ2, X3aQ3, X3aQ4, X3aQs⟩ := DaQ.cells; have q0 : w24.heap.size ≤ y2.heap.size := k2.size))
    all_goals (go_wp2_with fail; go_meet)
    all_goals refine ⟨_, Ar, er, rfl, rfl, ?_, ?_, ?_, ?_, ?_⟩
    all_goals first
      | (with_reducible exact BoxAt.new' _ _ _ _ rfl)
      | (with_reducible exact Dz.setAll _ _)
      | (with_reducible exact (our.below ((Below.refl _ _).alloc (Nat.le_refl _) _)).more hbase)
      | (with_reducible exact (our.setFar (hne.out _ (.inl n3)) _ _ _ _ _).more hbase)
      | (with_reducible exact k3.alloc k3.size _)
      | (with_reducible exact Below.setFar k3 n2 _ _ _ _ _)
      | (with_reducible exact k3.size)
      | (with_reducible exact n2)
      | exact hne.out _ (.inr (Nat.le_refl _))
      | exact hne.out _ (.inl n3)
  obtain ⟨gh0, Ah0, eh0, rfl, rfl, Dh0, oh0, hgh0, hnh0, c28⟩ := hcut
  obtain ⟨w28, rfl⟩ : ∃ x, x = wc := ⟨wc, rfl⟩
  clear B0
  have lh0 := Dh0.lt
  have ih0 := oh0.within
  have b28 := bnext b24 c28
  replace ow0 := ow0.below c28
  replace ox0 := ox0.below c28
  replace ox1 := ox1.below c28
  replace og0 := og0.below c28
  replace DaP := DaP.below c28
  replace DaQ := DaQ.below c28
  replace Dw0 := Dw0.below c28
  replace Dx0 := Dx0.below c28
  replace Dx1 := Dx1.below c28
  replace Dg0 := Dg0.below c28
  have s28 : w24.heap.size ≤ w28.heap.size := c28.size
  obtain ⟨xh00, xh01, xh02, xh03, xh04, xh0s⟩ := Dh0.cells
  obtain ⟨xw00, xw01, xw02, xw03, xw04, xw0s⟩ := Dw0.cells
  go_wp2_with fail
  clear xh00 xh01 xh02 xh03 xh04 xh0s xw00 xw01 xw02 xw03 xw04 xw0s
  refine (eqPlan_any ((joined p0 p1 (moreL p0 p1)).1) ((joined p0 p1 (moreL p0 p1)).1) _ _ _ hmr hmr (Rd.of_own oh0) (Rd.of_own ow0)).mono ?_
  rintro e w29 ⟨rfl, c29⟩
  have b29 := bnext b28 c29
  replace ow0 := ow0.below c29
  replace ox0 := ox0.below c29
  replace ox1 := ox1.below c29
  replace og0 := og0.below c29
  replace oh0 := oh0.below c29
  replace DaP := DaP.below c29
  replace DaQ := DaQ.below c29
  replace Dw0 := Dw0.below c29
  replace Dx0 := Dx0.below c29
  replace Dx1 := Dx1.below c29
  replace Dg0 := Dg0.below c29
  replace Dh0 := Dh0.below c29
  have s29 : w28.heap.size ≤ w29.heap.size := c29.size
  obtain ⟨xg00, xg01, xg02, xg03, xg04, xg0s⟩ := Dg0.cells
  go_wp2_with fail
  clear xg00 xg01 xg02 xg03 xg04 xg0s
  refine (heldPlan_any ((joined p0 p1 (moreL p0 p1)).1) (.slice Ag0 (((joined p0 p1 (moreL p0 p1)).1).edges).length eg0) (((joined p0 p1 (moreL p0 p1)).1).edges).length 1 _ hmr (by omega) (by omega) (Rd.of_own og0)).mono ?_
  rintro e w30 ⟨rfl, c30⟩
  have b30 := bnext b29 c30
  replace ow0 := ow0.below c30
  replace ox0 := ox0.below c30
  replace ox1 := ox1.below c30
  replace og0 := og0.below c30
  replace oh0 := oh0.below c30
  replace DaP := DaP.below c30
  replace DaQ := DaQ.below c30
  replace Dw0 := Dw0.below c30
  replace Dx0 := Dx0.below c30
  replace Dx1 := Dx1.below c30
  replace Dg0 := Dg0.below c30
  replace Dh0 := Dh0.below c30
  have s30 : w29.heap.size ≤ w30.heap.size := c30.size
  go_wp2_with fail
  go_ret
  exact ⟨rfl, b30⟩
end Go.Proofs.Ytoccmpijfggmkaa
