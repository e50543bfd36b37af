/-
  The law FnExactWeightsOk: its walk.
-/
import Derived.Test.YtoccmpijfggmkaaWs
import Derived.Test.YtoccmpijfggmkaaPh
import Derived.Test.YtoccmpijfggmkaaIn
import Derived.Deep.RegionHeld3
namespace Go.Proofs.Ytoccmpijfggmkaa
open Go.RowKit
set_option maxRecDepth 100000
set_option maxHeartbeats 1000000

theorem lawWeightsOk_walk (ve : Value) (p : Plan) (v : Value) (l : List Int) (w : World) (hl : p.edges.length ≤ 9223372036854775807) (h : Rd edgeE w w.heap.size ve p.edges) (hl2 : l.length ≤ 9223372036854775807) (h2 : Rd intE w w.heap.size v l) (_hk : ∀ s ∈ l, -9223372036854775808 ≤ s ∧ s ≤ 9223372036854775807) :
    Calls Try.prog 8 #[planV p ve, v] w fun e w' => e = .returned (.bool true) ∧ Below w.heap.size w w' := by
  obtain ⟨A, c, rfl, -⟩ := id h2
  have hb0 := planBox_below 42 p ve w
  unfold planV
  by_cases hbig : (1048576 : Int) < (l.length : Int)
  · go_enter Try.func8, Try.ntmps8
    go_wp2
    go_ret
    exact ⟨rfl, hb0⟩
  have hm2 : l.length ≤ 2000000 := by omega
  go_enter Try.func8, Try.ntmps8
  go_wp2_with fail
  refine (szPlan_any p ve _ _ (by omega) (by omega) hl ((h.below hb0).more hb0.size)).mono ?_
  rintro e w1 ⟨r1, rfl, hr1, c1⟩
  have b1 := bnext hb0 c1
  rcases hr1 with rfl | ⟨q1, s1⟩
  · go_wp2
    go_ret
    exact ⟨rfl, b1⟩
  have hm : p.edges.length ≤ 2000000 := by omega
  have qb : decide (r1 < 0) = false := by simpa using q1
  have d1 := c1
  obtain ⟨x0, x1, x2, x3, x4, hs, -⟩ := planBox_cells (T := 42) (p := p) (ve := ve) (w := w) d1
  go_wp2_with fail
  clear x0 x1 x2 x3 x4 hs
  refine (toPlan_any p ve _ hm ((h.below b1).more b1.size)).mono ?_
  rintro e w2 ⟨up0, rfl, op0, c2⟩
  have b2 := bnext b1 c2
  have d2 := bnext d1 c2
  obtain ⟨x0, x1, x2, x3, x4, hs, -⟩ := planBox_cells (T := 42) (p := p) (ve := ve) (w := w) d2
  go_wp2_with fail
  clear x0 x1 x2 x3 x4 hs
  refine (toIntS_any (.slice A l.length c) l _ hm2 ((h2.below b2).more b2.size)).mono ?_
  rintro e w3 ⟨ui0, rfl, oi0, c3⟩
  have b3 := bnext b2 c3
  have d3 := bnext d2 c3
  have op0 := op0.below c3
  obtain ⟨x0, x1, x2, x3, x4, hs, -⟩ := planBox_cells (T := 42) (p := p) (ve := ve) (w := w) d3
  go_wp2_with fail
  clear x0 x1 x2 x3 x4 hs
  refine (specWeightsOk_any p up0 ui0 l _ hm hm2 (Rd.of_own op0) (Rd.of_own oi0)).mono ?_
  rintro e w4 ⟨rfl, c4⟩
  have b4 := bnext b3 c4
  have d4 := bnext d3 c4
  have op0 := op0.below c4
  have oi0 := oi0.below c4
  obtain ⟨x0, x1, x2, x3, x4, hs, -⟩ := planBox_cells (T := 42) (p := p) (ve := ve) (w := w) d4
  go_wp2_with fail
  clear x0 x1 x2 x3 x4 hs
  refine (toPlan_any p ve _ hm ((h.below b4).more b4.size)).mono ?_
  rintro e w5 ⟨up1, rfl, op1, c5⟩
  have b5 := bnext b4 c5
  have d5 := bnext d4 c5
  have op0 := op0.below c5
  have oi0 := oi0.below c5
  obtain ⟨A1, e1, rfl, -⟩ := id (Rd.of_own op1)
  obtain ⟨x0, x1, x2, x3, x4, hs, -⟩ := planBox_cells (T := 42) (p := p) (ve := ve) (w := w) d5
  go_wp2_with fail
  clear x0 x1 x2 x3 x4 hs
  have cx := planBox_below 47 p (.slice A1 p.edges.length e1) w5
  have bx := bnext b5 cx
  have dx := bnext d5 cx
  have op0 := op0.below cx
  have oi0 := oi0.below cx
  have op1 := op1.below cx
  refine (toIntS_any (.slice A l.length c) l _ hm2 ((h2.below bx).more bx.size)).mono ?_
  rintro e w6 ⟨ui1, rfl, oi1, c6⟩
  have b6 := bnext bx c6
  have d6 := bnext dx c6
  have f6 := c6
  have op0 := op0.below c6
  have oi0 := oi0.below c6
  have op1 := op1.below c6
  obtain ⟨x0, x1, x2, x3, x4, hs, -⟩ := planBox_cells (T := 42) (p := p) (ve := ve) (w := w) d6
  obtain ⟨y0, y1, y2, y3, y4, ys, -⟩ := planBox_cells (T := 47) (p := p) (ve := (.slice A1 p.edges.length e1)) (w := w5) f6
  go_wp2_with fail
  clear x0 x1 x2 x3 x4 hs y0 y1 y2 y3 y4 ys
  refine (implWeightsOk_any p _ ui1 l _ hm hm2 (Rd.of_own op1) (Rd.of_own oi1)).mono ?_
  rintro e w7 ⟨rfl, c7⟩
  have b7 := bnext b6 c7
  have d7 := bnext d6 c7
  have f7 := bnext f6 c7
  have op0 := op0.below c7
  have oi0 := oi0.below c7
  have op1 := op1.below c7
  have oi1 := oi1.below c7
  obtain ⟨x0, x1, x2, x3, x4, hs, -⟩ := planBox_cells (T := 42) (p := p) (ve := ve) (w := w) d7
  obtain ⟨y0, y1, y2, y3, y4, ys, -⟩ := planBox_cells (T := 47) (p := p) (ve := (.slice A1 p.edges.length e1)) (w := w5) f7
  go_wp2_with fail
  go_region_held3 (fun w' => Hid (Below w7.heap.size w7 w') ∧ w'.cell? ⟨w.heap.size, 0, none⟩ = some (.int .i64 p.prio) ∧ w'.cell? ⟨w.heap.size, 1, none⟩ = some (.int .i64 p.most) ∧ w'.cell? ⟨w.heap.size, 2, none⟩ = some (.int .i64 p.wait) ∧ w'.cell? ⟨w.heap.size, 3, none⟩ = some (.int .i64 p.tasks) ∧ w'.cell? ⟨w.heap.size, 4, none⟩ = some ve ∧ w'.cell? ⟨w5.heap.size, 0, none⟩ = some (.int .i64 p.prio) ∧ w'.cell? ⟨w5.heap.size, 1, none⟩ = some (.int .i64 p.most) ∧ w'.cell? ⟨w5.heap.size, 2, none⟩ = some (.int .i64 p.wait) ∧ w'.cell? ⟨w5.heap.size, 3, none⟩ = some (.int .i64 p.tasks) ∧ w'.cell? ⟨w5.heap.size, 4, none⟩ = some (.slice A1 p.edges.length e1))
    (first | (refine ⟨?_, ?_, ?_, ?_, ?_, ?_, ?_, ?_, ?_, ?_, ?_⟩ <;> first | (exact Lib.hid ((Below.refl _ _).drew)) | assumption | go_keep) | go_keep)
    (first
      | (go_at_call 45; refine (toPlan_any p ve _ hm ((h.below b7.drew).more b7.drew.size)).mono ?_; rintro e w8 ⟨up2, rfl, op2, c8⟩; have b8 := bnext b7.drew c8; have g8 := Lib.hid (bnext ((Below.refl w7.heap.size w7).drew) c8); have d8 := bnext d7.drew c8; have f8 := bnext f7.drew c8; have op1 := op1.below (bnext ((Below.refl w7.heap.size w7).drew) c8); have oi1 := oi1.below (bnext ((Below.refl w7.heap.size w7).drew) c8); obtain ⟨X0, X1, X2, X3, X4, Xs, -⟩ := planBox_cells (T := 42) (p := p) (ve := ve) (w := w) d8; obtain ⟨Y0, Y1, Y2, Y3, Y4, Ys, -⟩ := planBox_cells (T := 47) (p := p) (ve := (.slice A1 p.edges.length e1)) (w := w5) f8)
      | (go_at_call 47; refine (eqPlan_any p p _ up2 _ hm hm (Rd.of_own op1) (Rd.of_own op2)).mono ?_; rintro e w9 ⟨rfl, c9⟩; have b9 := bnext b8 c9; have g9 := Lib.hid (bnext g8.out c9); have d9 := bnext d8 c9; have f9 := bnext f8 c9; have oi1 := oi1.below c9; obtain ⟨X0, X1, X2, X3, X4, Xs, -⟩ := planBox_cells (T := 42) (p := p) (ve := ve) (w := w) d9; obtain ⟨Y0, Y1, Y2, Y3, Y4, Ys, -⟩ := planBox_cells (T := 47) (p := p) (ve := (.slice A1 p.edges.length e1)) (w := w5) f9))
  clear x0 x1 x2 x3 x4 hs y0 y1 y2 y3 y4 ys
  clear X0 X1 X2 X3 X4 Xs Y0 Y1 Y2 Y3 Y4 Ys
  obtain ⟨x0, x1, x2, x3, x4, hs, -⟩ := planBox_cells (T := 42) (p := p) (ve := ve) (w := w) d9
  obtain ⟨y0, y1, y2, y3, y4, ys, -⟩ := planBox_cells (T := 47) (p := p) (ve := (.slice A1 p.edges.length e1)) (w := w5) f9
  go_wp2_with fail
  clear x0 x1 x2 x3 x4 hs y0 y1 y2 y3 y4 ys
  refine (toIntS_any (.slice A l.length c) l _ hm2 ((h2.below b9).more b9.size)).mono ?_
  rintro e w10 ⟨ui2, rfl, oi2, c10⟩
  have b10 := bnext b9 c10
  have d10 := bnext d9 c10
  have f10 := bnext f9 c10
  have oi1 := oi1.below c10
  obtain ⟨x0, x1, x2, x3, x4, hs, -⟩ := planBox_cells (T := 42) (p := p) (ve := ve) (w := w) d10
  obtain ⟨y0, y1, y2, y3, y4, ys, -⟩ := planBox_cells (T := 47) (p := p) (ve := (.slice A1 p.edges.length e1)) (w := w5) f10
  go_wp2_with fail
  clear x0 x1 x2 x3 x4 hs y0 y1 y2 y3 y4 ys
  refine (eqIntS_any ui1 ui2 l l _ hm2 hm2 (Rd.of_own oi1) (Rd.of_own oi2)).mono ?_
  rintro e w11 ⟨rfl, c11⟩
  have b11 := bnext b10 c11
  have d11 := bnext d10 c11
  have f11 := bnext f10 c11
  have oi1 := oi1.below c11
  have oi2 := oi2.below c11
  go_wp2_with fail
  go_ret
  exact ⟨rfl, b11⟩
end Go.Proofs.Ytoccmpijfggmkaa
