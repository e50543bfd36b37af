/-
  The law FnJoins: its walk, out of the contracts of what it calls. Written by program (lawjoins.py).
-/
import Derived.Test.YtnaicippgocdfaaZJ7
import Derived.Deep.DeepCutAuto
section
namespace Go.Proofs.Ytnaicippgocdfaa
open Go.RowKit
set_option maxRecDepth 100000
set_option maxHeartbeats 8000000
set_option linter.unusedVariables false

theorem PB.two {p q : Plan} {v v' : Value} {w : World} (h : Rd edgeE w w.heap.size v p.edges) (h' : Rd edgeE w w.heap.size v' q.edges) :
    PB w.heap.size p v (twoBox 26 p v q v' w) ∧ PB (w.heap.size + 1) q v' (twoBox 26 p v q v' w) ∧ Below w.heap.size w (twoBox 26 p v q v' w) := by
  obtain ⟨D, E, hb⟩ := twoBox_at 26 p v q v' w
  exact ⟨⟨D, h.on hb⟩, ⟨E, h'.on hb⟩, hb⟩
theorem PB.one {p : Plan} {v : Value} {w : World} (h : Rd edgeE w w.heap.size v p.edges) : PB w.heap.size p v (w.alloc (.cells #[.int .i64 p.prio, .int .i64 p.most, .int .i64 p.wait, .int .i64 p.tasks, v] 26)) :=
  ⟨BoxAt.new' 26 p v w rfl, h.on ((Below.refl _ _).alloc (Nat.le_refl _) _)⟩

theorem lawJoins_walk (v : Value) (code : List UInt8) (w : World) (hm : code.length ≤ 9223372036854775807) (h : Rd byteE w w.heap.size v code) :
    Calls Try.prog 4 #[v] w fun e w' => e = .returned (.bool true) ∧ Below w.heap.size w w' := by
  by_cases hbig : (1048576 : Int) < (code.length : Int)
  · go_enter Try.func4, Try.ntmps4
    go_wp2_with fail
    refine (big_any v code w hm h).mono ?_
    rintro e w1 ⟨rfl, rfl⟩
    go_wp2
    go_ret
    exact ⟨rfl, Below.refl _ _⟩
  have hs : code.length ≤ 1048576 := by omega
  have hbg : decide ((1048576 : Int) < (code.length : Int)) = false := by simpa using hbig
  go_enter Try.func4, Try.ntmps4
  go_wp2_with fail
  refine (big_any v code w hm h).mono ?_
  rintro e w0 ⟨rfl, rfl⟩
  rw [hbg]
  clear hbg hbig
  go_wp2_with fail
  have hp := curPlan_ok code (curNew code)
  have hq := curPlan_ok code (curPlan code (curNew code)).2
  refine (drawPlans_any v code w hs h).mono ?_
  rintro e w1 ⟨u1, u2, rfl, o1, q1, b1⟩
  have hD : ∀ (W : World), Rd byteE W W.heap.size v code → Calls Try.prog 17 #[v] W (TwoPlans (curPlan code (curNew code)) (curPlan code (curPlan code (curNew code)).2) W) := fun W hW => drawPlans_any v code W hs hW
  unfold TwoPlans at hD
  have h1 := h.on b1
  generalize curPlan code (curNew code) = P1 at *
  generalize (curPlan code P1.2) = P2 at *
  generalize P1.1 = p at *
  generalize P2.1 = q at *
  have HD := Lib.hid hD
  clear hD h
  have HP := Lib.hid hp
  have HQ := Lib.hid hq
  have hT := manyOk_tasks (planFault_zero.1 hp).1
  have hE := manyOk_edges (planFault_zero.1 hp).1
  have hU := manyOk_tasks (planFault_zero.1 hq).1
  have hF := manyOk_edges (planFault_zero.1 hq).1
  clear hp hq
  obtain ⟨A1, c1, rfl, -⟩ := id (Rd.of_own o1)
  obtain ⟨A2, c2, rfl, -⟩ := id (Rd.of_own q1)
  obtain ⟨P, Q, bt⟩ := PB.two (Rd.of_own o1) (Rd.of_own q1)
  have h2 := h1.on bt
  replace b1 := bnext b1 bt
  unfold twoBox planBox at P Q bt h2 b1
  clear h1 o1 q1 bt
  go_wp2_with fail
  refine (HD.out _ h2).mono ?_
  rintro e w2 ⟨u3, u4, rfl, o2, q2, b2⟩
  obtain ⟨A3, c3, rfl, -⟩ := id (Rd.of_own o2)
  obtain ⟨A4, c4, rfl, -⟩ := id (Rd.of_own q2)
  replace P := P.on b2
  replace Q := Q.on b2
  obtain ⟨A, B, bt⟩ := PB.two (Rd.of_own o2) (Rd.of_own q2)
  replace P := P.on bt
  replace Q := Q.on bt
  have B0 := bnext (bnext b1 b2) bt
  unfold twoBox planBox at P Q A B bt B0
  clear h2 o2 q2 bt b1 b2 HD
  have hE2 : p.edges.length ≤ 2000000 := by omega
  have hF2 : q.edges.length ≤ 2000000 := by omega
  obtain ⟨p0, p1, p2, p3, p4, ps⟩ := P.box.cells
  go_wp2_with fail
  clear p0 p1 p2 p3 p4 ps
  generalize hpb : w1.heap.size = pb at *
  generalize hab : w2.heap.size = ab at *
  clear hpb hab
  generalize ((w2.alloc (.cells #[.int .i64 p.prio, .int .i64 p.most, .int .i64 p.wait, .int .i64 p.tasks, .slice A3 p.edges.length c3] 26)).alloc (.cells #[.int .i64 q.prio, .int .i64 q.most, .int .i64 q.wait, .int .i64 q.tasks, .slice A4 q.edges.length c4] 26)) = w3 at *
  refine (implReversed_any p _ _ hE2 P.rd).mono ?_
  rintro e w4 ⟨u5, rfl, oR, b4⟩
  replace P := P.on b4
  replace Q := Q.on b4
  replace A := A.on b4
  replace B := B.on b4
  replace B0 := bnext B0 b4
  have R0 := Rd.of_own oR
  obtain ⟨A5, c5, rfl, -⟩ := id R0
  have R := PB.one R0
  have a4 := (Below.refl w4.heap.size w4).alloc (Nat.le_refl _) (.cells #[.int .i64 (reversed p).prio, .int .i64 (reversed p).most, .int .i64 (reversed p).wait, .int .i64 (reversed p).tasks, .slice A5 (reversed p).edges.length c5] 26)
  replace P := P.on a4
  replace Q := Q.on a4
  replace A := A.on a4
  replace B := B.on a4
  replace B0 := bnext B0 a4
  obtain ⟨p0, p1, p2, p3, p4, ps⟩ := P.box.cells
  clear oR R0 b4
  go_wp2_with fail
  clear p0 p1 p2 p3 p4 ps a4
  generalize hrb : w4.heap.size = rb at *
  clear hrb
  generalize (w4.alloc (.cells #[.int .i64 (reversed p).prio, .int .i64 (reversed p).most, .int .i64 (reversed p).wait, .int .i64 (reversed p).tasks, .slice A5 (reversed p).edges.length c5] 26)) = w5 at *
  refine (implReduced_any p _ _ hE2 P.rd).mono ?_
  rintro e w6 ⟨u6, rfl, oS, b6⟩
  replace P := P.on b6
  replace Q := Q.on b6
  replace A := A.on b6
  replace B := B.on b6
  replace R := R.on b6
  replace B0 := bnext B0 b6
  have S0 := Rd.of_own oS
  obtain ⟨A6, c6, rfl, -⟩ := id S0
  have S := PB.one S0
  have a6 := (Below.refl w6.heap.size w6).alloc (Nat.le_refl _) (.cells #[.int .i64 (reduced p).prio, .int .i64 (reduced p).most, .int .i64 (reduced p).wait, .int .i64 (reduced p).tasks, .slice A6 (reduced p).edges.length c6] 26)
  replace P := P.on a6
  replace Q := Q.on a6
  replace A := A.on a6
  replace B := B.on a6
  replace R := R.on a6
  replace B0 := bnext B0 a6
  clear oS S0 b6
  go_wp2_with fail
  clear a6
  generalize hsb : w6.heap.size = sb at *
  clear hsb
  generalize (w6.alloc (.cells #[.int .i64 (reduced p).prio, .int .i64 (reduced p).most, .int .i64 (reduced p).wait, .int .i64 (reduced p).tasks, .slice A6 (reduced p).edges.length c6] 26)) = w7 at *
  have hRl : (reversed p).edges.length ≤ 2000000 := by rw [reversed_len]; exact hE2
  have hSl : (reduced p).edges.length ≤ 2000000 := Nat.le_trans (reduced_len p) hE2
  have e1 := Lib.hid (show sourcesI (reversed p) = sinksI p by unfold sourcesI sinksI; rw [rev_sources HP.out])
  have e2 := Lib.hid (show sinksI (reversed p) = sourcesI p by unfold sourcesI sinksI; rw [rev_sinks HP.out])
  have e3 := Lib.hid (rev_rev HP.out)
  have e4 := Lib.hid (red_same HP.out)
  have e5 := Lib.hid (red_red HP.out)
  have e6 := reduced_len p
  have z1 := sinksI_len p
  have z2 := sourcesI_len p
  have t6 : decide ((p.edges.length : Int) < ((reduced p).edges.length : Int)) = false := by simp; omega
  have t6n : ¬ p.edges.length < (reduced p).edges.length := by omega
  have t6d : decide (p.edges.length < (reduced p).edges.length) = false := by simp; omega
  obtain ⟨gA0, gA1, gA2, gA3, gA4, gAs⟩ := A.box.cells
  obtain ⟨gP0, gP1, gP2, gP3, gP4, gPs⟩ := P.box.cells
  obtain ⟨gR0, gR1, gR2, gR3, gR4, gRs⟩ := R.box.cells
  obtain ⟨gS0, gS1, gS2, gS3, gS4, gSs⟩ := S.box.cells
  go_region_held3 (fun w' => w'.cell? ⟨ab, 0, none⟩ = some (.int .i64 p.prio) ∧ w'.cell? ⟨ab, 1, none⟩ = some (.int .i64 p.most) ∧ w'.cell? ⟨ab, 2, none⟩ = some (.int .i64 p.wait) ∧ w'.cell? ⟨ab, 3, none⟩ = some (.int .i64 p.tasks) ∧ w'.cell? ⟨ab, 4, none⟩ = some (.slice A3 p.edges.length c3) ∧ w'.cell? ⟨pb, 0, none⟩ = some (.int .i64 p.prio) ∧ w'.cell? ⟨pb, 1, none⟩ = some (.int .i64 p.most) ∧ w'.cell? ⟨pb, 2, none⟩ = some (.int .i64 p.wait) ∧ w'.cell? ⟨pb, 3, none⟩ = some (.int .i64 p.tasks) ∧ w'.cell? ⟨pb, 4, none⟩ = some (.slice A1 p.edges.length c1) ∧ w'.cell? ⟨rb, 0, none⟩ = some (.int .i64 (reversed p).prio) ∧ w'.cell? ⟨rb, 1, none⟩ = some (.int .i64 (reversed p).most) ∧ w'.cell? ⟨rb, 2, none⟩ = some (.int .i64 (reversed p).wait) ∧ w'.cell? ⟨rb, 3, none⟩ = some (.int .i64 (reversed p).tasks) ∧ w'.cell? ⟨rb, 4, none⟩ = some (.slice A5 (reversed p).edges.length c5) ∧ w'.cell? ⟨sb, 0, none⟩ = some (.int .i64 (reduced p).prio) ∧ w'.cell? ⟨sb, 1, none⟩ = some (.int .i64 (reduced p).most) ∧ w'.cell? ⟨sb, 2, none⟩ = some (.int .i64 (reduced p).wait) ∧ w'.cell? ⟨sb, 3, none⟩ = some (.int .i64 (reduced p).tasks) ∧ w'.cell? ⟨sb, 4, none⟩ = some (.slice A6 (reduced p).edges.length c6))
    (first | (refine ⟨?_, ?_, ?_, ?_, ?_, ?_, ?_, ?_, ?_, ?_, ?_, ?_, ?_, ?_, ?_, ?_, ?_, ?_, ?_, ?_⟩ <;> first | assumption | go_keep) | go_keep)
    (first
      | (go_at_call 21; (with_reducible refine (implSourcesI_any (reversed p) _ _ hRl (R.rd.on (Below.refl _ _).drew)).mono ?_); rintro e gw0 ⟨v1, rfl, x1, gc0⟩; have gc0 := bnext (Below.refl _ _).drew gc0; replace P := P.on gc0; replace Q := Q.on gc0; replace A := A.on gc0; replace B := B.on gc0; replace R := R.on gc0; replace S := S.on gc0; replace B0 := bnext B0 gc0; have y1 := Rd.of_own x1; obtain ⟨gA0_0, gA0_1, gA0_2, gA0_3, gA0_4, gA0_s⟩ := A.box.cells; obtain ⟨gP0_0, gP0_1, gP0_2, gP0_3, gP0_4, gP0_s⟩ := P.box.cells; obtain ⟨gR0_0, gR0_1, gR0_2, gR0_3, gR0_4, gR0_s⟩ := R.box.cells; obtain ⟨gS0_0, gS0_1, gS0_2, gS0_3, gS0_4, gS0_s⟩ := S.box.cells)
      | (go_at_call 22; (with_reducible refine (specSinksI_any p _ _ hE2 A.rd).mono ?_); rintro e gw1 ⟨v2, rfl, x2, gc1⟩; replace P := P.on gc1; replace Q := Q.on gc1; replace A := A.on gc1; replace B := B.on gc1; replace R := R.on gc1; replace S := S.on gc1; replace y1 := y1.on gc1; replace B0 := bnext B0 gc1; have y2 := Rd.of_own x2; rw [e1.out] at y1; obtain ⟨gA1_0, gA1_1, gA1_2, gA1_3, gA1_4, gA1_s⟩ := A.box.cells; obtain ⟨gP1_0, gP1_1, gP1_2, gP1_3, gP1_4, gP1_s⟩ := P.box.cells; obtain ⟨gR1_0, gR1_1, gR1_2, gR1_3, gR1_4, gR1_s⟩ := R.box.cells; obtain ⟨gS1_0, gS1_1, gS1_2, gS1_3, gS1_4, gS1_s⟩ := S.box.cells)
      | (go_at_call 20; (with_reducible refine (sameInts_same v1 v2 _ _ z1 y1 y2).mono ?_); rintro e gw2 ⟨rfl, gc2⟩; replace P := P.on gc2; replace Q := Q.on gc2; replace A := A.on gc2; replace B := B.on gc2; replace R := R.on gc2; replace S := S.on gc2; replace B0 := bnext B0 gc2; clear y1 y2; obtain ⟨gA2_0, gA2_1, gA2_2, gA2_3, gA2_4, gA2_s⟩ := A.box.cells; obtain ⟨gP2_0, gP2_1, gP2_2, gP2_3, gP2_4, gP2_s⟩ := P.box.cells; obtain ⟨gR2_0, gR2_1, gR2_2, gR2_3, gR2_4, gR2_s⟩ := R.box.cells; obtain ⟨gS2_0, gS2_1, gS2_2, gS2_3, gS2_4, gS2_s⟩ := S.box.cells)
      | (go_at_call 23; (with_reducible refine (implSinksI_any (reversed p) _ _ hRl R.rd).mono ?_); rintro e gw3 ⟨v3, rfl, x3, gc3⟩; replace P := P.on gc3; replace Q := Q.on gc3; replace A := A.on gc3; replace B := B.on gc3; replace R := R.on gc3; replace S := S.on gc3; replace B0 := bnext B0 gc3; have y3 := Rd.of_own x3; obtain ⟨gA3_0, gA3_1, gA3_2, gA3_3, gA3_4, gA3_s⟩ := A.box.cells; obtain ⟨gP3_0, gP3_1, gP3_2, gP3_3, gP3_4, gP3_s⟩ := P.box.cells; obtain ⟨gR3_0, gR3_1, gR3_2, gR3_3, gR3_4, gR3_s⟩ := R.box.cells; obtain ⟨gS3_0, gS3_1, gS3_2, gS3_3, gS3_4, gS3_s⟩ := S.box.cells)
      | (go_at_call 24; (with_reducible refine (specSourcesI_any p _ _ hE2 A.rd).mono ?_); rintro e gw4 ⟨v4, rfl, x4, gc4⟩; replace P := P.on gc4; replace Q := Q.on gc4; replace A := A.on gc4; replace B := B.on gc4; replace R := R.on gc4; replace S := S.on gc4; replace y3 := y3.on gc4; replace B0 := bnext B0 gc4; have y4 := Rd.of_own x4; rw [e2.out] at y3; obtain ⟨gA4_0, gA4_1, gA4_2, gA4_3, gA4_4, gA4_s⟩ := A.box.cells; obtain ⟨gP4_0, gP4_1, gP4_2, gP4_3, gP4_4, gP4_s⟩ := P.box.cells; obtain ⟨gR4_0, gR4_1, gR4_2, gR4_3, gR4_4, gR4_s⟩ := R.box.cells; obtain ⟨gS4_0, gS4_1, gS4_2, gS4_3, gS4_4, gS4_s⟩ := S.box.cells)
      | (go_at_call 20; (with_reducible refine (sameInts_same v3 v4 _ _ z2 y3 y4).mono ?_); rintro e gw5 ⟨rfl, gc5⟩; replace P := P.on gc5; replace Q := Q.on gc5; replace A := A.on gc5; replace B := B.on gc5; replace R := R.on gc5; replace S := S.on gc5; replace B0 := bnext B0 gc5; clear y3 y4; obtain ⟨gA5_0, gA5_1, gA5_2, gA5_3, gA5_4, gA5_s⟩ := A.box.cells; obtain ⟨gP5_0, gP5_1, gP5_2, gP5_3, gP5_4, gP5_s⟩ := P.box.cells; obtain ⟨gR5_0, gR5_1, gR5_2, gR5_3, gR5_4, gR5_s⟩ := R.box.cells; obtain ⟨gS5_0, gS5_1, gS5_2, gS5_3, gS5_4, gS5_s⟩ := S.box.cells)
      | (go_at_call 18; (with_reducible refine (implReversed_any (reversed p) _ _ hRl R.rd).mono ?_); rintro e gw6 ⟨v5, rfl, x5, gc6⟩; replace P := P.on gc6; replace Q := Q.on gc6; replace A := A.on gc6; replace B := B.on gc6; replace R := R.on gc6; replace S := S.on gc6; replace B0 := bnext B0 gc6; have y5 := Rd.of_own x5; rw [e3.out] at y5; rw [e3.out]; obtain ⟨gA6_0, gA6_1, gA6_2, gA6_3, gA6_4, gA6_s⟩ := A.box.cells; obtain ⟨gP6_0, gP6_1, gP6_2, gP6_3, gP6_4, gP6_s⟩ := P.box.cells; obtain ⟨gR6_0, gR6_1, gR6_2, gR6_3, gR6_4, gR6_s⟩ := R.box.cells; obtain ⟨gS6_0, gS6_1, gS6_2, gS6_3, gS6_4, gS6_s⟩ := S.box.cells)
      | (go_at_call 25; (with_reducible refine (samePlan_same p v5 _ _ hE2 y5 A.rd).mono ?_); rintro e gw7 ⟨rfl, gc7⟩; replace P := P.on gc7; replace Q := Q.on gc7; replace A := A.on gc7; replace B := B.on gc7; replace R := R.on gc7; replace S := S.on gc7; replace B0 := bnext B0 gc7; clear y5; obtain ⟨gA7_0, gA7_1, gA7_2, gA7_3, gA7_4, gA7_s⟩ := A.box.cells; obtain ⟨gP7_0, gP7_1, gP7_2, gP7_3, gP7_4, gP7_s⟩ := P.box.cells; obtain ⟨gR7_0, gR7_1, gR7_2, gR7_3, gR7_4, gR7_s⟩ := R.box.cells; obtain ⟨gS7_0, gS7_1, gS7_2, gS7_3, gS7_4, gS7_s⟩ := S.box.cells)
      | (go_at_call 26; (with_reducible refine (implSameOrder_any p _ (reduced p) _ _ hE2 hSl P.rd S.rd).mono ?_); rintro e gw8 ⟨rfl, gc8⟩; replace P := P.on gc8; replace Q := Q.on gc8; replace A := A.on gc8; replace B := B.on gc8; replace R := R.on gc8; replace S := S.on gc8; replace B0 := bnext B0 gc8; rw [e4.out]; obtain ⟨gA8_0, gA8_1, gA8_2, gA8_3, gA8_4, gA8_s⟩ := A.box.cells; obtain ⟨gP8_0, gP8_1, gP8_2, gP8_3, gP8_4, gP8_s⟩ := P.box.cells; obtain ⟨gR8_0, gR8_1, gR8_2, gR8_3, gR8_4, gR8_s⟩ := R.box.cells; obtain ⟨gS8_0, gS8_1, gS8_2, gS8_3, gS8_4, gS8_s⟩ := S.box.cells)
      | (go_at_call 19; (with_reducible refine (implReduced_any (reduced p) _ _ hSl S.rd).mono ?_); rintro e gw9 ⟨v6, rfl, x6, gc9⟩; replace P := P.on gc9; replace Q := Q.on gc9; replace A := A.on gc9; replace B := B.on gc9; replace R := R.on gc9; replace S := S.on gc9; replace B0 := bnext B0 gc9; have y6 := Rd.of_own x6; rw [e5.out] at y6; rw [e5.out]; obtain ⟨gA9_0, gA9_1, gA9_2, gA9_3, gA9_4, gA9_s⟩ := A.box.cells; obtain ⟨gP9_0, gP9_1, gP9_2, gP9_3, gP9_4, gP9_s⟩ := P.box.cells; obtain ⟨gR9_0, gR9_1, gR9_2, gR9_3, gR9_4, gR9_s⟩ := R.box.cells; obtain ⟨gS9_0, gS9_1, gS9_2, gS9_3, gS9_4, gS9_s⟩ := S.box.cells)
      | (go_at_call 25; (with_reducible refine (samePlan_same (reduced p) v6 _ _ hSl y6 S.rd).mono ?_); rintro e gw10 ⟨rfl, gc10⟩; replace P := P.on gc10; replace Q := Q.on gc10; replace A := A.on gc10; replace B := B.on gc10; replace R := R.on gc10; replace S := S.on gc10; replace B0 := bnext B0 gc10; clear y6; obtain ⟨gA10_0, gA10_1, gA10_2, gA10_3, gA10_4, gA10_s⟩ := A.box.cells; obtain ⟨gP10_0, gP10_1, gP10_2, gP10_3, gP10_4, gP10_s⟩ := P.box.cells; obtain ⟨gR10_0, gR10_1, gR10_2, gR10_3, gR10_4, gR10_s⟩ := R.box.cells; obtain ⟨gS10_0, gS10_1, gS10_2, gS10_3, gS10_4, gS10_s⟩ := S.box.cells)
      | (go_at_call 27; (with_reducible refine (specReduced_any p _ _ hE2 A.rd).mono ?_); rintro e gw11 ⟨v7, rfl, x7, gc11⟩; replace P := P.on gc11; replace Q := Q.on gc11; replace A := A.on gc11; replace B := B.on gc11; replace R := R.on gc11; replace S := S.on gc11; replace B0 := bnext B0 gc11; have y7 := Rd.of_own x7; obtain ⟨gA11_0, gA11_1, gA11_2, gA11_3, gA11_4, gA11_s⟩ := A.box.cells; obtain ⟨gP11_0, gP11_1, gP11_2, gP11_3, gP11_4, gP11_s⟩ := P.box.cells; obtain ⟨gR11_0, gR11_1, gR11_2, gR11_3, gR11_4, gR11_s⟩ := R.box.cells; obtain ⟨gS11_0, gS11_1, gS11_2, gS11_3, gS11_4, gS11_s⟩ := S.box.cells)
      | (go_at_call 25; (with_reducible refine (samePlan_same (reduced p) _ v7 _ hSl S.rd y7).mono ?_); rintro e gw12 ⟨rfl, gc12⟩; replace P := P.on gc12; replace Q := Q.on gc12; replace A := A.on gc12; replace B := B.on gc12; replace R := R.on gc12; replace S := S.on gc12; replace B0 := bnext B0 gc12; clear y7; obtain ⟨gA12_0, gA12_1, gA12_2, gA12_3, gA12_4, gA12_s⟩ := A.box.cells; obtain ⟨gP12_0, gP12_1, gP12_2, gP12_3, gP12_4, gP12_s⟩ := P.box.cells; obtain ⟨gR12_0, gR12_1, gR12_2, gR12_3, gR12_4, gR12_s⟩ := R.box.cells; obtain ⟨gS12_0, gS12_1, gS12_2, gS12_3, gS12_4, gS12_s⟩ := S.box.cells))
  clear gA0 gA1 gA2 gA3 gA4 gAs gA0_0 gA0_1 gA0_2 gA0_3 gA0_4 gA0_s gA1_0 gA1_1 gA1_2 gA1_3 gA1_4 gA1_s gA2_0 gA2_1 gA2_2 gA2_3 gA2_4 gA2_s gA3_0 gA3_1 gA3_2 gA3_3 gA3_4 gA3_s gA4_0 gA4_1 gA4_2 gA4_3 gA4_4 gA4_s gA5_0 gA5_1 gA5_2 gA5_3 gA5_4 gA5_s gA6_0 gA6_1 gA6_2 gA6_3 gA6_4 gA6_s gA7_0 gA7_1 gA7_2 gA7_3 gA7_4 gA7_s gA8_0 gA8_1 gA8_2 gA8_3 gA8_4 gA8_s gA9_0 gA9_1 gA9_2 gA9_3 gA9_4 gA9_s gA10_0 gA10_1 gA10_2 gA10_3 gA10_4 gA10_s gA11_0 gA11_1 gA11_2 gA11_3 gA11_4 gA11_s gA12_0 gA12_1 gA12_2 gA12_3 gA12_4 gA12_s
  clear gP0 gP1 gP2 gP3 gP4 gPs gP0_0 gP0_1 gP0_2 gP0_3 gP0_4 gP0_s gP1_0 gP1_1 gP1_2 gP1_3 gP1_4 gP1_s gP2_0 gP2_1 gP2_2 gP2_3 gP2_4 gP2_s gP3_0 gP3_1 gP3_2 gP3_3 gP3_4 gP3_s gP4_0 gP4_1 gP4_2 gP4_3 gP4_4 gP4_s gP5_0 gP5_1 gP5_2 gP5_3 gP5_4 gP5_s gP6_0 gP6_1 gP6_2 gP6_3 gP6_4 gP6_s gP7_0 gP7_1 gP7_2 gP7_3 gP7_4 gP7_s gP8_0 gP8_1 gP8_2 gP8_3 gP8_4 gP8_s gP9_0 gP9_1 gP9_2 gP9_3 gP9_4 gP9_s gP10_0 gP10_1 gP10_2 gP10_3 gP10_4 gP10_s gP11_0 gP11_1 gP11_2 gP11_3 gP11_4 gP11_s gP12_0 gP12_1 gP12_2 gP12_3 gP12_4 gP12_s
  clear gR0 gR1 gR2 gR3 gR4 gRs gR0_0 gR0_1 gR0_2 gR0_3 gR0_4 gR0_s gR1_0 gR1_1 gR1_2 gR1_3 gR1_4 gR1_s gR2_0 gR2_1 gR2_2 gR2_3 gR2_4 gR2_s gR3_0 gR3_1 gR3_2 gR3_3 gR3_4 gR3_s gR4_0 gR4_1 gR4_2 gR4_3 gR4_4 gR4_s gR5_0 gR5_1 gR5_2 gR5_3 gR5_4 gR5_s gR6_0 gR6_1 gR6_2 gR6_3 gR6_4 gR6_s gR7_0 gR7_1 gR7_2 gR7_3 gR7_4 gR7_s gR8_0 gR8_1 gR8_2 gR8_3 gR8_4 gR8_s gR9_0 gR9_1 gR9_2 gR9_3 gR9_4 gR9_s gR10_0 gR10_1 gR10_2 gR10_3 gR10_4 gR10_s gR11_0 gR11_1 gR11_2 gR11_3 gR11_4 gR11_s gR12_0 gR12_1 gR12_2 gR12_3 gR12_4 gR12_s
  clear gS0 gS1 gS2 gS3 gS4 gSs gS0_0 gS0_1 gS0_2 gS0_3 gS0_4 gS0_s gS1_0 gS1_1 gS1_2 gS1_3 gS1_4 gS1_s gS2_0 gS2_1 gS2_2 gS2_3 gS2_4 gS2_s gS3_0 gS3_1 gS3_2 gS3_3 gS3_4 gS3_s gS4_0 gS4_1 gS4_2 gS4_3 gS4_4 gS4_s gS5_0 gS5_1 gS5_2 gS5_3 gS5_4 gS5_s gS6_0 gS6_1 gS6_2 gS6_3 gS6_4 gS6_s gS7_0 gS7_1 gS7_2 gS7_3 gS7_4 gS7_s gS8_0 gS8_1 gS8_2 gS8_3 gS8_4 gS8_s gS9_0 gS9_1 gS9_2 gS9_3 gS9_4 gS9_s gS10_0 gS10_1 gS10_2 gS10_3 gS10_4 gS10_s gS11_0 gS11_1 gS11_2 gS11_3 gS11_4 gS11_s gS12_0 gS12_1 gS12_2 gS12_3 gS12_4 gS12_s
  clear gc0 gc1 gc2 gc3 gc4 gc5 gc6 gc7 gc8 gc9 gc10 gc11 gc12
  have okp := Lib.hid (ones_ok HP.out)
  have okq := Lib.hid (ones_ok HQ.out)
  have n1 : (onesL p).length ≤ 2000000 := by unfold onesL; rw [List.length_replicate]; omega
  have n2 : (onesL q).length ≤ 2000000 := by unfold onesL; rw [List.length_replicate]; omega
  go_wp2_with fail
  obtain ⟨hA0, hA1, hA2, hA3, hA4, hAs⟩ := A.box.cells
  go_region_held3 (fun w' => w'.cell? ⟨ab, 0, none⟩ = some (.int .i64 p.prio) ∧ w'.cell? ⟨ab, 1, none⟩ = some (.int .i64 p.most) ∧ w'.cell? ⟨ab, 2, none⟩ = some (.int .i64 p.wait) ∧ w'.cell? ⟨ab, 3, none⟩ = some (.int .i64 p.tasks) ∧ w'.cell? ⟨ab, 4, none⟩ = some (.slice A3 p.edges.length c3))
    (first | (refine ⟨?_, ?_, ?_, ?_, ?_⟩ <;> first | assumption | go_keep) | go_keep)
    (first
      | (go_at_call 28; (with_reducible refine (ones_any p _ _ hT).mono ?_); rintro e hw0 ⟨v8, rfl, x8, hc0⟩; have hc0 := bnext (Below.refl _ _).drew hc0; replace P := P.on hc0; replace Q := Q.on hc0; replace A := A.on hc0; replace B := B.on hc0; replace R := R.on hc0; replace S := S.on hc0; replace B0 := bnext B0 hc0; have y8 := Rd.of_own x8; obtain ⟨hA0_0, hA0_1, hA0_2, hA0_3, hA0_4, hA0_s⟩ := A.box.cells)
      | (go_at_call 13; (with_reducible refine (specLongest_any p _ _ _ _ hE2 n1 A.rd y8).mono ?_); rintro e hw1 ⟨rfl, hc1⟩; replace P := P.on hc1; replace Q := Q.on hc1; replace A := A.on hc1; replace B := B.on hc1; replace R := R.on hc1; replace S := S.on hc1; replace B0 := bnext B0 hc1; clear y8; obtain ⟨hA1_0, hA1_1, hA1_2, hA1_3, hA1_4, hA1_s⟩ := A.box.cells))
  clear hA0 hA1 hA2 hA3 hA4 hAs hA0_0 hA0_1 hA0_2 hA0_3 hA0_4 hA0_s hA1_0 hA1_1 hA1_2 hA1_3 hA1_4 hA1_s
  clear hc0 hc1
  go_wp2_with fail
  obtain ⟨iB0, iB1, iB2, iB3, iB4, iBs⟩ := B.box.cells
  go_region_held3 (fun w' => w'.cell? ⟨(ab + 1), 0, none⟩ = some (.int .i64 q.prio) ∧ w'.cell? ⟨(ab + 1), 1, none⟩ = some (.int .i64 q.most) ∧ w'.cell? ⟨(ab + 1), 2, none⟩ = some (.int .i64 q.wait) ∧ w'.cell? ⟨(ab + 1), 3, none⟩ = some (.int .i64 q.tasks) ∧ w'.cell? ⟨(ab + 1), 4, none⟩ = some (.slice A4 q.edges.length c4))
    (first | (refine ⟨?_, ?_, ?_, ?_, ?_⟩ <;> first | assumption | go_keep) | go_keep)
    (first
      | (go_at_call 28; (with_reducible refine (ones_any q _ _ hU).mono ?_); rintro e iw0 ⟨v9, rfl, x9, ic0⟩; have ic0 := bnext (Below.refl _ _).drew ic0; replace P := P.on ic0; replace Q := Q.on ic0; replace A := A.on ic0; replace B := B.on ic0; replace R := R.on ic0; replace S := S.on ic0; replace B0 := bnext B0 ic0; have y9 := Rd.of_own x9; obtain ⟨iB0_0, iB0_1, iB0_2, iB0_3, iB0_4, iB0_s⟩ := B.box.cells)
      | (go_at_call 13; (with_reducible refine (specLongest_any q _ _ _ _ hF2 n2 B.rd y9).mono ?_); rintro e iw1 ⟨rfl, ic1⟩; replace P := P.on ic1; replace Q := Q.on ic1; replace A := A.on ic1; replace B := B.on ic1; replace R := R.on ic1; replace S := S.on ic1; replace B0 := bnext B0 ic1; clear y9; obtain ⟨iB1_0, iB1_1, iB1_2, iB1_3, iB1_4, iB1_s⟩ := B.box.cells))
  clear iB0 iB1 iB2 iB3 iB4 iBs iB0_0 iB0_1 iB0_2 iB0_3 iB0_4 iB0_s iB1_0 iB1_1 iB1_2 iB1_3 iB1_4 iB1_s
  clear ic0 ic1
  have xB := longestOf_bd okp.out
  have yB := longestOf_bd okq.out
  have hbl := fun hj => behind_long HP.out HQ.out hj
  have hsl := fun hj => beside_long HP.out HQ.out hj
  have hbr := fun hj => behind_reach HP.out HQ.out hj
  have HBL := Lib.hid hbl
  have HSL := Lib.hid hsl
  have HBR := Lib.hid hbr
  clear hbl hsl hbr
  generalize longestOf p (onesL p) = x at *
  generalize longestOf q (onesL q) = y at *
  obtain ⟨p0, p1, p2, p3, p4, ps⟩ := P.box.cells
  obtain ⟨q0, q1, q2, q3, q4, qs⟩ := Q.box.cells
  go_wp2_with fail
  clear p0 p1 p2 p3 p4 ps q0 q1 q2 q3 q4 qs
  refine (implJBehind_any p _ q _ _ hE2 hF2 P.rd Q.rd).mono ?_
  rintro e w8 ⟨u8, rfl, oK, b8⟩
  replace P := P.on b8
  replace Q := Q.on b8
  replace A := A.on b8
  replace B := B.on b8
  replace R := R.on b8
  replace S := S.on b8
  replace B0 := bnext B0 b8
  have K0 := Rd.of_own oK
  clear oK
  have HJ : Hid ((∃ M, joined p q (moreL p q) = (M, true) ∧ (1 ≤ M.tasks ∧ M.tasks ≤ 12) ∧ Hid (longestOf M (onesL M) = x + y) ∧ Hid (p.tasks = 1 → q.tasks = 1 → reachB M 0 (M.tasks - 1) = true)) ∨ joined p q (moreL p q) = (zeroPlan, false)) := by
    by_cases hj : planFault (joinP p q (moreL p q)) = 0
    · exact .inl ⟨_, joined_yes ⟨HP.out, HQ.out, hj⟩, manyOk_tasks (planFault_zero.1 hj).1, HBL.out hj, HBR.out hj⟩
    · exact .inr (joined_no (fun h => hj h.2.2))
  have hKl : (joined p q (moreL p q)).1.edges.length ≤ 2000000 := Nat.le_trans joined_len (by have := moreL_len p q; omega)
  have SJ : ∀ W, Rd edgeE W W.heap.size (.slice A3 p.edges.length c3) p.edges → Rd edgeE W W.heap.size (.slice A4 q.edges.length c4) q.edges → Calls Try.prog 30 #[planV p (.slice A3 p.edges.length c3), planV q (.slice A4 q.edges.length c4)] W (JoinPost (joined p q (moreL p q)) W) := fun W h h' => specJBehind_any p _ q _ W hE2 hF2 h h'
  generalize joined p q (moreL p q) = J at *
  have HSJ := Lib.hid SJ
  clear SJ
  obtain ⟨A7, c7, rfl, -⟩ := id K0
  have K := PB.one K0
  have a8 := (Below.refl w8.heap.size w8).alloc (Nat.le_refl _) (.cells #[.int .i64 J.1.prio, .int .i64 J.1.most, .int .i64 J.1.wait, .int .i64 J.1.tasks, .slice A7 J.1.edges.length c7] 26)
  replace P := P.on a8
  replace Q := Q.on a8
  replace A := A.on a8
  replace B := B.on a8
  replace R := R.on a8
  replace S := S.on a8
  replace B0 := bnext B0 a8
  clear K0 b8
  obtain ⟨p0, p1, p2, p3, p4, ps⟩ := A.box.cells
  obtain ⟨q0, q1, q2, q3, q4, qs⟩ := B.box.cells
  go_wp2_with fail
  clear a8 p0 p1 p2 p3 p4 ps q0 q1 q2 q3 q4 qs
  generalize hkb : w8.heap.size = kb at *
  clear hkb
  generalize (w8.alloc (.cells #[.int .i64 J.1.prio, .int .i64 J.1.most, .int .i64 J.1.wait, .int .i64 J.1.tasks, .slice A7 J.1.edges.length c7] 26)) = w9 at *
  refine (HSJ.out _ A.rd B.rd).mono ?_
  rintro e w10 ⟨u10, rfl, oX, b10⟩
  replace P := P.on b10
  replace Q := Q.on b10
  replace A := A.on b10
  replace B := B.on b10
  replace R := R.on b10
  replace S := S.on b10
  replace K := K.on b10
  replace B0 := bnext B0 b10
  obtain ⟨A8, c8, rfl, -⟩ := id (Rd.of_own oX)
  clear b10 oX HSJ
  have a10 := (Below.refl w10.heap.size w10).alloc (Nat.le_refl _) (.cells #[.int .i64 J.1.prio, .int .i64 J.1.most, .int .i64 J.1.wait, .int .i64 J.1.tasks, .slice A8 J.1.edges.length c8] 26)
  replace P := P.on a10
  replace Q := Q.on a10
  replace A := A.on a10
  replace B := B.on a10
  replace R := R.on a10
  replace S := S.on a10
  replace K := K.on a10
  replace B0 := bnext B0 a10
  go_upto_region 13 with fail
  clear a10
  generalize (w10.alloc (.cells #[.int .i64 J.1.prio, .int .i64 J.1.most, .int .i64 J.1.wait, .int .i64 J.1.tasks, .slice A8 J.1.edges.length c8] 26)) = w11 at *
  go_cut [151] from 106 to 151 (fun s wx => s = .bool false ∧ Below w11.heap.size w11 wx)
  case first =>
    rcases HJ.out with ⟨M, rfl, hM, HM, HR⟩ | rfl
    · dsimp only at K hKl
      have w1' : IntKind.i64.wrap (x + y) = x + y := IntWalk.i64_in _ (by omega)
      have w2' : IntKind.i64.wrap (M.tasks - 1) = M.tasks - 1 := IntWalk.i64_in _ (by omega)
      have n3 : (onesL M).length ≤ 2000000 := by unfold onesL; rw [List.length_replicate]; omega
      have DD := Below.refl w11.heap.size w11
      cases hr : reachB M 0 (M.tasks - 1)
      · by_cases s1 : (sinksI p).length = 1
        · have s1a : (((sinksI p).length : Int) == 1) = true := by simp [s1]
          have s1b : ((sinksI p).length == 1) = true := by simp [s1]
          clear s1
          by_cases s2 : (sourcesI q).length = 1
          · have s2a : (((sourcesI q).length : Int) == 1) = true := by simp [s2]
            have s2b : ((sourcesI q).length == 1) = true := by simp [s2]
            clear s2
            by_cases s3 : p.tasks = 1
            · have s4 : (q.tasks == 1) = false := beq_eq_false_iff_ne.2 (fun h => by have := HR.out s3 h; rw [hr] at this; cases this)
              have s3a : (p.tasks == 1) = true := beq_iff_eq.2 s3
              clear s3
              refine joins13_e _ _ _ _ _ _ _ _ _ _ _ _ _ _ _ _ _ _ _ _ _ _ _ _ _ _ _ _ _ _ _ _ _ _ _ _ _ _ _ _ _ _ _ _ _ _ _ _ _ _ _ _ _ _ _ _ _ _ _ _ _ _ _ _ _ _ _ _ _ _ _ _ _ _ _ _ _ _ _ _ _ _ _ _ _ _ _ _ _ _ _ _ _ _ _ _ _ _ _ _ _ _ _ _ _ _ _ _ _ _ _ _ _ _ _ _ _ _ _ _ _ _ _ _ _ _ _ _ _ _ _ _ _ _ _ _ _ _ _ _ _ _ _ _ _ _ _ _ _ _ _ _ _ _ _ _ _ _ _ _ _ _ _ _ _ _ _ _ _ _ _ _ _ _ _ _ _ _ _ _ _ _ _ _ _ _ _ _ _ _ _ _ _ _ _ _ _ _ _ _ K A B hKl hE2 hF2 hM HM xB yB hr s1a s1b s2a s2b s3a s4 ?_
              intro y106 y107 y108 y109 y110 y111 y112 y113 y114 y115 y116 y117 y118 y119 y120 y121 y122 y123 y124 y125 y126 y127 y128 y129 y130 y131 y132 y133 y134 y135 y136 y137 y138 y139 y140 y141 y142 y143 y144 y145 y146 y147 y148 y149 y150 w12 hb12
              go_wp2_with fail
              go_meet
              exact ⟨rfl, hb12⟩
            · have s3a : (p.tasks == 1) = false := beq_eq_false_iff_ne.2 s3
              clear s3
              refine joins13_d _ _ _ _ _ _ _ _ _ _ _ _ _ _ _ _ _ _ _ _ _ _ _ _ _ _ _ _ _ _ _ _ _ _ _ _ _ _ _ _ _ _ _ _ _ _ _ _ _ _ _ _ _ _ _ _ _ _ _ _ _ _ _ _ _ _ _ _ _ _ _ _ _ _ _ _ _ _ _ _ _ _ _ _ _ _ _ _ _ _ _ _ _ _ _ _ _ _ _ _ _ _ _ _ _ _ _ _ _ _ _ _ _ _ _ _ _ _ _ _ _ _ _ _ _ _ _ _ _ _ _ _ _ _ _ _ _ _ _ _ _ _ _ _ _ _ _ _ _ _ _ _ _ _ _ _ _ _ _ _ _ _ _ _ _ _ _ _ _ _ _ _ _ _ _ _ _ _ _ _ _ _ _ _ _ _ _ _ _ _ _ _ _ _ _ _ _ _ _ _ K A B hKl hE2 hF2 hM HM xB yB hr s1a s1b s2a s2b s3a ?_
              intro y106 y107 y108 y109 y110 y111 y112 y113 y114 y115 y116 y117 y118 y119 y120 y121 y122 y123 y124 y125 y126 y127 y128 y129 y130 y131 y132 y133 y134 y135 y136 y137 y138 y139 y140 y141 y142 y143 y144 y145 y146 y147 y148 y149 y150 w12 hb12
              go_wp2_with fail
              go_meet
              exact ⟨rfl, hb12⟩
          · have s2a : (((sourcesI q).length : Int) == 1) = false := beq_eq_false_iff_ne.2 (fun h => s2 (by omega))
            have s2b : ((sourcesI q).length == 1) = false := beq_eq_false_iff_ne.2 s2
            clear s2
            refine joins13_c _ _ _ _ _ _ _ _ _ _ _ _ _ _ _ _ _ _ _ _ _ _ _ _ _ _ _ _ _ _ _ _ _ _ _ _ _ _ _ _ _ _ _ _ _ _ _ _ _ _ _ _ _ _ _ _ _ _ _ _ _ _ _ _ _ _ _ _ _ _ _ _ _ _ _ _ _ _ _ _ _ _ _ _ _ _ _ _ _ _ _ _ _ _ _ _ _ _ _ _ _ _ _ _ _ _ _ _ _ _ _ _ _ _ _ _ _ _ _ _ _ _ _ _ _ _ _ _ _ _ _ _ _ _ _ _ _ _ _ _ _ _ _ _ _ _ _ _ _ _ _ _ _ _ _ _ _ _ _ _ _ _ _ _ _ _ _ _ _ _ _ _ _ _ _ _ _ _ _ _ _ _ _ _ _ _ _ _ _ _ _ _ _ _ _ _ _ _ _ _ K A B hKl hE2 hF2 hM HM xB yB hr s1a s1b s2a s2b ?_
            intro y106 y107 y108 y109 y110 y111 y112 y113 y114 y115 y116 y117 y118 y119 y120 y121 y122 y123 y124 y125 y126 y127 y128 y129 y130 y131 y132 y133 y134 y135 y136 y137 y138 y139 y140 y141 y142 y143 y144 y145 y146 y147 y148 y149 y150 w12 hb12
            go_wp2_with fail
            go_meet
            exact ⟨rfl, hb12⟩
        · have s1a : (((sinksI p).length : Int) == 1) = false := beq_eq_false_iff_ne.2 (fun h => s1 (by omega))
          have s1b : ((sinksI p).length == 1) = false := beq_eq_false_iff_ne.2 s1
          clear s1
          refine joins13_b _ _ _ _ _ _ _ _ _ _ _ _ _ _ _ _ _ _ _ _ _ _ _ _ _ _ _ _ _ _ _ _ _ _ _ _ _ _ _ _ _ _ _ _ _ _ _ _ _ _ _ _ _ _ _ _ _ _ _ _ _ _ _ _ _ _ _ _ _ _ _ _ _ _ _ _ _ _ _ _ _ _ _ _ _ _ _ _ _ _ _ _ _ _ _ _ _ _ _ _ _ _ _ _ _ _ _ _ _ _ _ _ _ _ _ _ _ _ _ _ _ _ _ _ _ _ _ _ _ _ _ _ _ _ _ _ _ _ _ _ _ _ _ _ _ _ _ _ _ _ _ _ _ _ _ _ _ _ _ _ _ _ _ _ _ _ _ _ _ _ _ _ _ _ _ _ _ _ _ _ _ _ _ _ _ _ _ _ _ _ _ _ _ _ _ _ _ _ _ _ K A B hKl hE2 hF2 hM HM xB yB hr s1a s1b ?_
          intro y106 y107 y108 y109 y110 y111 y112 y113 y114 y115 y116 y117 y118 y119 y120 y121 y122 y123 y124 y125 y126 y127 y128 y129 y130 y131 y132 y133 y134 y135 y136 y137 y138 y139 y140 y141 y142 y143 y144 y145 y146 y147 y148 y149 y150 w12 hb12
          go_wp2_with fail
          go_meet
          exact ⟨rfl, hb12⟩
      · skip
        refine joins13_a _ _ _ _ _ _ _ _ _ _ _ _ _ _ _ _ _ _ _ _ _ _ _ _ _ _ _ _ _ _ _ _ _ _ _ _ _ _ _ _ _ _ _ _ _ _ _ _ _ _ _ _ _ _ _ _ _ _ _ _ _ _ _ _ _ _ _ _ _ _ _ _ _ _ _ _ _ _ _ _ _ _ _ _ _ _ _ _ _ _ _ _ _ _ _ _ _ _ _ _ _ _ _ _ _ _ _ _ _ _ _ _ _ _ _ _ _ _ _ _ _ _ _ _ _ _ _ _ _ _ _ _ _ _ _ _ _ _ _ _ _ _ _ _ _ _ _ _ _ _ _ _ _ _ _ _ _ _ _ _ _ _ _ _ _ _ _ _ _ _ _ _ _ _ _ _ _ _ _ _ _ _ _ _ _ _ _ _ _ _ _ _ _ _ _ _ _ _ _ _ K A B hKl hE2 hF2 hM HM xB yB hr ?_
        intro y106 y107 y108 y109 y110 y111 y112 y113 y114 y115 y116 y117 y118 y119 y120 y121 y122 y123 y124 y125 y126 y127 y128 y129 y130 y131 y132 y133 y134 y135 y136 y137 y138 y139 y140 y141 y142 y143 y144 y145 y146 y147 y148 y149 y150 w12 hb12
        go_wp2_with fail
        go_meet
        exact ⟨rfl, hb12⟩
    · dsimp only at K hKl
      have hlc := later_cell w11
      go_wp2
      refine wp_region_pure (by kernel_rfl) (by kernel_rfl) ?_
      repeat (go_big_quiet_step (fail))
      refine wpQuiet_nil ?_
      rintro _ ⟨⟨w12, hb12⟩, rfl⟩
      clear hlc
      go_wp2_with fail
      go_meet
      exact ⟨rfl, hb12⟩
  obtain ⟨rfl, hc⟩ := hcut
  replace P := P.on hc
  replace Q := Q.on hc
  replace A := A.on hc
  replace B := B.on hc
  replace R := R.on hc
  replace S := S.on hc
  replace K := K.on hc
  replace B0 := bnext B0 hc
  clear hc HJ K hKl
  generalize wc = w13 at *
  obtain ⟨p0, p1, p2, p3, p4, ps⟩ := P.box.cells
  obtain ⟨q0, q1, q2, q3, q4, qs⟩ := Q.box.cells
  go_wp2_with fail
  clear p0 p1 p2 p3 p4 ps q0 q1 q2 q3 q4 qs
  refine (implBeside_any p _ q _ _ hE2 hF2 P.rd Q.rd).mono ?_
  rintro e w14 ⟨u14, rfl, oD, b14⟩
  replace P := P.on b14
  replace Q := Q.on b14
  replace A := A.on b14
  replace B := B.on b14
  replace B0 := bnext B0 b14
  have D0 := Rd.of_own oD
  clear oD
  have HG : Hid ((∃ M, joined p q [] = (M, true) ∧ (1 ≤ M.tasks ∧ M.tasks ≤ 12) ∧ Hid (longestOf M (onesL M) = max x y) ∧ Hid (M.tasks = p.tasks + q.tasks)) ∨ joined p q [] = (zeroPlan, false)) := by
    by_cases hj : planFault (joinP p q []) = 0
    · exact .inl ⟨_, joined_yes ⟨HP.out, HQ.out, hj⟩, manyOk_tasks (planFault_zero.1 hj).1, HSL.out hj, rfl⟩
    · exact .inr (joined_no (fun h => hj h.2.2))
  have hGl : (joined p q []).1.edges.length ≤ 2000000 := Nat.le_trans joined_len (by simp only [List.length_nil]; omega)
  have SG : ∀ W, Rd edgeE W W.heap.size (.slice A3 p.edges.length c3) p.edges → Rd edgeE W W.heap.size (.slice A4 q.edges.length c4) q.edges → Calls Try.prog 34 #[planV p (.slice A3 p.edges.length c3), planV q (.slice A4 q.edges.length c4)] W (JoinPost (joined p q []) W) := fun W h h' => specBeside_any p _ q _ W hE2 hF2 h h'
  generalize joined p q [] = G at *
  have HSG := Lib.hid SG
  clear SG
  obtain ⟨A9, c9, rfl, -⟩ := id D0
  have D := PB.one D0
  have a14 := (Below.refl w14.heap.size w14).alloc (Nat.le_refl _) (.cells #[.int .i64 G.1.prio, .int .i64 G.1.most, .int .i64 G.1.wait, .int .i64 G.1.tasks, .slice A9 G.1.edges.length c9] 26)
  replace P := P.on a14
  replace Q := Q.on a14
  replace A := A.on a14
  replace B := B.on a14
  replace B0 := bnext B0 a14
  clear D0 b14
  obtain ⟨p0, p1, p2, p3, p4, ps⟩ := A.box.cells
  obtain ⟨q0, q1, q2, q3, q4, qs⟩ := B.box.cells
  go_wp2_with fail
  clear a14 p0 p1 p2 p3 p4 ps q0 q1 q2 q3 q4 qs
  generalize hdb : w14.heap.size = db at *
  clear hdb
  generalize (w14.alloc (.cells #[.int .i64 G.1.prio, .int .i64 G.1.most, .int .i64 G.1.wait, .int .i64 G.1.tasks, .slice A9 G.1.edges.length c9] 26)) = w15 at *
  refine (HSG.out _ A.rd B.rd).mono ?_
  rintro e w16 ⟨u16, rfl, oX, b16⟩
  replace P := P.on b16
  replace Q := Q.on b16
  replace A := A.on b16
  replace B := B.on b16
  replace D := D.on b16
  replace B0 := bnext B0 b16
  obtain ⟨A10, c10, rfl, -⟩ := id (Rd.of_own oX)
  clear b16 oX HSG
  have a16 := (Below.refl w16.heap.size w16).alloc (Nat.le_refl _) (.cells #[.int .i64 G.1.prio, .int .i64 G.1.most, .int .i64 G.1.wait, .int .i64 G.1.tasks, .slice A10 G.1.edges.length c10] 26)
  replace P := P.on a16
  replace Q := Q.on a16
  replace A := A.on a16
  replace B := B.on a16
  replace D := D.on a16
  replace B0 := bnext B0 a16
  clear a16
  rcases HG.out with ⟨M, rfl, hM, HM, HT⟩ | rfl
  · dsimp only at D hGl A B P Q B0 ⊢
    have n3 : (onesL M).length ≤ 2000000 := by unfold onesL; rw [List.length_replicate]; omega
    have w3' : IntKind.i64.wrap (p.tasks + q.tasks) = p.tasks + q.tasks := IntWalk.i64_in _ (by omega)
    have t3 : (M.tasks == p.tasks + q.tasks) = true := beq_iff_eq.2 HT.out
    by_cases hxy : x < y
    · have HN := Lib.hid (show longestOf M (onesL M) = y by rw [HM.out]; omega)
      go_wp2_with fail
      generalize (w16.alloc (.cells #[.int .i64 M.prio, .int .i64 M.most, .int .i64 M.wait, .int .i64 M.tasks, .slice A10 M.edges.length c10] 26)) = w17 at *
      obtain ⟨kD0, kD1, kD2, kD3, kD4, kDs⟩ := D.box.cells
      obtain ⟨kA0, kA1, kA2, kA3, kA4, kAs⟩ := A.box.cells
      obtain ⟨kB0, kB1, kB2, kB3, kB4, kBs⟩ := B.box.cells
      go_region_held3 (fun w' => w'.cell? ⟨db, 0, none⟩ = some (.int .i64 M.prio) ∧ w'.cell? ⟨db, 1, none⟩ = some (.int .i64 M.most) ∧ w'.cell? ⟨db, 2, none⟩ = some (.int .i64 M.wait) ∧ w'.cell? ⟨db, 3, none⟩ = some (.int .i64 M.tasks) ∧ w'.cell? ⟨db, 4, none⟩ = some (.slice A9 M.edges.length c9) ∧ w'.cell? ⟨ab, 0, none⟩ = some (.int .i64 p.prio) ∧ w'.cell? ⟨ab, 1, none⟩ = some (.int .i64 p.most) ∧ w'.cell? ⟨ab, 2, none⟩ = some (.int .i64 p.wait) ∧ w'.cell? ⟨ab, 3, none⟩ = some (.int .i64 p.tasks) ∧ w'.cell? ⟨ab, 4, none⟩ = some (.slice A3 p.edges.length c3) ∧ w'.cell? ⟨(ab + 1), 0, none⟩ = some (.int .i64 q.prio) ∧ w'.cell? ⟨(ab + 1), 1, none⟩ = some (.int .i64 q.most) ∧ w'.cell? ⟨(ab + 1), 2, none⟩ = some (.int .i64 q.wait) ∧ w'.cell? ⟨(ab + 1), 3, none⟩ = some (.int .i64 q.tasks) ∧ w'.cell? ⟨(ab + 1), 4, none⟩ = some (.slice A4 q.edges.length c4))
        (first | (refine ⟨?_, ?_, ?_, ?_, ?_, ?_, ?_, ?_, ?_, ?_, ?_, ?_, ?_, ?_, ?_⟩ <;> first | assumption | go_keep) | go_keep)
        (first
          | (go_at_call 28; (with_reducible refine (ones_any M _ _ hM).mono ?_); rintro e kw0 ⟨v13, rfl, x13, kc0⟩; have kc0 := bnext (Below.refl _ _).drew kc0; replace P := P.on kc0; replace Q := Q.on kc0; replace A := A.on kc0; replace B := B.on kc0; replace D := D.on kc0; replace B0 := bnext B0 kc0; have y13 := Rd.of_own x13; obtain ⟨kD0_0, kD0_1, kD0_2, kD0_3, kD0_4, kD0_s⟩ := D.box.cells; obtain ⟨kA0_0, kA0_1, kA0_2, kA0_3, kA0_4, kA0_s⟩ := A.box.cells; obtain ⟨kB0_0, kB0_1, kB0_2, kB0_3, kB0_4, kB0_s⟩ := B.box.cells)
          | (go_at_call 31; (with_reducible refine (implLongest_any M _ _ _ _ hGl n3 D.rd y13).mono ?_); rintro e kw1 ⟨rfl, kc1⟩; replace P := P.on kc1; replace Q := Q.on kc1; replace A := A.on kc1; replace B := B.on kc1; replace D := D.on kc1; replace B0 := bnext B0 kc1; clear y13; rw [HN.out]; obtain ⟨kD1_0, kD1_1, kD1_2, kD1_3, kD1_4, kD1_s⟩ := D.box.cells; obtain ⟨kA1_0, kA1_1, kA1_2, kA1_3, kA1_4, kA1_s⟩ := A.box.cells; obtain ⟨kB1_0, kB1_1, kB1_2, kB1_3, kB1_4, kB1_s⟩ := B.box.cells))
      clear kD0 kD1 kD2 kD3 kD4 kDs kD0_0 kD0_1 kD0_2 kD0_3 kD0_4 kD0_s kD1_0 kD1_1 kD1_2 kD1_3 kD1_4 kD1_s
      clear kA0 kA1 kA2 kA3 kA4 kAs kA0_0 kA0_1 kA0_2 kA0_3 kA0_4 kA0_s kA1_0 kA1_1 kA1_2 kA1_3 kA1_4 kA1_s
      clear kB0 kB1 kB2 kB3 kB4 kBs kB0_0 kB0_1 kB0_2 kB0_3 kB0_4 kB0_s kB1_0 kB1_1 kB1_2 kB1_3 kB1_4 kB1_s
      clear kc0 kc1
      go_wp2
      go_ret
      exact ⟨rfl, B0⟩
    · have HN := Lib.hid (show longestOf M (onesL M) = x by rw [HM.out]; omega)
      go_wp2_with fail
      generalize (w16.alloc (.cells #[.int .i64 M.prio, .int .i64 M.most, .int .i64 M.wait, .int .i64 M.tasks, .slice A10 M.edges.length c10] 26)) = w17 at *
      obtain ⟨kD0, kD1, kD2, kD3, kD4, kDs⟩ := D.box.cells
      obtain ⟨kA0, kA1, kA2, kA3, kA4, kAs⟩ := A.box.cells
      obtain ⟨kB0, kB1, kB2, kB3, kB4, kBs⟩ := B.box.cells
      go_region_held3 (fun w' => w'.cell? ⟨db, 0, none⟩ = some (.int .i64 M.prio) ∧ w'.cell? ⟨db, 1, none⟩ = some (.int .i64 M.most) ∧ w'.cell? ⟨db, 2, none⟩ = some (.int .i64 M.wait) ∧ w'.cell? ⟨db, 3, none⟩ = some (.int .i64 M.tasks) ∧ w'.cell? ⟨db, 4, none⟩ = some (.slice A9 M.edges.length c9) ∧ w'.cell? ⟨ab, 0, none⟩ = some (.int .i64 p.prio) ∧ w'.cell? ⟨ab, 1, none⟩ = some (.int .i64 p.most) ∧ w'.cell? ⟨ab, 2, none⟩ = some (.int .i64 p.wait) ∧ w'.cell? ⟨ab, 3, none⟩ = some (.int .i64 p.tasks) ∧ w'.cell? ⟨ab, 4, none⟩ = some (.slice A3 p.edges.length c3) ∧ w'.cell? ⟨(ab + 1), 0, none⟩ = some (.int .i64 q.prio) ∧ w'.cell? ⟨(ab + 1), 1, none⟩ = some (.int .i64 q.most) ∧ w'.cell? ⟨(ab + 1), 2, none⟩ = some (.int .i64 q.wait) ∧ w'.cell? ⟨(ab + 1), 3, none⟩ = some (.int .i64 q.tasks) ∧ w'.cell? ⟨(ab + 1), 4, none⟩ = some (.slice A4 q.edges.length c4))
        (first | (refine ⟨?_, ?_, ?_, ?_, ?_, ?_, ?_, ?_, ?_, ?_, ?_, ?_, ?_, ?_, ?_⟩ <;> first | assumption | go_keep) | go_keep)
        (first
          | (go_at_call 28; (with_reducible refine (ones_any M _ _ hM).mono ?_); rintro e kw0 ⟨v13, rfl, x13, kc0⟩; have kc0 := bnext (Below.refl _ _).drew kc0; replace P := P.on kc0; replace Q := Q.on kc0; replace A := A.on kc0; replace B := B.on kc0; replace D := D.on kc0; replace B0 := bnext B0 kc0; have y13 := Rd.of_own x13; obtain ⟨kD0_0, kD0_1, kD0_2, kD0_3, kD0_4, kD0_s⟩ := D.box.cells; obtain ⟨kA0_0, kA0_1, kA0_2, kA0_3, kA0_4, kA0_s⟩ := A.box.cells; obtain ⟨kB0_0, kB0_1, kB0_2, kB0_3, kB0_4, kB0_s⟩ := B.box.cells)
          | (go_at_call 31; (with_reducible refine (implLongest_any M _ _ _ _ hGl n3 D.rd y13).mono ?_); rintro e kw1 ⟨rfl, kc1⟩; replace P := P.on kc1; replace Q := Q.on kc1; replace A := A.on kc1; replace B := B.on kc1; replace D := D.on kc1; replace B0 := bnext B0 kc1; clear y13; rw [HN.out]; obtain ⟨kD1_0, kD1_1, kD1_2, kD1_3, kD1_4, kD1_s⟩ := D.box.cells; obtain ⟨kA1_0, kA1_1, kA1_2, kA1_3, kA1_4, kA1_s⟩ := A.box.cells; obtain ⟨kB1_0, kB1_1, kB1_2, kB1_3, kB1_4, kB1_s⟩ := B.box.cells))
      clear kD0 kD1 kD2 kD3 kD4 kDs kD0_0 kD0_1 kD0_2 kD0_3 kD0_4 kD0_s kD1_0 kD1_1 kD1_2 kD1_3 kD1_4 kD1_s
      clear kA0 kA1 kA2 kA3 kA4 kAs kA0_0 kA0_1 kA0_2 kA0_3 kA0_4 kA0_s kA1_0 kA1_1 kA1_2 kA1_3 kA1_4 kA1_s
      clear kB0 kB1 kB2 kB3 kB4 kBs kB0_0 kB0_1 kB0_2 kB0_3 kB0_4 kB0_s kB1_0 kB1_1 kB1_2 kB1_3 kB1_4 kB1_s
      clear kc0 kc1
      go_wp2
      go_ret
      exact ⟨rfl, B0⟩
  · dsimp only at D hGl A B P Q B0 ⊢
    by_cases hxy : x < y
    all_goals
      go_wp2_with fail
      generalize (w16.alloc (.cells #[.int .i64 zeroPlan.prio, .int .i64 zeroPlan.most, .int .i64 zeroPlan.wait, .int .i64 zeroPlan.tasks, .slice A10 zeroPlan.edges.length c10] 26)) = w17 at *
      have hlc := later_cell w17
      refine wp_region_pure (by kernel_rfl) (by kernel_rfl) ?_
      repeat (go_big_quiet_step (fail))
      refine wpQuiet_nil ?_
      rintro _ ⟨⟨w18, hb18⟩, rfl⟩
      clear hlc
      go_wp2
      go_ret
      exact ⟨rfl, bnext B0 hb18⟩
end Go.Proofs.Ytnaicippgocdfaa
end
