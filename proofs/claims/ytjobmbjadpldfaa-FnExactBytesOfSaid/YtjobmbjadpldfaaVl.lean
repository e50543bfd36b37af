/-
  DeedOk of the program: the walk.
-/
import Derived.Test.YtjobmbjadpldfaaVk
namespace Go.Proofs.Ytjobmbjadpldfaa
open Go.RowKit
set_option maxRecDepth 100000
set_option maxHeartbeats 2000000
set_option linter.unusedVariables false
set_option linter.unusedSimpArgs false

def usedS (d : Deed) (s : Sl) : Sl := if d.kind = 1 then s else ⟨none, 0, 0⟩
theorem implUsed_any (d : Deed) (s : Sl) (w : World) :
    Calls Try.prog 90 #[deedW d s] w fun e w' => e = .returned (deedW (usedD d) (usedS d s)) ∧ Below w.heap.size w w' := by
  by_cases k1 : d.kind = 1
  · exact implUsed1 d s w k1
  by_cases k2 : d.kind = 2
  · exact implUsed2 d s w k2
  by_cases k3 : d.kind = 3
  · exact implUsed3 d s w k3
  by_cases k4 : d.kind = 4
  · exact implUsed4 d s w k4
  by_cases k6 : d.kind = 6
  · exact implUsed6 d s w k6
  by_cases k7 : d.kind = 7
  · exact implUsed7 d s w k7
  exact implUsed0 d s w (beq_eq_false_iff_ne.2 k1) (beq_eq_false_iff_ne.2 k2) (beq_eq_false_iff_ne.2 k3) (beq_eq_false_iff_ne.2 k4) (beq_eq_false_iff_ne.2 k6) (beq_eq_false_iff_ne.2 k7)

theorem planNone_iff (p : Plan) : planNone p = decide (p = planZ) := by
  obtain ⟨a, b, c, d, l⟩ := p
  rw [Bool.eq_iff_iff]
  simp [planNone, planZ, and_assoc]
theorem edgeNums_all (l : List Edge) : (edgeNums l).all numB = l.all (fun e => numB e.fr && numB e.to) := by
  induction l with
  | nil => rfl
  | cons a l ih => rw [show edgeNums (a :: l) = [a.fr, a.to] ++ edgeNums l from rfl, List.all_append, ih]; simp [Bool.and_assoc]
theorem okUsed (d : Deed) (h0 : inB d.kind 1 8 = true) (hl : d.plan.edges.length ≤ 31) : deedOk d = (decide (d = usedD d) && (numbersOf d).all numB) := by
  obtain ⟨kd, rn, p, tk, ty, wk, dr⟩ := d
  replace h0 : inB kd 1 8 = true := h0
  replace hl : p.edges.length ≤ 31 := hl
  have hn : numB (p.edges.length : Int) = true := by simp [numB, inB]; omega
  have : kd = 1 ∨ kd = 2 ∨ kd = 3 ∨ kd = 4 ∨ kd = 5 ∨ kd = 6 ∨ kd = 7 ∨ kd = 8 := by
    simp [inB] at h0
    omega
  rcases this with rfl | rfl | rfl | rfl | rfl | rfl | rfl | rfl <;> (rw [Bool.eq_iff_iff]; simp [deedOk, usedD, numbersOf, planNone_iff, planNums, edgeNums_all, hn, hl, h0]; try (constructor <;> intro h <;> simp_all))
theorem okLong (d : Deed) (hl : ¬ d.plan.edges.length ≤ 31) : deedOk d = false := by
  have h1 : planNums d.plan = false := by simp [planNums, hl]
  have h2 : planNone d.plan = false := by
    have : (d.plan.edges.length == 0) = false := beq_eq_false_iff_ne.2 (by omega)
    simp [planNone, this]
  simp [deedOk, h1, h2]
theorem used_rd {d : Deed} {s : Sl} {w : World} {B : Nat} (h : deedD.rd w B d s) : deedD.rd w B (usedD d) (usedS d s) := by
  have h0 : planD.rd w B d.plan s := h
  show planD.rd w B (usedD d).plan (usedS d s)
  unfold usedD usedS
  split
  · exact h0
  · have e : ∀ q : Plan, q.edges = [] → planD.rd w B q ⟨none, 0, 0⟩ := fun q hq => by
      show RdL edgeD w B (.slice none 0 0) q.edges
      rw [hq]
      exact ⟨[], rfl, ⟨none, 0, rfl, Nat.le_refl _, fun h => absurd h (by simp)⟩, by simp⟩
    split
    · exact e _ rfl
    split
    · exact e _ rfl
    split <;> exact e _ rfl

theorem implDeedOk_core (d du : Deed) (A : Option Addr) (c : Nat) (su : Sl) (nd : List Int) (D : Bool) (w : World) (LN : nd.length ≤ 6 + 2 * d.plan.edges.length)
    (CS : Hid (∀ W, Below w.heap.size w W → Calls Try.prog 89 #[deedW d ⟨A, d.plan.edges.length, c⟩, deedW du su] W fun e w' => e = .returned (.bool (decide (d = du))) ∧ Below W.heap.size W w'))
    (CU : Hid (∀ W, Calls Try.prog 90 #[deedW d ⟨A, d.plan.edges.length, c⟩] W fun e w' => e = .returned (deedW du su) ∧ Below W.heap.size W w'))
    (CN : Hid (∀ W, d.plan.edges.length ≤ 31 → Below w.heap.size w W → Calls Try.prog 63 #[deedW d ⟨A, d.plan.edges.length, c⟩] W fun e w' => ∃ v, e = .returned v ∧ Ow intE 3 w' W.heap.size v nd ∧ Below W.heap.size W w'))
    (L0 : Hid (inB d.kind 1 8 = false → D = false)) (L1 : Hid (¬ d.plan.edges.length ≤ 31 → D = false)) (L2 : Hid (inB d.kind 1 8 = true → d.plan.edges.length ≤ 31 → D = (decide (d = du) && nd.all numB))) :
    Calls Try.prog 60 #[deedW d ⟨A, d.plan.edges.length, c⟩] w fun e w' => e = .returned (.bool D) ∧ Below w.heap.size w w' := by
  have X := DBox.new 74 [.int .i64 d.kind, .int .i64 d.run, .int .i64 d.plan.prio, .int .i64 d.plan.most, .int .i64 d.plan.wait, .int .i64 d.plan.tasks, .slice A d.plan.edges.length c, .int .i64 d.task, .int .i64 d.try_, .int .i64 d.worker, .int .i64 d.draw] w (b := w.heap.size) rfl
  have B0 : Below w.heap.size w (w.alloc (.cells #[.int .i64 d.kind, .int .i64 d.run, .int .i64 d.plan.prio, .int .i64 d.plan.most, .int .i64 d.plan.wait, .int .i64 d.plan.tasks, .slice A d.plan.edges.length c, .int .i64 d.task, .int .i64 d.try_, .int .i64 d.worker, .int .i64 d.draw] 74)) := by repeat (first | exact Below.refl _ _ | refine Below.alloc ?_ (by simp <;> omega) _)
  go_enter Try.func60, Try.ntmps60
  go_wp2
  generalize (w.alloc (.cells #[.int .i64 d.kind, .int .i64 d.run, .int .i64 d.plan.prio, .int .i64 d.plan.most, .int .i64 d.plan.wait, .int .i64 d.plan.tasks, .slice A d.plan.edges.length c, .int .i64 d.task, .int .i64 d.try_, .int .i64 d.worker, .int .i64 d.draw] 74)) = W at *
  have X_0 := X.cell 0 _ rfl
  have X_1 := X.cell 1 _ rfl
  have X_2 := X.cell 2 _ rfl
  have X_3 := X.cell 3 _ rfl
  have X_4 := X.cell 4 _ rfl
  have X_5 := X.cell 5 _ rfl
  have X_6 := X.cell 6 _ rfl
  have X_7 := X.cell 7 _ rfl
  have X_8 := X.cell 8 _ rfl
  have X_9 := X.cell 9 _ rfl
  have X_10 := X.cell 10 _ rfl
  have X_l := X.lt
  have hlc := later_cell W
  cases a0 : inB d.kind 1 8
  case false =>
    have H := Lib.hid (L0.out a0)
    clear L0 L1 L2 CS CU CN
    refine wp_region_pure (by kernel_rfl) (by kernel_rfl) ?_
    repeat (go_big_quiet_step ((go_at_call 61; exact pure_same (fun u => within_any _ _ _ u.1))))
    refine wpQuiet_nil ?_
    rintro _ ⟨⟨w3, b3⟩, rfl⟩
    clear hlc
    go_wp2
    go_ret
    exact ⟨ret_bool H.out.symm, bnext B0 b3⟩
  by_cases hl : d.plan.edges.length ≤ 31
  case neg =>
    have H := Lib.hid (L1.out hl)
    have hlI : (31 : Int) < (d.plan.edges.length : Int) := by omega
    clear L0 L1 L2 CS CU CN hl
    refine wp_region_pure (by kernel_rfl) (by kernel_rfl) ?_
    repeat (go_big_quiet_step ((go_at_call 61; exact pure_same (fun u => within_any _ _ _ u.1))))
    refine wpQuiet_nil ?_
    rintro _ ⟨⟨w3, b3⟩, rfl⟩
    clear hlc
    go_wp2
    go_ret
    exact ⟨ret_bool H.out.symm, bnext B0 b3⟩
  have HD := Lib.hid (L2.out a0 hl)
  have LN := Lib.hid (show nd.length ≤ 68 by omega)
  have CN := Lib.hid (fun W hW => CN.out W hl hW)
  have hlI : ¬ (31 : Int) < (d.plan.edges.length : Int) := by omega
  clear L0 L1 L2
  cases a1 : decide (d = du)
  case false =>
    have H := Lib.hid (show D = false by rw [HD.out, a1, Bool.false_and])
    rw [a1] at CS
    clear CN HD
    refine wp_region_pure (by kernel_rfl) (by kernel_rfl) ?_
    repeat (go_big_quiet_step ((first
      | (go_at_call 61; exact pure_same (fun u => within_any _ _ _ u.1))
      | (go_at_call 90; rename_i x; have h1 := CU.out x.1; exact pure_of h1)
      | (go_at_call 89; rename_i x; have h1 := CS.out x.1 (bnext B0 x.2); exact pure_of h1))))
    refine wpQuiet_nil ?_
    rintro _ ⟨⟨w3, b3⟩, rfl⟩
    clear hlc
    go_wp2
    go_ret
    exact ⟨ret_bool H.out.symm, bnext B0 b3⟩
  have HD := Lib.hid (show D = nd.all numB by rw [HD.out, a1, Bool.true_and])
  rw [a1] at CS
  refine wp_region_pure (by kernel_rfl) (by kernel_rfl) ?_
  repeat (go_big_quiet_step ((first
    | (go_at_call 61; exact pure_same (fun u => within_any _ _ _ u.1))
    | (go_at_call 90; rename_i x; have h1 := CU.out x.1; exact pure_of h1)
    | (go_at_call 89; rename_i x; have h1 := CS.out x.1 (bnext B0 x.2); exact pure_of h1))))
  refine wpQuiet_nil ?_
  rintro _ ⟨⟨w3, b3⟩, rfl⟩
  clear hlc CS CU a0 a1 hlI hl
  replace B0 := bnext B0 b3
  replace X := X.below b3
  clear X_0 X_1 X_2 X_3 X_4 X_5 X_6 X_7 X_8 X_9 X_10 X_l
  have X_0 := X.cell 0 _ rfl
  have X_1 := X.cell 1 _ rfl
  have X_2 := X.cell 2 _ rfl
  have X_3 := X.cell 3 _ rfl
  have X_4 := X.cell 4 _ rfl
  have X_5 := X.cell 5 _ rfl
  have X_6 := X.cell 6 _ rfl
  have X_7 := X.cell 7 _ rfl
  have X_8 := X.cell 8 _ rfl
  have X_9 := X.cell 9 _ rfl
  have X_10 := X.cell 10 _ rfl
  have X_l := X.lt
  clear b3
  go_wp2_with (go_at_call 63; refine (CN.out _ B0).mono ?_; rintro e w4 ⟨v, rfl, o4, b4⟩; obtain ⟨A9, c9, rfl, -⟩ := id (Rd.of_own o4))
  clear X_0 X_1 X_2 X_3 X_4 X_5 X_6 X_7 X_8 X_9 X_10 X_l
  clear X CN
  replace B0 := bnext B0 b4
  have h5 := Lib.hid (Rd.of_own o4)
  clear o4 b4
  go_loopw [26] (fun i wr => ∃ k : Nat, k ≤ nd.length ∧ i = .int .i64 k ∧ Hid ((nd.take k).all numB = true) ∧ Below w4.heap.size w4 wr) (fun i _ => nd.length - (intOf i).toNat)
  case atStart => exact ⟨0, Nat.zero_le _, rfl, rfl, Below.refl _ _⟩
  case round =>
    obtain ⟨k, hk, rfl, hA, hb⟩ := hrel
    have LN := LN.out
    by_cases hlt : k < nd.length
    · have hltI : (k : Int) < (nd.length : Int) := by omega
      obtain ⟨b, o, rfl, hbb, d0⟩ := (h5.out.below hb).int hlt
      cases q0 : inB nd[k] 0 1000000000
      · have H := Lib.hid (show D = false by rw [HD.out]; exact all_no hlt q0)
        go_wp2_with (go_at_call 61; refine (within_any _ _ _ _).mono ?_; rintro e w5 ⟨rfl, rfl⟩)
        go_ret
        exact ⟨ret_bool H.out.symm, bnext B0 hb⟩
      · have S := Lib.hid (show (nd.take (k + 1)).all numB = true by rw [List.take_succ_eq_append_getElem hlt, List.all_append, hA.out]; simp [numB, q0])
        go_wp2_with (go_at_call 61; refine (within_any _ _ _ _).mono ?_; rintro e w5 ⟨rfl, rfl⟩)
        exact ⟨⟨k + 1, by omega, by go_num, S, hb⟩, by simp [intOf]; omega⟩
    · have hltI : ¬ (k : Int) < (nd.length : Int) := by omega
      have H := Lib.hid (show D = true by rw [HD.out, ← hA.out, List.take_of_length_le (by omega)])
      go_wp2
      go_ret
      exact ⟨ret_bool H.out.symm, bnext B0 hb⟩
theorem implDeedOk_any (d : Deed) (s : Sl) (w : World) (hc : cntDeed d ≤ 2000000) (h : deedD.rd w w.heap.size d s) :
    Calls Try.prog 60 #[deedW d s] w fun e w' => e = .returned (.bool (deedOk d)) ∧ Below w.heap.size w w' := by
  have hcu : cntDeed (usedD d) ≤ 2000000 := by
    have : cntDeed (usedD d) ≤ cntDeed d := by
      unfold cntDeed cntPlan usedD
      split
      · exact Nat.le_refl _
      split
      · exact Nat.zero_le _
      split
      · exact Nat.zero_le _
      split <;> exact Nat.zero_le _
    omega
  have HR : Hid (∀ W, Below w.heap.size w W → deedD.rd W W.heap.size d s) := fun W hW => deedD.rd_more (deedD.rd_below h hW) hW.size
  have HU : Hid (∀ W, Below w.heap.size w W → deedD.rd W W.heap.size (usedD d) (usedS d s)) := fun W hW => used_rd (HR.out W hW)
  have CS := Lib.hid (fun W hW => sameDeed_own d (usedD d) s (usedS d s) W hc hcu (HR.out W hW) (HU.out W hW))
  have CU := Lib.hid (implUsed_any d s)
  have CN := Lib.hid (fun W (hl : d.plan.edges.length ≤ 31) hW => implNumbers_any d s W (by omega) (HR.out W hW))
  have L1 := Lib.hid (okLong d)
  have L2 := Lib.hid (okUsed d)
  have L0 : Hid (inB d.kind 1 8 = false → deedOk d = false) := fun a0 => by simp [deedOk, a0]
  have h1 : s.n = d.plan.edges.length := by
    have h0 : planD.rd w w.heap.size d.plan s := h
    exact RdL.at1 h0
  obtain ⟨A, n, c⟩ := s
  replace h1 : n = d.plan.edges.length := h1
  subst h1
  exact implDeedOk_core d (usedD d) A c (usedS d ⟨A, d.plan.edges.length, c⟩) (numbersOf d) (deedOk d) w (numbersOf_len d) CS CU CN L0 L1 L2

end Go.Proofs.Ytjobmbjadpldfaa
