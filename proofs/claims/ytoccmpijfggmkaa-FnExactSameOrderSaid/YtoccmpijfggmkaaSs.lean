/-
  SameOrder of the reference.
-/
import Derived.Test.YtoccmpijfggmkaaSo
namespace Go.Proofs.Ytoccmpijfggmkaa
open Go.RowKit
set_option maxRecDepth 100000
set_option maxHeartbeats 1000000

theorem specSameOrder_any (p : Plan) (ve : Value) (q : Plan) (vf : Value) (w : World) (hl : p.edges.length ≤ 2000000) (hl' : q.edges.length ≤ 2000000) (h : Rd edgeE w w.heap.size ve p.edges) (h' : Rd edgeE w w.heap.size vf q.edges) :
    Calls Try.prog 44 #[planV p ve, planV q vf] w fun e w' => e = .returned (.bool (sameOrder p q)) ∧ Below w.heap.size w w' := by
  obtain ⟨D0, E0, hb0⟩ := twoBox_at 47 p ve q vf w
  by_cases hf : planFault p = 0
  case neg =>
    have hfb : (planFault p != 0) = true := by simp [hf]
    have H := Lib.hid (sameOrder_no (p := p) (q := q) (fun x => hf x.1))
    clear hf
    unfold planV
    go_enter Try.func44, Try.ntmps44
    go_wp2_with fail
    refine (specPlanFault_any p ve _ hl ((h.below hb0).more hb0.size)).mono ?_
    rintro e w1 ⟨rfl, hb1⟩
    go_wp2
    go_ret
    exact ⟨ret_bool H.out.symm, bnext hb0 hb1⟩
  have hfb : (planFault p != 0) = false := by simp [hf]
  by_cases hg : planFault q = 0
  case neg =>
    have hgb : (planFault q != 0) = true := by simp [hg]
    have H := Lib.hid (sameOrder_no (p := p) (q := q) (fun x => hg x.2.1))
    clear hf hg
    unfold planV
    go_enter Try.func44, Try.ntmps44
    go_wp2_with fail
    refine (specPlanFault_any p ve _ hl ((h.below hb0).more hb0.size)).mono ?_
    rintro e w1 ⟨rfl, hb1⟩
    have hbw := bnext hb0 hb1
    obtain ⟨x0, x1, x2, x3, x4, xs⟩ := (E0.below hb1).cells
    go_wp2_with fail
    clear x0 x1 x2 x3 x4 xs
    refine (specPlanFault_any q vf _ hl' ((h'.below hbw).more hbw.size)).mono ?_
    rintro e w2 ⟨rfl, hb2⟩
    go_wp2
    go_ret
    exact ⟨ret_bool H.out.symm, bnext hbw hb2⟩
  have hgb : (planFault q != 0) = false := by simp [hg]
  by_cases ht : p.tasks = q.tasks
  case neg =>
    have htb : (p.tasks != q.tasks) = true := by simp [ht]
    have H := Lib.hid (sameOrder_no (p := p) (q := q) (fun x => ht x.2.2.1))
    clear hf hg ht
    unfold planV
    go_enter Try.func44, Try.ntmps44
    go_wp2_with fail
    refine (specPlanFault_any p ve _ hl ((h.below hb0).more hb0.size)).mono ?_
    rintro e w1 ⟨rfl, hb1⟩
    have hbw := bnext hb0 hb1
    obtain ⟨x0, x1, x2, x3, x4, xs⟩ := (E0.below hb1).cells
    go_wp2_with fail
    clear x0 x1 x2 x3 x4 xs
    refine (specPlanFault_any q vf _ hl' ((h'.below hbw).more hbw.size)).mono ?_
    rintro e w2 ⟨rfl, hb2⟩
    obtain ⟨x0, x1, x2, x3, x4, xs⟩ := ((E0.below hb1).below hb2).cells
    obtain ⟨y0, y1, y2, y3, y4, ys⟩ := ((D0.below hb1).below hb2).cells
    go_wp2
    go_ret
    exact ⟨ret_bool H.out.symm, bnext hbw hb2⟩
  have htb : (p.tasks != q.tasks) = false := by simp [ht]
  obtain ⟨t1, t2⟩ := manyOk_tasks (planFault_zero.1 hf).1
  obtain ⟨T, hT⟩ := Int.eq_ofNat_of_zero_le (show 0 ≤ p.tasks by omega)
  have hT2 : T ≤ 12 := by omega
  have HF := Lib.hid hf
  have HG := Lib.hid hg
  have HQ := Lib.hid ht
  have HT := Lib.hid hT
  clear hf hg ht hT
  unfold planV
  go_enter Try.func44, Try.ntmps44
  go_wp2_with fail
  refine (specPlanFault_any p ve _ hl ((h.below hb0).more hb0.size)).mono ?_
  rintro e w1 ⟨rfl, hb1⟩
  have hbw := bnext hb0 hb1
  obtain ⟨x0, x1, x2, x3, x4, xs⟩ := (E0.below hb1).cells
  go_wp2_with fail
  clear x0 x1 x2 x3 x4 xs
  refine (specPlanFault_any q vf _ hl' ((h'.below hbw).more hbw.size)).mono ?_
  rintro e w2 ⟨rfl, hb2⟩
  have hbw := bnext hbw hb2
  have D := (D0.below hb1).below hb2
  have E := (E0.below hb1).below hb2
  obtain ⟨x0, x1, x2, x3, x4, xs⟩ := E.cells
  obtain ⟨y0, y1, y2, y3, y4, ys⟩ := D.cells
  clear hb1 hb2 hb0 D0 E0
  go_wp2
  clear x0 x1 x2 x3 x4 xs y0 y1 y2 y3 y4 ys
  go_loopw [5] (fun i wr => ∃ k : Nat, k ≤ T ∧ i = .int .i64 k ∧ Hid (∀ x y : Nat, x < k → y < T → (Pg.Reach (esOf p) x y ↔ Pg.Reach (esOf q) x y)) ∧ BoxAt w.heap.size p ve wr ∧ BoxAt (w.heap.size + 1) q vf wr ∧ Below w.heap.size w wr) (fun i _ => T - (intOf i).toNat)
  case atStart => exact ⟨0, Nat.zero_le _, rfl, fun x y hx => absurd hx (by omega), D, E, hbw⟩
  case round =>
    clear D E hbw
    obtain ⟨k, hk, rfl, hok, D, E, hb⟩ := hrel
    obtain ⟨y0, y1, y2, y3, y4, ys⟩ := D.cells
    by_cases hlt : k < T
    · have hltI : (k : Int) < p.tasks := by rw [HT.out]; omega
      go_wp2_with fail
      clear y0 y1 y2 y3 y4 ys
      refine (from_any p ve k _ (planFault_zero.1 HF.out).1 (planFault_zero.1 HF.out).2.1 hltI ((h.below hb).more hb.size)).mono ?_
      rintro e w3 ⟨vx, X, rfl, ox, hb3, lx, hX⟩
      have hbw3 := bnext hb hb3
      have D := D.below hb3
      have E := E.below hb3
      obtain ⟨x0, x1, x2, x3, x4, xs⟩ := E.cells
      go_wp2_with fail
      clear x0 x1 x2 x3 x4 xs
      refine (from_any q vf k _ (planFault_zero.1 HG.out).1 (planFault_zero.1 HG.out).2.1 (by rw [← HQ.out]; exact hltI) ((h'.below hbw3).more hbw3.size)).mono ?_
      rintro e w4 ⟨vy, Y, rfl, oy, hb4, ly, hY⟩
      have hbw4 := bnext hbw3 hb4
      have D := D.below hb4
      have E := E.below hb4
      have ox := ox.below hb4
      have HX := Lib.hid hX
      have HY := Lib.hid hY
      have hlx : X.length = T := by rw [lx, HT.out]; rfl
      have hly : Y.length = T := by rw [ly, ← HQ.out, HT.out]; rfl
      have LX := Lib.hid hlx
      have LY := Lib.hid hly
      clear lx ly hX hY
      rcases ox.form with ⟨_, e0⟩ | ⟨g, cap, rfl, _, hgl, _, _, _, _⟩
      · exfalso
        rw [e0] at hlx
        simp at hlx
        omega
      rcases oy.form with ⟨_, e0⟩ | ⟨g', cap', rfl, _, hgl', _, _, _, _⟩
      · exfalso
        rw [e0] at hly
        simp at hly
        omega
      rw [hlx] at ox ⊢
      rw [hly] at oy ⊢
      clear hlx hly
      obtain ⟨y0, y1, y2, y3, y4, ys⟩ := D.cells
      go_wp2
      clear y0 y1 y2 y3 y4 ys
      go_loopw [8] (fun i wr => ∃ j : Nat, j ≤ T ∧ i = .int .i64 j ∧ Hid (∀ y : Nat, y < j → X.getD y false = Y.getD y false) ∧ Below w4.heap.size w4 wr) (fun i _ => T - (intOf i).toNat)
      case atStart => exact ⟨0, Nat.zero_le _, rfl, fun y hy => absurd hy (by omega), Below.refl _ _⟩
      case round =>
        obtain ⟨j, hj, rfl, hok2, hb⟩ := hrel
        obtain ⟨y0, y1, y2, y3, y4, ys⟩ := (D.below hb).cells
        by_cases hjt : j < T
        · have hjtI : (j : Int) < p.tasks := by rw [HT.out]; omega
          have hjX : j < X.length := by rw [LX.out]; exact hjt
          have hjY : j < Y.length := by rw [LY.out]; exact hjt
          have cX := (ox.below hb).bool hjX
          have cY := (oy.below hb).bool hjY
          have gX := Lib.hid (show X.getD j false = X[j] by rw [List.getD_eq_getElem?_getD, List.getElem?_eq_getElem hjX]; rfl)
          have gY := Lib.hid (show Y.getD j false = Y[j] by rw [List.getD_eq_getElem?_getD, List.getElem?_eq_getElem hjY]; rfl)
          have hjT : (j : Int) < (T : Int) := by omega
          have hs4 := hb.size
          cases hr : X[j] == Y[j]
          · have H := Lib.hid (sameOrder_no (p := p) (q := q) (fun x => by
              have h1 := HX.out j
              have h2 := HY.out j
              have h3 := x.2.2.2 k j (by rw [HT.out]; omega) (by rw [HT.out]; omega)
              have : X[j] = Y[j] := by rw [← gX.out, ← gY.out, Bool.eq_iff_iff, h1, h2]; exact h3
              rw [this] at hr
              simp at hr))
            have hrr : Hid (X[j] = true ∧ Y[j] = false) ∨ Hid (X[j] = false ∧ Y[j] = true) := by
              cases h1 : X[j] <;> cases h2 : Y[j] <;> simp_all [Hid]
            clear hr
            rcases hrr with hr | hr
            all_goals
              rw [hr.out.1] at cX
              rw [hr.out.2] at cY
              go_wp2
              go_quiet (fail)
              go_wp2
              go_ret
              exact ⟨ret_bool H.out.symm, bdrewN (bnext hbw4 hb) _⟩
          · have S : Hid (∀ y : Nat, y < j + 1 → X.getD y false = Y.getD y false) := by
              intro y hy
              by_cases e : y = j
              · subst e; rw [gX.out, gY.out]; exact eq_of_beq hr
              · exact hok2.out y (by omega)
            rw [eq_of_beq hr] at cX
            clear hr
            go_wp2
            go_quiet (fail)
            go_wp2
            exact ⟨⟨j + 1, by omega, by go_num, S, bdrewN hb _⟩, by simp [intOf]; omega⟩
        · have hjtI : ¬ (j : Int) < p.tasks := by rw [HT.out]; omega
          have S : Hid (∀ x y : Nat, x < k + 1 → y < T → (Pg.Reach (esOf p) x y ↔ Pg.Reach (esOf q) x y)) := by
            intro x y hx hy
            by_cases e : x = k
            · subst e; rw [← HX.out, ← HY.out, hok2.out y (by omega)]
            · exact hok.out x y (by omega) hy
          go_wp2
          exact ⟨⟨k + 1, by omega, by go_num, S, D.below hb, E.below hb, bnext hbw4 hb⟩, by simp [intOf]; omega⟩
    · have hltI : ¬ (k : Int) < p.tasks := by rw [HT.out]; omega
      have H : Hid (sameOrder p q = true) := sameOrder_iff.2 ⟨HF.out, HG.out, HQ.out, fun a b ha hb' => by
        rw [HT.out] at ha hb'
        exact hok.out a b (by omega) (by omega)⟩
      go_wp2
      go_ret
      exact ⟨ret_bool H.out.symm, hb⟩
end Go.Proofs.Ytoccmpijfggmkaa
