/-
  Reaches of the reference.
-/
import Derived.Test.YtoccmpijfggmkaaRe
import Derived.Test.YtoccmpijfggmkaaPs
namespace Go.Proofs.Ytoccmpijfggmkaa
open Go.RowKit
set_option maxRecDepth 100000
set_option maxHeartbeats 1000000

theorem specReaches_any (p : Plan) (ve : Value) (a b : Int) (w : World) (hl : p.edges.length ≤ 2000000) (h : Rd edgeE w w.heap.size ve p.edges) :
    Calls Try.prog 132 #[planV p ve, .int .i64 a, .int .i64 b] w fun e w' => e = .returned (.bool (reachB p a b)) ∧ Below w.heap.size w w' := by
  have hb0 := planBox_below 47 p ve w
  by_cases hf : planFault p = 0
  case neg =>
    have hfb : (planFault p != 0) = true := by simp [hf]
    have H := Lib.hid (show reachB p a b = false by simp [reachB, isTaskB, hf])
    clear hf
    unfold planV
    go_enter Try.func132, Try.ntmps132
    go_wp2_with fail
    refine (specPlanFault_any p ve _ hl ((h.below hb0).more hb0.size)).mono ?_
    rintro e w1 ⟨rfl, hb1⟩
    go_wp2
    go_ret
    exact ⟨ret_bool H.out.symm, bnext hb0 hb1⟩
  have hfb : (planFault p != 0) = false := by simp [hf]
  have G0 := Lib.hid (planFault_zero.1 hf)
  obtain ⟨t1, t2⟩ := manyOk_tasks G0.out.1
  have HF := Lib.hid hf
  clear hf
  cases h1 : inB a 0 (p.tasks - 1)
  · have H := Lib.hid (show reachB p a b = false by simp [reachB, isTaskB, h1])
    unfold planV
    go_enter Try.func132, Try.ntmps132
    go_wp2_with fail
    refine (specPlanFault_any p ve _ hl ((h.below hb0).more hb0.size)).mono ?_
    rintro e w1 ⟨rfl, hb1⟩
    obtain ⟨x0, x1, x2, x3, x4, hs, hbw⟩ := planBox_cells (T := 47) (p := p) (ve := ve) (w := w) hb1
    go_wp2_with (go_at_call 113; refine (l01In_any _ _ _ _).mono ?_; rintro e w' ⟨rfl, rfl⟩)
    go_ret
    exact ⟨ret_bool H.out.symm, hbw⟩
  cases h2 : inB b 0 (p.tasks - 1)
  · have H := Lib.hid (show reachB p a b = false by simp [reachB, isTaskB, h2])
    unfold planV
    go_enter Try.func132, Try.ntmps132
    go_wp2_with fail
    refine (specPlanFault_any p ve _ hl ((h.below hb0).more hb0.size)).mono ?_
    rintro e w1 ⟨rfl, hb1⟩
    obtain ⟨x0, x1, x2, x3, x4, hs, hbw⟩ := planBox_cells (T := 47) (p := p) (ve := ve) (w := w) hb1
    go_wp2_with (go_at_call 113; refine (l01In_any _ _ _ _).mono ?_; rintro e w' ⟨rfl, rfl⟩)
    go_ret
    exact ⟨ret_bool H.out.symm, hbw⟩
  obtain ⟨a0, a1⟩ := inB_iff.1 h1
  obtain ⟨b0, b1⟩ := inB_iff.1 h2
  obtain ⟨x, rfl⟩ := Int.eq_ofNat_of_zero_le a0
  obtain ⟨y, rfl⟩ := Int.eq_ofNat_of_zero_le b0
  have hx : (x : Int) < p.tasks := by omega
  have hxT : x < p.tasks.toNat := by omega
  have hyT : y < p.tasks.toNat := by omega
  have H := Lib.hid (reachB_iff HF.out hxT hyT)
  unfold planV
  go_enter Try.func132, Try.ntmps132
  go_wp2_with fail
  refine (specPlanFault_any p ve _ hl ((h.below hb0).more hb0.size)).mono ?_
  rintro e w1 ⟨rfl, hb1⟩
  obtain ⟨x0, x1, x2, x3, x4, hs, hbw⟩ := planBox_cells (T := 47) (p := p) (ve := ve) (w := w) hb1
  go_wp2_with (go_at_call 113; refine (l01In_any _ _ _ _).mono ?_; rintro e w' ⟨rfl, rfl⟩)
  clear x0 x1 x2 x3 x4
  refine (from_any p ve x _ G0.out.1 G0.out.2.1 hx ((h.below hbw).more hbw.size)).mono ?_
  rintro e w2 ⟨v, O, rfl, o2, hb2, lO, hO⟩
  have hbw2 := bnext hbw hb2
  have hyO : y < O.length := by omega
  have HO := Lib.hid (hO y)
  have LO := Lib.hid lO
  have hyI : (y : Int) < (O.length : Int) := by omega
  clear hO lO
  rcases o2.form with ⟨_, e0⟩ | ⟨g, cap, rfl, _, hgl, _, _, _, _⟩
  · exfalso
    rw [e0] at hyO
    simp at hyO
  have ck := o2.bool hyO
  have hg := Lib.hid (show O.getD y false = O[y] by rw [List.getD_eq_getElem?_getD, List.getElem?_eq_getElem hyO]; rfl)
  go_wp2
  go_ret
  refine ⟨ret_bool ?_, hbw2⟩
  rw [Bool.eq_iff_iff, H.out, ← HO.out, hg.out]
end Go.Proofs.Ytoccmpijfggmkaa
