/-
  isTask and Reaches of the program.
-/
import Derived.Test.YtoccmpijfggmkaaPj
import Derived.Test.YtoccmpijfggmkaaPs
import Derived.Test.YtoccmpijfggmkaaBx
namespace Go.Proofs.Ytoccmpijfggmkaa
open Go.RowKit
set_option maxRecDepth 100000
set_option maxHeartbeats 1000000

noncomputable def isTaskB (p : Plan) (t : Int) : Bool := decide (planFault p = 0) && inB t 0 (p.tasks - 1)
open Classical in
noncomputable def reachB (p : Plan) (a b : Int) : Bool := isTaskB p a && (isTaskB p b && decide (Pg.Reach (esOf p) a.toNat b.toNat))

theorem isTask_any (p : Plan) (ve : Value) (t : Int) (w : World) (hl : p.edges.length ≤ 2000000) (h : Rd edgeE w w.heap.size ve p.edges) :
    Calls Try.prog 138 #[planV p ve, .int .i64 t] w fun e w' => e = .returned (.bool (isTaskB p t)) ∧ Below w.heap.size w w' := by
  have hb0 := planBox_below 47 p ve w
  by_cases hf : planFault p = 0
  · obtain ⟨t1, t2⟩ := manyOk_tasks (planFault_zero.1 hf).1
    have hfb : (planFault p == 0) = true := by simp [hf]
    have H := Lib.hid (show isTaskB p t = inB t 0 (p.tasks - 1) by simp [isTaskB, hf])
    clear hf
    unfold planV
    go_enter Try.func138, Try.ntmps138
    go_wp2_with fail
    refine (implPlanFault_any p ve _ hl ((h.below hb0).more hb0.size)).mono ?_
    rintro e w1 ⟨rfl, hb1⟩
    obtain ⟨x0, x1, x2, x3, x4, hs, hbw⟩ := planBox_cells (T := 47) (p := p) (ve := ve) (w := w) hb1
    go_wp2_with (go_at_call 114; refine (within_any _ _ _ _).mono ?_; rintro e w' ⟨rfl, rfl⟩)
    go_ret
    exact ⟨ret_bool H.out.symm, hbw⟩
  · have hfb : (planFault p == 0) = false := by simp [hf]
    have H := Lib.hid (show isTaskB p t = false by simp [isTaskB, hf])
    clear hf
    unfold planV
    go_enter Try.func138, Try.ntmps138
    go_wp2_with fail
    refine (implPlanFault_any p ve _ hl ((h.below hb0).more hb0.size)).mono ?_
    rintro e w1 ⟨rfl, hb1⟩
    go_wp2
    go_ret
    exact ⟨ret_bool H.out.symm, bnext hb0 hb1⟩

theorem isTask_nat {p : Plan} {t : Int} (h : isTaskB p t = true) : planFault p = 0 ∧ 0 ≤ t ∧ t < p.tasks ∧ t.toNat < p.tasks.toNat := by
  simp only [isTaskB, Bool.and_eq_true, decide_eq_true_eq, inB_iff] at h
  refine ⟨h.1, by omega, by omega, by omega⟩

theorem reachB_iff {p : Plan} (h0 : planFault p = 0) {a b : Nat} (ha : a < p.tasks.toNat) (hb : b < p.tasks.toNat) : reachB p a b = true ↔ Pg.Reach (esOf p) a b := by
  have h1 : isTaskB p a = true := by simp [isTaskB, h0, inB_iff]; omega
  have h2 : isTaskB p b = true := by simp [isTaskB, h0, inB_iff]; omega
  simp [reachB, h1, h2]

theorem implReaches_any (p : Plan) (ve : Value) (a b : Int) (w : World) (hl : p.edges.length ≤ 2000000) (h : Rd edgeE w w.heap.size ve p.edges) :
    Calls Try.prog 81 #[planV p ve, .int .i64 a, .int .i64 b] w fun e w' => e = .returned (.bool (reachB p a b)) ∧ Below w.heap.size w w' := by
  have hb0 := planBox_below 47 p ve w
  cases h1 : isTaskB p a
  · have H := Lib.hid (show reachB p a b = false by simp [reachB, h1])
    have H1 := Lib.hid h1
    clear h1
    unfold planV
    go_enter Try.func81, Try.ntmps81
    go_wp2_with fail
    refine (isTask_any p ve a _ hl ((h.below hb0).more hb0.size)).mono ?_
    rintro e w1 ⟨rfl, hb1⟩
    rw [H1.out]
    go_wp2
    go_ret
    exact ⟨ret_bool H.out.symm, bnext hb0 hb1⟩
  · cases h2 : isTaskB p b
    · have H := Lib.hid (show reachB p a b = false by simp [reachB, h2])
      have H1 := Lib.hid h1
      have H2 := Lib.hid h2
      clear h1 h2
      unfold planV
      go_enter Try.func81, Try.ntmps81
      go_wp2_with fail
      refine (isTask_any p ve a _ hl ((h.below hb0).more hb0.size)).mono ?_
      rintro e w1 ⟨rfl, hb1⟩
      rw [H1.out]
      obtain ⟨x0, x1, x2, x3, x4, hs, hbw⟩ := planBox_cells (T := 47) (p := p) (ve := ve) (w := w) hb1
      go_wp2_with fail
      clear x0 x1 x2 x3 x4
      refine (isTask_any p ve b _ hl ((h.below hbw).more hbw.size)).mono ?_
      rintro e w2 ⟨rfl, hb2⟩
      rw [H2.out]
      go_wp2
      go_ret
      exact ⟨ret_bool H.out.symm, bnext hbw hb2⟩
    · obtain ⟨g0, a0, a1, a2⟩ := isTask_nat h1
      obtain ⟨-, b0, b1, b2⟩ := isTask_nat h2
      obtain ⟨x, rfl⟩ := Int.eq_ofNat_of_zero_le a0
      obtain ⟨y, rfl⟩ := Int.eq_ofNat_of_zero_le b0
      have G0 := Lib.hid (planFault_zero.1 g0)
      obtain ⟨t1, t2⟩ := manyOk_tasks G0.out.1
      obtain ⟨T, hT⟩ := Int.eq_ofNat_of_zero_le (show 0 ≤ p.tasks by omega)
      have hTT : p.tasks.toNat = T := by omega
      have hxT : x < T := by omega
      have hyT : y < T := by omega
      have hT2 : T ≤ 12 := by omega
      have H := Lib.hid (show reachB p x y = @decide (Pg.Reach (esOf p) x y) (Classical.propDecidable _) by
        unfold reachB
        simp [h1, h2])
      have H1 := Lib.hid h1
      have H2 := Lib.hid h2
      have hiff := Lib.hid (Pg.wrounds_iff (esOf p) T (by rw [← hTT]; exact (esOf_lt G0.out.2.1).1) (by rw [← hTT]; exact (esOf_lt G0.out.2.1).2) x y)
      have hOl : (Pg.wrounds (esOf p) T (List.replicate T 0)).length = T := by rw [Pg.wrounds_length, List.length_replicate]
      have hsm : ∀ x ∈ Pg.wrounds (esOf p) T (List.replicate T 0), x < 2 ^ T := Pg.wrounds_lt T _ _ (by rw [← hTT]; exact (esOf_lt G0.out.2.1).2) (fun x hx => by
            have := List.eq_of_mem_replicate hx
            subst this
            exact Nat.two_pow_pos T) T
      have HT := Lib.hid hTT
      clear h1 h2 g0 hT a0 b0 a1 b1 a2 b2 hTT
      unfold planV
      go_enter Try.func81, Try.ntmps81
      go_wp2_with fail
      refine (isTask_any p ve x _ hl ((h.below hb0).more hb0.size)).mono ?_
      rintro e w1 ⟨rfl, hb1⟩
      rw [H1.out]
      obtain ⟨x0, x1, x2, x3, x4, hs, hbw⟩ := planBox_cells (T := 47) (p := p) (ve := ve) (w := w) hb1
      go_wp2_with fail
      clear x0 x1 x2 x3 x4
      refine (isTask_any p ve y _ hl ((h.below hbw).more hbw.size)).mono ?_
      rintro e w2 ⟨rfl, hb2⟩
      rw [H2.out]
      have hbw2 := bnext hbw hb2
      obtain ⟨x0, x1, x2, x3, x4, hs2, -⟩ := planBox_cells (T := 47) (p := p) (ve := ve) (w := w) (bnext hb1 hb2)
      go_wp2_with fail
      clear x0 x1 x2 x3 x4
      refine (waits_any p ve _ G0.out.1 G0.out.2.1 ((h.below hbw2).more hbw2.size)).mono ?_
      rintro e w3 ⟨v1, rfl, o1, hb3⟩
      have hbw3 := bnext hbw2 hb3
      rw [HT.out] at o1
      generalize Pg.wrounds (esOf p) T (List.replicate T 0) = O at *
      rcases o1.form with ⟨_, e0⟩ | ⟨g, cap, rfl, _, hgl, _, _, _, _⟩
      · exfalso
        rw [e0] at hOl
        simp at hOl
        omega
      rw [hOl] at o1
      rw [hOl]
      have HOl := Lib.hid hOl
      clear hOl
      have ck := o1.nat (k := x) (by rw [HOl.out]; exact hxT)
      have hkO : x < O.length := by rw [HOl.out]; exact hxT
      have hx : O[x] < 9223372036854775808 := Nat.lt_of_lt_of_le (hsm _ (List.getElem_mem hkO)) (Nat.le_trans (Nat.pow_le_pow_right (by omega) hT2) (by decide))
      have hbt := bit_test O[x] y hx
      have hg : Hid (O.getD x 0 = O[x]) := by unfold Hid; rw [List.getD_eq_getElem?_getD, List.getElem?_eq_getElem hkO]; rfl
      have hfin : Hid (reachB p x y = O[x].testBit y) := by
        show reachB p x y = _
        rw [H.out, ← hg.out, Bool.eq_iff_iff]
        exact (@decide_eq_true_iff _ (Classical.propDecidable _)).trans hiff.out.symm
      have hxI : (x : Int) < (T : Int) := by omega
      clear hsm
      go_wp2
      go_ret
      exact ⟨ret_bool hfin.out.symm, hbw3⟩
end Go.Proofs.Ytoccmpijfggmkaa
