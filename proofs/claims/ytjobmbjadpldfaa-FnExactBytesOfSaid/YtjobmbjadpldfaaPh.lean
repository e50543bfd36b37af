/-
  Walks of the helpers of the laws on plans: sz, to, eq.
-/
import Derived.Test.YtjobmbjadpldfaaPl
namespace Go.Proofs.Ytjobmbjadpldfaa
open Go.RowKit
set_option maxRecDepth 100000
set_option maxHeartbeats 1000000

theorem szPlan_any (p : Plan) (ve : Value) (left : Int) (w : World) (h0 : 0 ≤ left) (h1 : left ≤ 2000000) (hl : p.edges.length ≤ 9223372036854775807) (h : Rd edgeE w w.heap.size ve p.edges) :
    Calls Try.prog 54 #[planV p ve, .int .i64 left] w (SzPost left p.edges.length w) := by
  have hb0 := planBox_below 64 p ve w
  unfold planV
  go_enter Try.func54, Try.ntmps54
  go_wp2_with fail
  refine (szEdgeS_any ve p.edges left _ h0 h1 hl ((h.below hb0).more hb0.size)).mono ?_
  rintro e w1 ⟨r, rfl, hr, hb1⟩
  rcases hr with rfl | ⟨r0, r1⟩
  · go_wp2
    go_ret
    exact ⟨-1, rfl, .inl rfl, bnext hb0 hb1⟩
  · go_wp2
    go_ret
    exact ⟨r, rfl, .inr ⟨r0, r1⟩, bnext hb0 hb1⟩

/-- a plan of the call's own -/
def ToPlanPost (p : Plan) (w : World) (e : Ending) (w' : World) : Prop := ∃ v, e = .returned (planV p v) ∧ Ow edgeE 126 w' w.heap.size v p.edges ∧ Below w.heap.size w w'

theorem toPlan_any (p : Plan) (ve : Value) (w : World) (hl : p.edges.length ≤ 2000000) (h : Rd edgeE w w.heap.size ve p.edges) :
    Calls Try.prog 59 #[planV p ve] w (ToPlanPost p w) := by
  have hbx : ∀ W, Below w.heap.size w W → Rd edgeE W W.heap.size ve p.edges := fun W hW => (h.below hW).more hW.size
  unfold planV
  go_enter Try.func59, Try.ntmps59
  go_wp2_with fail
  refine (toEdgeS_any ve p.edges _ hl (hbx _ (by repeat (first | exact Below.refl _ _ | refine Below.alloc ?_ (by simp <;> omega) _)))).mono ?_
  rintro e w1 ⟨v1, rfl, o1, hb1⟩
  obtain ⟨q1, q2⟩ := bcell hb1
  have hs := hb1.size
  simp only [World.size_alloc] at hs
  have hW : Below w.heap.size w w1 := bnext (by repeat (first | exact Below.refl _ _ | refine Below.alloc ?_ (by simp <;> omega) _)) hb1
  rcases o1.form with ⟨e1, _⟩ | ⟨g, cap, e1, _⟩
  all_goals
    subst e1
    go_wp2
  · have o2 : Ow edgeE 126 w1 w.heap.size (.slice none 0 0) p.edges := Ow.more o1 (by simp only [World.size_alloc]; omega)
    have hnil : p.edges = [] := by
      rcases o2.form with ⟨_, e⟩ | ⟨_, _, e, _⟩
      · exact e
      · cases e
    refine bodyPost_ret (v := planV p (.slice none 0 0)) ?_ rfl ?_
    · simp [planV, results, Try.results59, go_sem, q1]
    · refine ⟨.slice none 0 0, rfl, ?_, ?_⟩
      · rw [hnil]
        exact Ow.nil _ _ _ _
      · repeat (first | (with_reducible exact hW) | refine Below.setCell ?_ (by simp <;> omega) _)
  · have o2 : Ow edgeE 126 w1 (w.heap.size + 3) (.slice (some ⟨g, 0, none⟩) p.edges.length cap) p.edges := Ow.more o1 (by simp only [World.size_alloc]; omega)
    refine bodyPost_ret (v := planV p (.slice (some ⟨g, 0, none⟩) p.edges.length cap)) ?_ rfl ?_
    · simp [planV, results, Try.results59, go_sem, q1]
    · refine ⟨.slice (some ⟨g, 0, none⟩) p.edges.length cap, rfl, ?_, ?_⟩
      · refine Ow.more (base := w.heap.size + 3) ?_ (by omega)
        unfold Ow at o2 ⊢
        repeat (first | (with_reducible exact o2) | refine ownsRow_setCell_below ?_ (by simp <;> omega) _)
      · repeat (first | (with_reducible exact hW) | refine Below.setCell ?_ (by simp <;> omega) _)

theorem eqPlan_any (p q : Plan) (ve vf : Value) (w : World) (hl : p.edges.length ≤ 2000000) (hl' : q.edges.length ≤ 2000000) (h : Rd edgeE w w.heap.size ve p.edges) (h' : Rd edgeE w w.heap.size vf q.edges) :
    Calls Try.prog 65 #[planV p ve, planV q vf] w fun e w' => e = .returned (.bool (decide (p = q))) ∧ Below w.heap.size w w' := by
  have hb0 : Below w.heap.size w ((w.alloc (.cells #[.int .i64 p.prio, .int .i64 p.most, .int .i64 p.wait, .int .i64 p.tasks, ve] 72)).alloc (.cells #[.int .i64 q.prio, .int .i64 q.most, .int .i64 q.wait, .int .i64 q.tasks, vf] 72)) := by repeat (first | exact Below.refl _ _ | refine Below.alloc ?_ (by simp <;> omega) _)
  unfold planV
  by_cases h0 : p.prio = q.prio
  case neg =>
    have t0 : (p.prio != q.prio) = true := by rw [bne_iff_ne]; exact h0
    have H := Lib.hid (show decide (p = q) = false by simp only [decide_eq_false_iff_not]; intro e; exact h0 (by rw [e]))
    go_enter Try.func65, Try.ntmps65
    go_wp2
    go_ret
    exact ⟨ret_bool (by first | exact H.out.symm | rfl), by repeat (first | exact Below.refl _ _ | refine Below.alloc ?_ (by simp <;> omega) _)⟩
  have t0 : (p.prio != q.prio) = false := by simp [h0]
  by_cases h1 : p.most = q.most
  case neg =>
    have t1 : (p.most != q.most) = true := by rw [bne_iff_ne]; exact h1
    have H := Lib.hid (show decide (p = q) = false by simp only [decide_eq_false_iff_not]; intro e; exact h1 (by rw [e]))
    go_enter Try.func65, Try.ntmps65
    go_wp2
    go_ret
    exact ⟨ret_bool (by first | exact H.out.symm | rfl), by repeat (first | exact Below.refl _ _ | refine Below.alloc ?_ (by simp <;> omega) _)⟩
  have t1 : (p.most != q.most) = false := by simp [h1]
  by_cases h2 : p.wait = q.wait
  case neg =>
    have t2 : (p.wait != q.wait) = true := by rw [bne_iff_ne]; exact h2
    have H := Lib.hid (show decide (p = q) = false by simp only [decide_eq_false_iff_not]; intro e; exact h2 (by rw [e]))
    go_enter Try.func65, Try.ntmps65
    go_wp2
    go_ret
    exact ⟨ret_bool (by first | exact H.out.symm | rfl), by repeat (first | exact Below.refl _ _ | refine Below.alloc ?_ (by simp <;> omega) _)⟩
  have t2 : (p.wait != q.wait) = false := by simp [h2]
  by_cases h3 : p.tasks = q.tasks
  case neg =>
    have t3 : (p.tasks != q.tasks) = true := by rw [bne_iff_ne]; exact h3
    have H := Lib.hid (show decide (p = q) = false by simp only [decide_eq_false_iff_not]; intro e; exact h3 (by rw [e]))
    go_enter Try.func65, Try.ntmps65
    go_wp2
    go_ret
    exact ⟨ret_bool (by first | exact H.out.symm | rfl), by repeat (first | exact Below.refl _ _ | refine Below.alloc ?_ (by simp <;> omega) _)⟩
  have t3 : (p.tasks != q.tasks) = false := by simp [h3]
  have H := Lib.hid (show decide (p.edges = q.edges) = decide (p = q) from decide_eq_decide.2 ⟨fun e => by cases p; cases q; simp_all, fun e => by rw [e]⟩)
  clear h0 h1 h2 h3
  go_enter Try.func65, Try.ntmps65
  go_wp2_with fail
  refine (eqEdgeS_any ve vf p.edges q.edges _ hl hl' ((h.below hb0).more hb0.size) ((h'.below hb0).more hb0.size)).mono ?_
  rintro e w1 ⟨rfl, hb1⟩
  rw [H.out]
  cases hd : decide (p = q)
  all_goals
    go_wp2
    go_ret
    exact ⟨ret_bool (by first | rfl | exact hd.symm | simp), bnext hb0 hb1⟩
end Go.Proofs.Ytjobmbjadpldfaa
