/-
  Beside of the program.
-/
import Derived.Test.YtoccmpijfggmkaaJo
namespace Go.Proofs.Ytoccmpijfggmkaa
open Go.RowKit
set_option maxRecDepth 100000
set_option maxHeartbeats 2000000

theorem joined_len {p q : Plan} {m : List Edge} : (joined p q m).1.edges.length ≤ p.edges.length + q.edges.length + m.length := by
  unfold joined
  split
  · have := joinL_len p q q.edges.length
    simp only [joinP, List.length_append]
    omega
  · simp [zeroPlan]

theorem implBeside_any (p : Plan) (ve : Value) (q : Plan) (vf : Value) (w : World) (hl : p.edges.length ≤ 2000000) (hl' : q.edges.length ≤ 2000000) (h : Rd edgeE w w.heap.size ve p.edges) (h' : Rd edgeE w w.heap.size vf q.edges) :
    Calls Try.prog 67 #[planV p ve, planV q vf] w (JoinPost (joined p q []) w) := by
  obtain ⟨W, hWe, D, E, Z, hW, hsz⟩ := threeBox_at p ve q vf w
  unfold twoBox planBox at hWe
  have HWe := Lib.hid hWe
  have Hsz := Lib.hid hsz
  clear hWe hsz
  unfold planV
  go_enter Try.func67, Try.ntmps67
  go_wp2_with fail
  rw [← HWe.out]
  refine (implJoined_any p ve q vf _ [] _ hl hl' (by simp) ((h.below hW).more hW.size) ((h'.below hW).more hW.size) (Rd.nil edgeE _ _ 0)).mono ?_
  rintro e w1 ⟨v1, rfl, o1, b1⟩
  obtain ⟨A1, c1, rfl, -⟩ := id (Rd.of_own o1)
  have hz := Z.lt
  have o1 := o1.more (base' := w.heap.size + 3) (by rw [Hsz.out]; omega)
  obtain ⟨z0, z1, z2, z3, z4, zs⟩ := (Z.below b1).cells
  have zf := (Z.below b1).free
  have hW := bnext hW b1
  go_wp2
  refine bodyPost_ret (v := .tuple #[planV (joined p q []).1 (.slice A1 (joined p q []).1.edges.length c1), .bool (joined p q []).2]) ?_ rfl ⟨.slice A1 (joined p q []).1.edges.length c1, rfl, ?_, ?_⟩
  · simp [planV, zeroPlan, results, Try.results67, go_sem, *]
  · refine Ow.more (base := w.heap.size + 3) ?_ (by omega)
    unfold Ow at o1 ⊢
    repeat (first | (with_reducible exact o1) | refine ownsRow_setCell_below ?_ (by simp <;> omega) _)
  · repeat (first | (with_reducible exact hW) | refine Below.setCell ?_ (by simp <;> omega) _)
end Go.Proofs.Ytoccmpijfggmkaa
