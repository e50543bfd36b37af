/-
  copyPlan of the program, l06Copy of the reference: a plan whose edges lie in memory of its own.
-/
import Derived.Test.YtcapldjhcplfmaaAp
import Derived.Test.YtcapldjhcplfmaaEd
namespace Go.Proofs.Ytcapldjhcplfmaa
open Go.RowKit
set_option maxRecDepth 100000
set_option maxHeartbeats 1000000

theorem implCopy_any (p : Plan) (ve : Value) (w : World) (hl : p.edges.length ≤ 2000000) (h : Rd edgeE w w.heap.size ve p.edges) :
    Calls Try.prog 132 #[planV p ve] w (ToPlanPost p w) := by
  obtain ⟨A, c, rfl, -⟩ := id h
  obtain ⟨i0, hi0, hz0, hz1, hz2⟩ := info_parts edge_info
  have hbx : ∀ W, Below w.heap.size w W → Rd edgeE W W.heap.size (.slice A p.edges.length c) p.edges := fun W hW => (h.below hW).more hW.size
  unfold planV
  go_enter Try.func132, Try.ntmps132
  go_wp2_with (at_builtin; refine wpList_push_all _ edgeE (by decide) rfl (.const (.slice none 0 0)) (.tmp 4) rfl Try.underlying128 hi0 hz0 hz1 hz2 rfl (v := .slice none 0 0) (l := []) rfl (Ow.nil edgeE 190 _ (w.heap.size + 2)) rfl (hbx _ (((Below.refl _ _).alloc (by simp <;> omega) _).alloc (by simp <;> omega) _)) (by simp) (by omega) (by decide) (by simp) ?_; intro v1 w1 o1 g1 _; rw [List.nil_append] at o1; obtain ⟨A1, c1, rfl, -⟩ := id (Rd.of_own o1); have hb1 := (Below.refl (w.heap.size + 2) _).grown g1 (by simp <;> omega) (fun k hk => by simp [Value.ownBlock] at hk <;> omega); clear g1; have q1 : ∀ b o, b < w.heap.size + 2 → w1.cell? ⟨b, o, none⟩ = _ := fun b o h => hb1.cell (p := ⟨b, o, none⟩) h; have q2 : ∀ b o, b < w.heap.size + 2 → w1.frozen? ⟨b, o, none⟩ = _ := fun b o h => hb1.frozen (p := ⟨b, o, none⟩) h; have hs := hb1.size; simp only [World.size_alloc] at hs)
  have hW : Below w.heap.size w w1 := Below.trans (((Below.refl _ _).alloc (by simp <;> omega) _).alloc (by simp <;> omega) _) (hb1.mono (by omega))
  refine bodyPost_ret (v := planV p (.slice A1 p.edges.length c1)) ?_ rfl ?_
  · simp [planV, results, Try.results132, go_sem, q1]
  · refine ⟨.slice A1 p.edges.length c1, rfl, ?_, ?_⟩
    · refine Ow.more (base := w.heap.size + 2) ?_ (by omega)
      unfold Ow at o1 ⊢
      repeat (first | (with_reducible exact o1) | refine ownsRow_setCell_below ?_ (by simp <;> omega) _)
    · repeat (first | (with_reducible exact hW) | refine Below.setCell ?_ (by simp <;> omega) _)

theorem specCopy_any (p : Plan) (ve : Value) (w : World) (hl : p.edges.length ≤ 2000000) (h : Rd edgeE w w.heap.size ve p.edges) :
    Calls Try.prog 130 #[planV p ve] w (ToPlanPost p w) := by
  obtain ⟨A, c, rfl, -⟩ := id h
  obtain ⟨i0, hi0, hz0, hz1, hz2⟩ := info_parts edge_info
  have hbx : ∀ W, Below w.heap.size w W → Rd edgeE W W.heap.size (.slice A p.edges.length c) p.edges := fun W hW => (h.below hW).more hW.size
  unfold planV
  go_enter Try.func130, Try.ntmps130
  go_wp2_with (at_builtin; refine wpList_push_all _ edgeE (by decide) rfl (.tmp 3) (.tmp 5) rfl Try.underlying128 hi0 hz0 hz1 hz2 rfl (v := .slice (some ⟨w.heap.size + 1 + 1, 0, none⟩) 0 0) (l := []) rfl ((Ow.empty edgeE 190 _ (by simp)).more (base' := w.heap.size + 2) (by omega)) rfl (hbx _ ((((Below.refl _ _).alloc (by simp <;> omega) _).alloc (by simp <;> omega) _).alloc (by simp <;> omega) _)) (by simp) (by omega) (by decide) (by simp) ?_; intro v1 w1 o1 g1 _; rw [List.nil_append] at o1; obtain ⟨A1, c1, rfl, -⟩ := id (Rd.of_own o1); have hb1 := ((Below.refl (w.heap.size + 2) _).alloc (by simp <;> omega) _).grown g1 (by simp <;> omega) (fun k hk => by simp [Value.ownBlock] at hk <;> omega); clear g1; have q1 : ∀ b o, b < w.heap.size + 2 → w1.cell? ⟨b, o, none⟩ = _ := fun b o h => hb1.cell (p := ⟨b, o, none⟩) h; have q2 : ∀ b o, b < w.heap.size + 2 → w1.frozen? ⟨b, o, none⟩ = _ := fun b o h => hb1.frozen (p := ⟨b, o, none⟩) h; have hs := hb1.size; simp only [World.size_alloc] at hs)
  have hW : Below w.heap.size w w1 := Below.trans (((Below.refl _ _).alloc (by simp <;> omega) _).alloc (by simp <;> omega) _) (hb1.mono (by omega))
  refine bodyPost_ret (v := planV p (.slice A1 p.edges.length c1)) ?_ rfl ?_
  · simp [planV, results, Try.results130, go_sem, q1]
  · refine ⟨.slice A1 p.edges.length c1, rfl, ?_, ?_⟩
    · refine Ow.more (base := w.heap.size + 2) ?_ (by omega)
      unfold Ow at o1 ⊢
      repeat (first | (with_reducible exact o1) | refine ownsRow_setCell_below ?_ (by simp <;> omega) _)
    · repeat (first | (with_reducible exact hW) | refine Below.setCell ?_ (by simp <;> omega) _)
end Go.Proofs.Ytcapldjhcplfmaa
