/-
  Copies of deeds, notes and lists of them, in memory of the call's own.
-/
import Derived.Test.YtcapldjhcplfmaaTSeg
import Derived.Test.YtcapldjhcplfmaaCp
import Derived.Deep.RegionHeld3
namespace Go.Proofs.Ytcapldjhcplfmaa
open Go.RowKit
set_option maxRecDepth 100000
set_option maxHeartbeats 400000
set_option linter.unusedVariables false
set_option linter.unusedSimpArgs false

theorem edge_rd {w : World} {B : Nat} {v : Value} {l : List Edge} (h : RdL edgeD w B v l) : Rd edgeE w B v l := by
  obtain ⟨rs, rfl, ⟨A, c, rfl, hc, hA⟩, _⟩ := h
  refine ⟨A, c, by rw [List.length_map], by rw [List.length_map]; exact hc, fun hl => ?_⟩
  rw [List.length_map] at hl
  obtain ⟨b, o, h1, h2, h3⟩ := hA hl
  refine ⟨b, o, h1, h2, fun k hk j u hu => ?_⟩
  rw [List.getElem_map] at hu
  exact h3 k (by rw [List.length_map] at hk; exact hk) j u hu
theorem edge_ows (w : World) : ∀ l : List Edge, Ows edgeD w [] (l.map fun x => (x, ()))
  | [] => .nil
  | x :: l => by
    have := Ows.cons (d := edgeD) (w := w) (F := []) (r := (x, ())) rfl (edge_ows w l)
    exact this
theorem edge_ow {w : World} {E : TypeId} {base : Nat} {v : Value} {l : List Edge} (h : Ow edgeE E w base v l) : ∃ (s : Sl) (F : List Nat), v = .slice s.a s.n s.c ∧ OwL edgeD w F s.v l ∧ ∀ b ∈ F, base ≤ b := by
  obtain ⟨h1, h2⟩ := Hw.of_ow h
  obtain ⟨⟨A, c, hv, hc, hA⟩, hF, hf⟩ := id h1
  subst hv
  refine ⟨⟨A, l.length, c⟩, _, rfl, ⟨l.map fun x => (x, ()), blocks (.slice A l.length c) l.length, [], by rw [List.map_map]; exact List.map_id _, ⟨⟨A, c, by rw [List.length_map], by rw [List.length_map]; exact hc, fun hl => ?_⟩, by rw [List.length_map], hf⟩, edge_ows w l, (List.append_nil _).symm, h1.nodup⟩, h2⟩
  rw [List.length_map] at hl
  obtain ⟨b, o, h3, h4, h5⟩ := hA hl
  refine ⟨b, o, h3, h4, fun k hk j u hu => ?_⟩
  rw [List.getElem_map] at hu
  exact h5 k (by rw [List.length_map] at hk; exact hk) j u hu

theorem plan_own_of {x : Plan} {w : World} {e : Ending} {w' : World} (h : ToPlanPost x w e w') : OwnPost planD planW x w e w' := by
  obtain ⟨v, rfl, h1, h2⟩ := h
  obtain ⟨s, F, rfl, h3, h4⟩ := edge_ow h1
  exact ⟨s, F, rfl, h3, h4, h2⟩
theorem implCopyPlan_own (x : Plan) (s : Sl) (w : World) (hl : cntPlan x ≤ 2000000) (h : planD.rd w w.heap.size x s) :
    Calls Try.prog 132 #[planW x s] w (OwnPost planD planW x w) :=
  (implCopy_any x s.v w (Nat.le_trans (cntL_len _ _) hl) (edge_rd h)).mono fun _ _ => plan_own_of
theorem specCopyPlan_own (x : Plan) (s : Sl) (w : World) (hl : cntPlan x ≤ 2000000) (h : planD.rd w w.heap.size x s) :
    Calls Try.prog 130 #[planW x s] w (OwnPost planD planW x w) :=
  (specCopy_any x s.v w (Nat.le_trans (cntL_len _ _) hl) (edge_rd h)).mono fun _ _ => plan_own_of

theorem implCopyDeed_own (x : Deed) (s : Sl) (w : World) (hl : cntDeed x ≤ 2000000) (h : deedD.rd w w.heap.size x s) :
    Calls Try.prog 89 #[deedW x s] w (OwnPost deedD deedW x w) := by
  have hbx : ∀ W, Below w.heap.size w W → deedD.rd W W.heap.size x s := fun W hW => deedD.rd_more (deedD.rd_below h hW) hW.size
  go_enter Try.func89, Try.ntmps89
  go_wp2_with fail
  refine (implCopyPlan_own x.plan s _ (by unfold cntDeed at hl; omega) (hbx _ (by repeat (first | exact Below.refl _ _ | refine Below.alloc ?_ (by simp <;> omega) _)))).mono ?_
  rintro e w0 ⟨s0, F0, rfl, o0, n0, hb0⟩
  obtain ⟨q0, p0⟩ := bcell hb0
  have z0 := hb0.size
  simp only [World.size_alloc, World.size_setCell] at z0 n0
  have B0 : Below w.heap.size w w0 := bnext (by repeat (first | exact Below.refl _ _ | refine Below.alloc ?_ (by simp <;> omega) _)) hb0
  have k0 : w0.cell? ⟨w.heap.size, 0, none⟩ = some (.int .i64 x.kind) := by rw [q0 _ _ (by simp <;> omega)]; simp [go_sem]
  have k1 : w0.cell? ⟨w.heap.size, 1, none⟩ = some (.int .i64 x.run) := by rw [q0 _ _ (by simp <;> omega)]; simp [go_sem]
  have k2 : w0.cell? ⟨w.heap.size, 2, none⟩ = some (.int .i64 x.plan.prio) := by rw [q0 _ _ (by simp <;> omega)]; simp [go_sem]
  have k3 : w0.cell? ⟨w.heap.size, 3, none⟩ = some (.int .i64 x.plan.most) := by rw [q0 _ _ (by simp <;> omega)]; simp [go_sem]
  have k4 : w0.cell? ⟨w.heap.size, 4, none⟩ = some (.int .i64 x.plan.wait) := by rw [q0 _ _ (by simp <;> omega)]; simp [go_sem]
  have k5 : w0.cell? ⟨w.heap.size, 5, none⟩ = some (.int .i64 x.plan.tasks) := by rw [q0 _ _ (by simp <;> omega)]; simp [go_sem]
  have k6 : w0.cell? ⟨w.heap.size, 6, none⟩ = some (.slice s.a s.n s.c) := by rw [q0 _ _ (by simp <;> omega)]; simp [go_sem]
  have k7 : w0.cell? ⟨w.heap.size, 7, none⟩ = some (.int .i64 x.task) := by rw [q0 _ _ (by simp <;> omega)]; simp [go_sem]
  have k8 : w0.cell? ⟨w.heap.size, 8, none⟩ = some (.int .i64 x.try_) := by rw [q0 _ _ (by simp <;> omega)]; simp [go_sem]
  have k9 : w0.cell? ⟨w.heap.size, 9, none⟩ = some (.int .i64 x.worker) := by rw [q0 _ _ (by simp <;> omega)]; simp [go_sem]
  have k10 : w0.cell? ⟨w.heap.size, 10, none⟩ = some (.int .i64 x.draw) := by rw [q0 _ _ (by simp <;> omega)]; simp [go_sem]
  go_wp2
  refine bodyPost_ret (v := deedW x s0) ?_ rfl ?_
  · simp [deedW, results, Try.results89, go_sem, q0]
  · refine ⟨s0, F0, rfl, ?_, ?_, ?_⟩
    · repeat (first | (with_reducible exact o0) | refine Dt.ow_set planD ?_ (by intro hm; have := n0 _ hm; (try simp only [World.size_alloc, World.size_setCell] at this); omega) _)
    · intro b hb
      have := n0 b hb
      omega
    · repeat (first | (with_reducible exact B0) | (with_reducible exact Below.refl _ _) | refine Below.setCell ?_ (by simp <;> omega) _ | refine Below.alloc ?_ (by simp <;> omega) _)

theorem specNote_own (x : Note) (s : Sl) (w : World) (hl : cntNote x ≤ 2000000) (h : noteD.rd w w.heap.size x s) :
    Calls Try.prog 142 #[noteW x s] w (OwnPost noteD noteW x w) := by
  have hbx : ∀ W, Below w.heap.size w W → noteD.rd W W.heap.size x s := fun W hW => noteD.rd_more (noteD.rd_below h hW) hW.size
  go_enter Try.func142, Try.ntmps142
  go_wp2_with fail
  refine (specCopyPlan_own x.deed.plan s _ (by unfold cntNote cntDeed at hl; omega) (hbx _ (by repeat (first | exact Below.refl _ _ | refine Below.alloc ?_ (by simp <;> omega) _)))).mono ?_
  rintro e w0 ⟨s0, F0, rfl, o0, n0, hb0⟩
  obtain ⟨q0, p0⟩ := bcell hb0
  have z0 := hb0.size
  simp only [World.size_alloc, World.size_setCell] at z0 n0
  have B0 : Below w.heap.size w w0 := bnext (by repeat (first | exact Below.refl _ _ | refine Below.alloc ?_ (by simp <;> omega) _)) hb0
  have k0 : w0.cell? ⟨w.heap.size, 0, none⟩ = some (.int .i64 x.seq) := by rw [q0 _ _ (by simp <;> omega)]; simp [go_sem]
  have k1 : w0.cell? ⟨w.heap.size, 1, none⟩ = some (.int .i64 x.deed.kind) := by rw [q0 _ _ (by simp <;> omega)]; simp [go_sem]
  have k2 : w0.cell? ⟨w.heap.size, 2, none⟩ = some (.int .i64 x.deed.run) := by rw [q0 _ _ (by simp <;> omega)]; simp [go_sem]
  have k3 : w0.cell? ⟨w.heap.size, 3, none⟩ = some (.int .i64 x.deed.plan.prio) := by rw [q0 _ _ (by simp <;> omega)]; simp [go_sem]
  have k4 : w0.cell? ⟨w.heap.size, 4, none⟩ = some (.int .i64 x.deed.plan.most) := by rw [q0 _ _ (by simp <;> omega)]; simp [go_sem]
  have k5 : w0.cell? ⟨w.heap.size, 5, none⟩ = some (.int .i64 x.deed.plan.wait) := by rw [q0 _ _ (by simp <;> omega)]; simp [go_sem]
  have k6 : w0.cell? ⟨w.heap.size, 6, none⟩ = some (.int .i64 x.deed.plan.tasks) := by rw [q0 _ _ (by simp <;> omega)]; simp [go_sem]
  have k7 : w0.cell? ⟨w.heap.size, 7, none⟩ = some (.slice s.a s.n s.c) := by rw [q0 _ _ (by simp <;> omega)]; simp [go_sem]
  have k8 : w0.cell? ⟨w.heap.size, 8, none⟩ = some (.int .i64 x.deed.task) := by rw [q0 _ _ (by simp <;> omega)]; simp [go_sem]
  have k9 : w0.cell? ⟨w.heap.size, 9, none⟩ = some (.int .i64 x.deed.try_) := by rw [q0 _ _ (by simp <;> omega)]; simp [go_sem]
  have k10 : w0.cell? ⟨w.heap.size, 10, none⟩ = some (.int .i64 x.deed.worker) := by rw [q0 _ _ (by simp <;> omega)]; simp [go_sem]
  have k11 : w0.cell? ⟨w.heap.size, 11, none⟩ = some (.int .i64 x.deed.draw) := by rw [q0 _ _ (by simp <;> omega)]; simp [go_sem]
  go_wp2
  refine bodyPost_ret (v := noteW x s0) ?_ rfl ?_
  · simp [noteW, results, Try.results142, go_sem, q0]
  · refine ⟨s0, F0, rfl, ?_, ?_, ?_⟩
    · repeat (first | (with_reducible exact o0) | refine Dt.ow_set planD ?_ (by intro hm; have := n0 _ hm; (try simp only [World.size_alloc, World.size_setCell] at this); omega) _)
    · intro b hb
      have := n0 b hb
      omega
    · repeat (first | (with_reducible exact B0) | (with_reducible exact Below.refl _ _) | refine Below.setCell ?_ (by simp <;> omega) _ | refine Below.alloc ?_ (by simp <;> omega) _)

theorem Bld.push1 {α : Type} {d : Dt α} {E : TypeId} {w w1 w2 w5 : World} {base : Nat} {v v5 : Value} {rs : List (α × d.S)} {x : α} {s : d.S} {F : List Nat} (h : Bld d E w base v rs) (hb : Below w.heap.size w w1) (o1 : d.ow w1 F x s) (n1 : ∀ b ∈ F, w.heap.size ≤ b)
    (hbase : base ≤ w.heap.size) (hb2 : Below w1.heap.size w1 w2) (o5 : Ow d.enc E w5 base v5 (rs ++ [(x, s)])) (g5 : w2.grownBy w5 v.ownBlock) (f5 : v5.ownBlock = v.ownBlock ∨ v5.ownBlock = some w2.heap.size) : Bld d E w5 base v5 (rs ++ [(x, s)]) := by
  refine Bld.push h (bnext hb hb2) (Ows.one (r := (x, s)) (d.ow_below o1 hb2)) n1 (d.ow_nodup o1) hbase o5 g5 ?_
  rcases f5 with f5 | f5
  · exact .inl f5
  · exact .inr ⟨_, f5, Nat.le_refl _⟩
/-- a list under building -/
def Bls {α : Type} (d : Dt α) (E : TypeId) (w : World) (base : Nat) (v : Value) (l : List α) : Prop := ∃ rs, rs.map (·.1) = l ∧ Bld d E w base v rs
theorem Bls.own {α : Type} {d : Dt α} {E : TypeId} {w w' : World} {v : Value} {l : List α} (h : Bls d E w' w.heap.size v l) (hb : Below w.heap.size w w') : OwnPost (Dt.list d) slV l w (.returned v) w' := by
  obtain ⟨rs, hm, hB⟩ := h
  obtain ⟨F, h1, h2⟩ := hB.owl hm
  obtain ⟨A, c, rfl, _⟩ := h1.form
  exact ⟨⟨A, l.length, c⟩, F, rfl, h1, h2, hb⟩
end Go.Proofs.Ytcapldjhcplfmaa
