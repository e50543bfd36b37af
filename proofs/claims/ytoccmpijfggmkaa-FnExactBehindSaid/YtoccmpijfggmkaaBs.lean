/-
  Beside of the reference.
-/
import Derived.Test.YtoccmpijfggmkaaBe
import Derived.IntWalk
import Derived.Test.YtoccmpijfggmkaaHl
namespace Go.Proofs.Ytoccmpijfggmkaa
open Go.RowKit
set_option maxRecDepth 100000
set_option maxHeartbeats 2000000
set_option linter.unusedSimpArgs false

theorem specBeside_any (p : Plan) (ve : Value) (q : Plan) (vf : Value) (w : World) (hl : p.edges.length ≤ 2000000) (hl' : q.edges.length ≤ 2000000) (h : Rd edgeE w w.heap.size ve p.edges) (h' : Rd edgeE w w.heap.size vf q.edges) :
    Calls Try.prog 66 #[planV p ve, planV q vf] w (JoinPost (joined p q []) w) := by
  obtain ⟨W, hWe, D, E, Z, hW, hsz⟩ := threeBox_at p ve q vf w
  unfold twoBox planBox at hWe
  have HWe := Lib.hid hWe
  have Hsz := Lib.hid hsz
  clear hWe hsz
  by_cases hf : planFault p = 0
  case neg =>
    have hfb : (planFault p != 0) = true := by simp [hf]
    have H := Lib.hid (joined_no (p := p) (q := q) (m := []) (fun x => hf x.1))
    clear hf
    unfold planV
    go_enter Try.func66, Try.ntmps66
    go_wp2_with fail
    rw [← HWe.out]
    refine (specPlanFault_any p ve _ hl ((h.below hW).more hW.size)).mono ?_
    rintro e w1 ⟨rfl, b1⟩
    obtain ⟨z0, z1, z2, z3, z4, zs⟩ := (Z.below b1).cells
    have zf := (Z.below b1).free
    have hW := bnext hW b1
    go_wp2
    refine bodyPost_ret (v := .tuple #[planV zeroPlan (.slice none 0 0), .bool false]) ?_ rfl ⟨.slice none 0 0, by rw [H.out], by rw [H.out]; exact Ow.nil _ _ _ _, ?_⟩
    · simp [planV, zeroPlan, results, Try.results66, go_sem, *]
    · repeat (first | (with_reducible exact hW) | refine Below.setCell ?_ (by simp <;> omega) _)
  have hfb : (planFault p != 0) = false := by simp [hf]
  by_cases hg : planFault q = 0
  case neg =>
    have hgb : (planFault q != 0) = true := by simp [hg]
    have H := Lib.hid (joined_no (p := p) (q := q) (m := []) (fun x => hg x.2.1))
    clear hf hg
    unfold planV
    go_enter Try.func66, Try.ntmps66
    go_wp2_with fail
    rw [← HWe.out]
    refine (specPlanFault_any p ve _ hl ((h.below hW).more hW.size)).mono ?_
    rintro e w1 ⟨rfl, b1⟩
    have hW := bnext hW b1
    have E := E.below b1
    have Z := Z.below b1
    obtain ⟨y0, y1, y2, y3, y4, ys⟩ := E.cells
    go_wp2_with fail
    clear y0 y1 y2 y3 y4 ys
    refine (specPlanFault_any q vf _ hl' ((h'.below hW).more hW.size)).mono ?_
    rintro e w2 ⟨rfl, b2⟩
    obtain ⟨z0, z1, z2, z3, z4, zs⟩ := (Z.below b2).cells
    have zf := (Z.below b2).free
    have hW := bnext hW b2
    go_wp2
    refine bodyPost_ret (v := .tuple #[planV zeroPlan (.slice none 0 0), .bool false]) ?_ rfl ⟨.slice none 0 0, by rw [H.out], by rw [H.out]; exact Ow.nil _ _ _ _, ?_⟩
    · simp [planV, zeroPlan, results, Try.results66, go_sem, *]
    · repeat (first | (with_reducible exact hW) | refine Below.setCell ?_ (by simp <;> omega) _)
  have hgb : (planFault q != 0) = false := by simp [hg]
  obtain ⟨P0, P1, -, -⟩ := planFault_zero.1 hf
  obtain ⟨Q0, Q1, -, -⟩ := planFault_zero.1 hg
  obtain ⟨t1, t2⟩ := manyOk_tasks P0
  obtain ⟨u1, u2⟩ := manyOk_tasks Q0
  have hpe := manyOk_edges P0
  have hqe := manyOk_edges Q0
  have HF := Lib.hid hf
  have HG := Lib.hid hg
  have HQ := Lib.hid Q1
  clear hf hg P0 Q0 P1 Q1
  obtain ⟨i0, hi0, hz0, hz1, hz2⟩ := info_parts edge_info
  obtain ⟨Aq, cq, rfl, -⟩ := id h'
  unfold planV
  go_enter Try.func66, Try.ntmps66
  go_wp2_with fail
  rw [← HWe.out]
  refine (specPlanFault_any p ve _ hl ((h.below hW).more hW.size)).mono ?_
  rintro e w1 ⟨rfl, b1⟩
  have hW := bnext hW b1
  have D := D.below b1
  have E := E.below b1
  have Z := Z.below b1
  obtain ⟨y0, y1, y2, y3, y4, ys⟩ := E.cells
  go_wp2_with fail
  clear y0 y1 y2 y3 y4 ys
  refine (specPlanFault_any q (.slice Aq q.edges.length cq) _ hl' ((h'.below hW).more hW.size)).mono ?_
  rintro e w2 ⟨rfl, b2⟩
  have hW := bnext hW b2
  have D := D.below b2
  have E := E.below b2
  have Z := Z.below b2
  obtain ⟨y0, y1, y2, y3, y4, ys⟩ := D.cells
  go_wp2_with fail
  clear y0 y1 y2 y3 y4 ys
  refine (specCopy_any p ve _ hl ((h.below hW).more hW.size)).mono ?_
  rintro e w3 ⟨v3, rfl, o3, b3⟩
  have hz3 := Z.lt
  have hW := bnext hW b3
  have D := D.below b3
  have E := E.below b3
  have Z := Z.below b3
  have o3 := o3.more (base' := w.heap.size + 3) (by omega)
  have hin3 := o3.within
  obtain ⟨A3, c3, rfl, -⟩ := id (Rd.of_own o3)
  obtain ⟨x0, x1, x2, x3, x4, xs⟩ := E.cells
  obtain ⟨y0, y1, y2, y3, y4, ys⟩ := D.cells
  have hzz := Z.lt
  have H3 := Lib.hid hin3
  clear hin3
  go_wp2_with fail
  clear x0 x1 x2 x3 x4 xs y0 y1 y2 y3 y4 ys
  generalize hw4 : w3.alloc (.cells #[.int .i64 p.prio, .int .i64 p.most, .int .i64 p.wait, .int .i64 (p.tasks + q.tasks), .slice A3 p.edges.length c3] 47) = w4
  have b4 : Below w3.heap.size w3 w4 := by rw [← hw4]; exact (Below.refl _ _).alloc (Nat.le_refl _) _
  have X : BoxAt w3.heap.size { p with tasks := p.tasks + q.tasks } (.slice A3 p.edges.length c3) w4 := by rw [← hw4]; exact BoxAt.new' 47 { p with tasks := p.tasks + q.tasks } _ w3 rfl
  clear hw4
  have o4 := o3.below b4
  have D := D.below b4
  have E := E.below b4
  have Z := Z.below b4
  have hW := bnext hW b4
  have hne : Hid ((Value.slice A3 p.edges.length c3).ownBlock ≠ some w3.heap.size) := fun e => by have := H3.out _ e; omega
  go_loopw [7] (fun i wr => ∃ (k : Nat) (v : Value), k ≤ q.edges.length ∧ i = .int .i64 k ∧ BoxAt w.heap.size p ve wr ∧ BoxAt (w.heap.size + 1) q (.slice Aq q.edges.length cq) wr ∧ BoxAt (w.heap.size + 2) zeroPlan (.slice none 0 0) wr ∧ BoxAt w3.heap.size { p with tasks := p.tasks + q.tasks, edges := joinL p q k } v wr ∧ Ow edgeE 91 wr (w.heap.size + 3) v (joinL p q k) ∧ Hid (v.ownBlock ≠ some w3.heap.size) ∧ Below w.heap.size w wr) (fun i _ => q.edges.length - (intOf i).toNat)
  case atStart =>
    refine ⟨0, _, Nat.zero_le _, rfl, D, E, Z, ?_, ?_, hne, hW⟩
    · exact ⟨X.cells, X.free⟩
    · simpa [joinL] using o4
  case round =>
    clear D E Z X hW hne o3 o4
    obtain ⟨k, v, hk, rfl, D, E, Z, X, ho, hne, hW⟩ := hrel
    by_cases hlt : k < q.edges.length
    · have hltI : (k : Int) < (q.edges.length : Int) := by omega
      obtain ⟨b, o, rfl, hbb, c0, c1⟩ := (h'.below hW).edge hlt
      obtain ⟨f1, f2, f3, f4⟩ := edgesIn_get HQ.out hlt
      have S := Lib.hid (joinL_succ p q hlt)
      have hll := joinL_len p q k
      have hll2 : (joinL p q k).length ≤ 3000000 := by omega
      clear hll
      have Hc : Hid (∀ W', Below w.heap.size w W' → W'.cell? ⟨b, o + k * 2, none⟩ = some (.int .i64 q.edges[k].fr) ∧ W'.cell? ⟨b, o + k * 2 + 1, none⟩ = some (.int .i64 q.edges[k].to)) := fun W' hW' => by
        obtain ⟨b', o', ee, _, d0, d1⟩ := (h'.below hW').edge hlt
        simp only [Option.some.injEq, Addr.mk.injEq] at ee
        obtain ⟨rfl, rfl, -⟩ := ee
        exact ⟨d0, d1⟩
      generalize hpe : q.edges[k] = e at *
      have HPE := Lib.hid hpe
      clear hpe
      have Ha : Hid (∀ w : World, Below w.heap.size w (w.alloc (.cells #[.int .i64 (e.fr + p.tasks), .int .i64 (e.to + p.tasks)] 91))) := fun w => (Below.refl _ _).alloc (Nat.le_refl _) _
      obtain ⟨x0, x1, x2, x3, x4, xs⟩ := X.cells
      obtain ⟨y0, y1, y2, y3, y4, ys⟩ := D.cells
      obtain ⟨z0, z1, z2, z3, z4, zs⟩ := E.cells
      have hw1 : IntKind.i64.wrap (e.fr + p.tasks) = e.fr + p.tasks := IntWalk.i64_in _ (by omega)
      have hw2 : IntKind.i64.wrap (e.to + p.tasks) = e.to + p.tasks := IntWalk.i64_in _ (by omega)
      go_wp2
      have hXl := X.lt
      have hdr : Below wr.heap.size wr wr.drew := (Below.refl _ _).drew
      have Hb := Lib.hid (hdr.trans ((Ha.out wr.drew).mono hdr.size))
      clear hdr
      have hob := ho.below Hb.out
      have hWb := bnext hW Hb.out
      refine wp_region_last (fun w' => w'.cell? ⟨w3.heap.size, 4, none⟩ = some v ∧ w'.cell? ⟨w.heap.size + 1, 4, none⟩ = some (.slice (some ⟨b, o, none⟩) q.edges.length cq) ∧ w'.cell? ⟨b, o + k * 2, none⟩ = some (.int .i64 e.fr) ∧ w'.cell? ⟨b, o + k * 2 + 1, none⟩ = some (.int .i64 e.to) ∧ w'.cell? ⟨w.heap.size, 3, none⟩ = some (.int .i64 p.tasks)) 24 (by kernel_rfl) ?_ (fun hHeld => ?_)
      · (refine ⟨?_, ?_, ?_, ?_, ?_⟩ <;> first | assumption | go_keep)
      refine wpAnyL_take (i := 0) (oi := _) (v := ?_) rfl (by kernel_rfl) (by kernel_rfl) (by kernel_rfl) (by kernel_rfl) (fun _ _ _ h => h) hHeld (Or.inl ⟨by rfl, ?_⟩) ?_
      rotate_left
      · intro w hSw
        (try dsimp only at hSw)
        go_simp
        all_goals with_reducible rfl
      try simp only [Act.put, List.setIfInBounds_toArray, List.set_cons_zero, List.set_cons_succ]
      refine wpAnyL_take (i := 1) (oi := _) (v := ?_) rfl (by kernel_rfl) (by kernel_rfl) (by kernel_rfl) (by kernel_rfl) (fun _ _ _ h => h) hHeld (Or.inl ⟨by rfl, ?_⟩) ?_
      rotate_left
      · intro w hSw
        (try dsimp only at hSw)
        go_simp
        all_goals with_reducible rfl
      try simp only [Act.put, List.setIfInBounds_toArray, List.set_cons_zero, List.set_cons_succ]
      refine wpAnyL_take (i := 2) (oi := _) (v := ?_) rfl (by kernel_rfl) (by kernel_rfl) (by kernel_rfl) (by kernel_rfl) (fun _ _ _ h => h) hHeld (Or.inl ⟨by rfl, ?_⟩) ?_
      rotate_left
      · intro w hSw
        (try dsimp only at hSw)
        go_simp
        all_goals with_reducible rfl
      try simp only [Act.put, List.setIfInBounds_toArray, List.set_cons_zero, List.set_cons_succ]
      refine wpAnyL_take (i := 3) (oi := _) (v := ?_) rfl (by kernel_rfl) (by kernel_rfl) (by kernel_rfl) (by kernel_rfl) (fun _ _ _ h => h) hHeld (Or.inl ⟨by rfl, ?_⟩) ?_
      rotate_left
      · intro w hSw
        (try dsimp only at hSw)
        go_simp
        all_goals with_reducible rfl
      try simp only [Act.put, List.setIfInBounds_toArray, List.set_cons_zero, List.set_cons_succ]
      refine wpAnyL_take (i := 4) (oi := _) (v := ?_) rfl (by kernel_rfl) (by kernel_rfl) (by kernel_rfl) (by kernel_rfl) (fun _ _ _ h => h) hHeld (Or.inl ⟨by rfl, ?_⟩) ?_
      rotate_left
      · intro w hSw
        (try dsimp only at hSw)
        go_simp
        all_goals with_reducible rfl
      try simp only [Act.put, List.setIfInBounds_toArray, List.set_cons_zero, List.set_cons_succ]
      refine wpAnyL_take (i := 5) (oi := _) (v := ?_) rfl (by kernel_rfl) (by kernel_rfl) (by kernel_rfl) (by kernel_rfl) (fun _ _ _ h => h) hHeld (Or.inl ⟨by rfl, ?_⟩) ?_
      rotate_left
      · intro w hSw
        (try dsimp only at hSw)
        go_simp
        all_goals with_reducible rfl
      try simp only [Act.put, List.setIfInBounds_toArray, List.set_cons_zero, List.set_cons_succ]
      refine wpAnyL_take (i := 6) (oi := _) (v := ?_) rfl (by kernel_rfl) (by kernel_rfl) (by kernel_rfl) (by kernel_rfl) (fun _ _ _ h => h) hHeld (Or.inl ⟨by rfl, ?_⟩) ?_
      rotate_left
      · intro w hSw
        (try dsimp only at hSw)
        go_simp
        all_goals with_reducible rfl
      try simp only [Act.put, List.setIfInBounds_toArray, List.set_cons_zero, List.set_cons_succ]
      refine wpAnyL_take (i := 7) (oi := _) (v := ?_) rfl (by kernel_rfl) (by kernel_rfl) (by kernel_rfl) (by kernel_rfl) (fun _ _ _ h => h) hHeld (Or.inl ⟨by rfl, ?_⟩) ?_
      rotate_left
      · intro w hSw
        (try dsimp only at hSw)
        go_simp
        all_goals with_reducible rfl
      try simp only [Act.put, List.setIfInBounds_toArray, List.set_cons_zero, List.set_cons_succ]
      refine wpAnyL_take (i := 8) (oi := _) (v := ?_) rfl (by kernel_rfl) (by kernel_rfl) (by kernel_rfl) (by kernel_rfl) (fun _ _ _ h => h) hHeld (Or.inl ⟨by rfl, ?_⟩) ?_
      rotate_left
      · intro w hSw
        (try dsimp only at hSw)
        go_simp
        all_goals with_reducible rfl
      try simp only [Act.put, List.setIfInBounds_toArray, List.set_cons_zero, List.set_cons_succ]
      refine wpAnyL_take (i := 9) (oi := _) (v := ?_) rfl (by kernel_rfl) (by kernel_rfl) (by kernel_rfl) (by kernel_rfl) (fun _ _ _ h => h) hHeld (Or.inl ⟨by rfl, ?_⟩) ?_
      rotate_left
      · intro w hSw
        (try dsimp only at hSw)
        go_simp
        all_goals with_reducible rfl
      try simp only [Act.put, List.setIfInBounds_toArray, List.set_cons_zero, List.set_cons_succ]
      refine wpAnyL_take (i := 10) (oi := _) (v := ?_) rfl (by kernel_rfl) (by kernel_rfl) (by kernel_rfl) (by kernel_rfl) (fun _ _ _ h => h) hHeld (Or.inl ⟨by rfl, ?_⟩) ?_
      rotate_left
      · intro w hSw
        (try dsimp only at hSw)
        go_simp
        all_goals with_reducible rfl
      try simp only [Act.put, List.setIfInBounds_toArray, List.set_cons_zero, List.set_cons_succ]
      refine wpAnyL_take (i := 11) (oi := _) (v := ?_) rfl (by kernel_rfl) (by kernel_rfl) (by kernel_rfl) (by kernel_rfl) (fun _ _ _ h => h) hHeld (Or.inl ⟨by rfl, ?_⟩) ?_
      rotate_left
      · intro w hSw
        (try dsimp only at hSw)
        go_simp
        all_goals with_reducible rfl
      try simp only [Act.put, List.setIfInBounds_toArray, List.set_cons_zero, List.set_cons_succ]
      refine wpAnyL_take (i := 12) (oi := _) (v := ?_) rfl (by kernel_rfl) (by kernel_rfl) (by kernel_rfl) (by kernel_rfl) (fun _ _ _ h => h) hHeld (Or.inl ⟨by rfl, ?_⟩) ?_
      rotate_left
      · intro w hSw
        (try dsimp only at hSw)
        go_simp
        all_goals with_reducible rfl
      try simp only [Act.put, List.setIfInBounds_toArray, List.set_cons_zero, List.set_cons_succ]
      refine wpAnyL_take (i := 13) (oi := _) (v := ?_) rfl (by kernel_rfl) (by kernel_rfl) (by kernel_rfl) (by kernel_rfl) (fun _ _ _ h => h) hHeld (Or.inl ⟨by rfl, ?_⟩) ?_
      rotate_left
      · intro w hSw
        (try dsimp only at hSw)
        go_simp
        all_goals with_reducible rfl
      try simp only [Act.put, List.setIfInBounds_toArray, List.set_cons_zero, List.set_cons_succ]
      refine wpAnyL_take (i := 14) (oi := _) (v := ?_) rfl (by kernel_rfl) (by kernel_rfl) (by kernel_rfl) (by kernel_rfl) (fun _ _ _ h => h) hHeld (Or.inl ⟨by rfl, ?_⟩) ?_
      rotate_left
      · intro w hSw
        (try dsimp only at hSw)
        go_simp
        all_goals with_reducible rfl
      try simp only [Act.put, List.setIfInBounds_toArray, List.set_cons_zero, List.set_cons_succ]
      refine wpAnyL_take (i := 15) (oi := _) (v := ?_) rfl (by kernel_rfl) (by kernel_rfl) (by kernel_rfl) (by kernel_rfl) (fun _ _ _ h => h) hHeld (Or.inl ⟨by rfl, ?_⟩) ?_
      rotate_left
      · intro w hSw
        (try dsimp only at hSw)
        go_simp
        all_goals with_reducible rfl
      try simp only [Act.put, List.setIfInBounds_toArray, List.set_cons_zero, List.set_cons_succ]
      refine wpAnyL_take (i := 16) (oi := _) (v := ?_) rfl (by kernel_rfl) (by kernel_rfl) (by kernel_rfl) (by kernel_rfl) (fun _ _ _ h => h) hHeld (Or.inl ⟨by rfl, ?_⟩) ?_
      rotate_left
      · intro w hSw
        (try dsimp only at hSw)
        go_simp
        all_goals with_reducible rfl
      try simp only [Act.put, List.setIfInBounds_toArray, List.set_cons_zero, List.set_cons_succ]
      refine wpAnyL_take (i := 17) (oi := _) (v := ?_) rfl (by kernel_rfl) (by kernel_rfl) (by kernel_rfl) (by kernel_rfl) (fun _ _ _ h => h) hHeld (Or.inl ⟨by rfl, ?_⟩) ?_
      rotate_left
      · intro w hSw
        (try dsimp only at hSw)
        go_simp
        all_goals with_reducible rfl
      try simp only [Act.put, List.setIfInBounds_toArray, List.set_cons_zero, List.set_cons_succ]
      refine wpAnyL_take (i := 18) (oi := _) (v := ?_) rfl (by kernel_rfl) (by kernel_rfl) (by kernel_rfl) (by kernel_rfl) (fun _ _ _ h => h) hHeld (Or.inl ⟨by rfl, ?_⟩) ?_
      rotate_left
      · intro w hSw
        (try dsimp only at hSw)
        go_simp
        all_goals with_reducible rfl
      try simp only [Act.put, List.setIfInBounds_toArray, List.set_cons_zero, List.set_cons_succ]
      refine wpAnyL_take (i := 19) (oi := _) (v := ?_) rfl (by kernel_rfl) (by kernel_rfl) (by kernel_rfl) (by kernel_rfl) (fun _ _ _ h => h) hHeld (Or.inl ⟨by rfl, ?_⟩) ?_
      rotate_left
      · intro w hSw
        (try dsimp only at hSw)
        go_simp
        all_goals with_reducible rfl
      try simp only [Act.put, List.setIfInBounds_toArray, List.set_cons_zero, List.set_cons_succ]
      refine wpAnyL_take (i := 20) (oi := _) (v := ?_) rfl (by kernel_rfl) (by kernel_rfl) (by kernel_rfl) (by kernel_rfl) (fun _ _ _ h => h) hHeld (Or.inl ⟨by rfl, ?_⟩) ?_
      rotate_left
      · intro w hSw
        (try dsimp only at hSw)
        go_simp
        all_goals with_reducible rfl
      try simp only [Act.put, List.setIfInBounds_toArray, List.set_cons_zero, List.set_cons_succ]
      refine wpAnyL_one (i := 21) (o := _) rfl (by kernel_rfl) (fun K hK => ?_)
      go_simp
      refine hK.out _ _ (fun _ => ?_) ?_
      · (refine ⟨?_, ?_, ?_, ?_, ?_⟩ <;> first | assumption | go_keep)
      clear hK K
      try simp only [Act.put, List.setIfInBounds_toArray, List.set_cons_zero, List.set_cons_succ]
      refine wpAnyL_one (i := 22) (o := _) rfl (by kernel_rfl) (fun K hK => ?_)
      (refine step_push_all _ edgeE (by decide) (by rfl) (.tmp 33) (.tmp 53) (by rfl) Try.underlying45 hi0 hz0 hz1 hz2 (by rfl) (v := v) (l := joinL p q k) (by rfl) hob (by rfl) (Rd.one edgeE _ _ (shiftE p.tasks e) (by simp) rfl 1 (Nat.le_refl _) (Nat.lt_succ_self _)) hll2 (by simp) (by decide) (by simp; omega) ?_; intro v5 w5 o5 g5 hat5; obtain ⟨A5, c5, rfl, -⟩ := id (Rd.of_own o5); have X5 := (X.below Hb.out).far g5 (fun e => hne.out e.symm); have D5 := (D.below Hb.out).far g5 (fun e => by have := ho.within _ e.symm; omega); have E5 := (E.below Hb.out).far g5 (fun e => by have := ho.within _ e.symm; omega); have W5 := hWb.grown g5 hWb.size (fun g hg => by have := ho.within _ hg; omega); obtain ⟨cc0, cc1⟩ := Hc.out _ W5; obtain ⟨xx0, xx1, xx2, xx3, xx4, xxs⟩ := X5.cells; obtain ⟨yy0, yy1, yy2, yy3, yy4, yys⟩ := D5.cells; obtain ⟨zz0, zz1, zz2, zz3, zz4, zzs⟩ := E5.cells; have xf := X5.free)
      refine hK.out _ _ (fun _ => ?_) ?_
      · (refine ⟨?_, ?_, ?_, ?_, ?_⟩ <;> first | assumption | go_keep)
      clear hK K
      try simp only [Act.put, List.setIfInBounds_toArray, List.set_cons_zero, List.set_cons_succ]
      refine wpAnyL_one (i := 23) (o := _) rfl (by kernel_rfl) (fun K hK => ?_)
      go_simp
      refine hK.out _ _ (fun _ => ?_) ?_
      · (refine ⟨?_, ?_, ?_, ?_, ?_⟩ <;> first | assumption | go_keep)
      clear hK K
      try simp only [Act.put, List.setIfInBounds_toArray, List.set_cons_zero, List.set_cons_succ]
      refine wpAnyL_one (i := 24) (o := _) rfl (by kernel_rfl) (fun K hK => ?_)
      go_simp
      refine hK.out _ _ (fun hne => absurd rfl hne) ?_
      clear hK K
      try simp only [Act.put, List.setIfInBounds_toArray, List.set_cons_zero, List.set_cons_succ]
      refine wpAnyL_done (by kernel_rfl) ?_ _
      go_wp2
      have Z5 := (Z.below Hb.out).far g5 (fun e => by have := ho.within _ e.symm; omega)
      have hne5 : Hid ((Value.slice A5 (joinL p q k ++ [shiftE p.tasks e]).length c5).ownBlock ≠ some w3.heap.size) := by
        intro e
        rcases hat5 with h1 | h1
        · rw [h1] at e; exact hne.out e
        · rw [h1] at e; simp at e; omega
      rw [List.length_append, List.length_singleton] at o5 hne5
      refine ⟨⟨k + 1, .slice A5 ((joinL p q k).length + 1) c5, by omega, by go_num, D5.other (by simp; omega) _, E5.other (by simp; omega) _, Z5.other (by simp; omega) _, ?_, ?_, hne5, W5.setCell (by simp; omega) _⟩, by simp [intOf]; omega⟩
      · exact X5.setEdges _ _
      · rw [S.out]
        exact o5.setOther hne5.out _
    · have hltI : ¬ (k : Int) < (q.edges.length : Int) := by omega
      have hk' : k = q.edges.length := by omega
      subst hk'
      have hll := joinL_len p q q.edges.length
      obtain ⟨A5, c5, rfl, -⟩ := id (Rd.of_own ho)
      have hXl := X.lt
      obtain ⟨x0, x1, x2, x3, x4, xs⟩ := X.cells
      obtain ⟨y0, y1, y2, y3, y4, ys⟩ := E.cells
      go_wp2_with fail
      clear x0 x1 x2 x3 x4 xs y0 y1 y2 y3 y4 ys
      have hjj : (joinP p q []).edges = joinL p q q.edges.length := by simp [joinP]
      have o6 : Ow edgeE 91 wr (w.heap.size + 3) (.slice A5 (joinL p q q.edges.length).length c5) (joinP p q []).edges := by rw [hjj]; exact ho
      have X6 : BoxAt w3.heap.size (joinP p q []) (.slice A5 (joinL p q q.edges.length).length c5) wr := ⟨X.cells, X.free⟩
      have Z5 := Z
      have W5 := hW
      have HJJ := Lib.hid hjj
      clear hjj
      have hjl : (joinP p q []).edges.length ≤ 2000000 := by
        rw [HJJ.out]
        omega
      refine (specPlanFault_any (joinP p q []) _ _ hjl (Rd.of_own o6)).mono ?_
      rintro e w7 ⟨rfl, b7⟩
      have o7 := o6.below b7
      have Z7 := Z5.below b7
      have X7 := X6.below b7
      have W7 := bnext W5 b7
      obtain ⟨z0, z1, z2, z3, z4, zs⟩ := Z7.cells
      have zf := Z7.free
      obtain ⟨x0, x1, x2, x3, x4, xs⟩ := X7.cells
      by_cases hj : planFault (joinP p q []) = 0
      · have hjb : (planFault (joinP p q []) != 0) = false := by simp [hj]
        have H := Lib.hid (joined_yes (m := []) ⟨HF.out, HG.out, hj⟩)
        clear hj
        go_wp2
        refine bodyPost_ret (v := .tuple #[planV (joinP p q []) (.slice A5 (joinL p q q.edges.length).length c5), .bool true]) ?_ rfl ⟨.slice A5 (joinL p q q.edges.length).length c5, by rw [H.out], ?_, ?_⟩
        · simp [planV, results, Try.results66, go_sem, *]
        · rw [H.out]
          refine Ow.more (base := w.heap.size + 3) ?_ (by omega)
          unfold Ow at o7 ⊢
          repeat (first | (with_reducible exact o7) | refine ownsRow_setCell_below ?_ (by simp <;> omega) _)
        · repeat (first | (with_reducible exact W7) | refine Below.setCell ?_ (by simp <;> omega) _)
      · have hjb : (planFault (joinP p q []) != 0) = true := by simp [hj]
        have H := Lib.hid (joined_no (p := p) (q := q) (m := []) (fun x => hj x.2.2))
        clear hj
        go_wp2
        refine bodyPost_ret (v := .tuple #[planV zeroPlan (.slice none 0 0), .bool false]) ?_ rfl ⟨.slice none 0 0, by rw [H.out], by rw [H.out]; exact Ow.nil _ _ _ _, ?_⟩
        · simp [planV, zeroPlan, results, Try.results66, go_sem, *]
        · repeat (first | (with_reducible exact W7) | refine Below.setCell ?_ (by simp <;> omega) _)

noncomputable def besideB (p q : Plan) : Plan × Bool := joined p q []
theorem beside_len (p q : Plan) : (besideB p q).1.edges.length ≤ p.edges.length + q.edges.length := joined_len
end Go.Proofs.Ytoccmpijfggmkaa
