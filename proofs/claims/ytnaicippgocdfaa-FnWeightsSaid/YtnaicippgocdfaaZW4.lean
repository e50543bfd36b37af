/-
  joined and Beside of the program. A plan's variable that is written over by a whole plan (a law's 'w0, w1 := F(..)' whose variable was made first). A plan that is drawn is right; drawn weights; DrawWork, DrawPlans. Beside of the program. SourcesOf and SinksOf of both. Behind of the program. isTask and Reaches of the program. Reaches of the reference. Reduced of the program and of the reference. SameOrder of the program.
-/
import Derived.Test.YtnaicippgocdfaaZW3
section
namespace Go.Proofs.Ytnaicippgocdfaa
open Go.RowKit
set_option maxRecDepth 100000
set_option maxHeartbeats 2000000

def shiftE (t : Int) (e : Edge) : Edge := ⟨e.fr + t, e.to + t⟩
def joinL (p q : Plan) (k : Nat) : List Edge := p.edges ++ (q.edges.take k).map (shiftE p.tasks)
def joinP (p q : Plan) (m : List Edge) : Plan := { p with tasks := p.tasks + q.tasks, edges := joinL p q q.edges.length ++ m }
open Classical in
noncomputable def joined (p q : Plan) (m : List Edge) : Plan × Bool := if planFault p = 0 ∧ planFault q = 0 ∧ planFault (joinP p q m) = 0 then (joinP p q m, true) else (zeroPlan, false)
def JoinPost (r : Plan × Bool) (w : World) (e : Ending) (w' : World) : Prop := ∃ v, e = .returned (.tuple #[planV r.1 v, .bool r.2]) ∧ Ow edgeE 52 w' w.heap.size v r.1.edges ∧ Below w.heap.size w w'
theorem joinL_succ (p q : Plan) {k : Nat} (hk : k < q.edges.length) : joinL p q (k + 1) = joinL p q k ++ [shiftE p.tasks q.edges[k]] := by
  simp only [joinL, take_snoc _ k hk, List.map_append, List.append_assoc, List.map_cons, List.map_nil]
theorem joinL_len (p q : Plan) (k : Nat) : (joinL p q k).length ≤ p.edges.length + q.edges.length := by
  have := List.length_take_le' k q.edges
  simp only [joinL, List.length_append, List.length_map]
  omega
theorem joined_no {p q : Plan} {m : List Edge} (h : ¬ (planFault p = 0 ∧ planFault q = 0 ∧ planFault (joinP p q m) = 0)) : joined p q m = (zeroPlan, false) := by
  unfold joined; rw [if_neg h]
theorem joined_yes {p q : Plan} {m : List Edge} (h : planFault p = 0 ∧ planFault q = 0 ∧ planFault (joinP p q m) = 0) : joined p q m = (joinP p q m, true) := by
  unfold joined; rw [if_pos h]

/-- the world with two plans' variables and an empty one laid -/
theorem threeBox_at (p : Plan) (ve : Value) (q : Plan) (vf : Value) (w : World) :
    ∃ W, W = (twoBox 26 p ve q vf w).alloc (.cells #[.int .i64 0, .int .i64 0, .int .i64 0, .int .i64 0, .slice none 0 0] 26) ∧ BoxAt w.heap.size p ve W ∧ BoxAt (w.heap.size + 1) q vf W ∧ BoxAt (w.heap.size + 2) zeroPlan (.slice none 0 0) W ∧ Below w.heap.size w W ∧ W.heap.size = w.heap.size + 3 := by
  obtain ⟨D, E, hb⟩ := twoBox_at 26 p ve q vf w
  have ha := (Below.refl (twoBox 26 p ve q vf w).heap.size (twoBox 26 p ve q vf w)).alloc (Nat.le_refl _) (.cells #[.int .i64 0, .int .i64 0, .int .i64 0, .int .i64 0, .slice none 0 0] 26)
  refine ⟨_, rfl, D.below ha, E.below ha, ?_, bnext hb ha, by simp [twoBox, planBox]⟩
  exact BoxAt.new' 26 zeroPlan (.slice none 0 0) _ (by simp [twoBox, planBox])

theorem implJoined_any (p : Plan) (ve : Value) (q : Plan) (vf : Value) (vm : Value) (m : List Edge) (w : World) (hl : p.edges.length ≤ 2000000) (hl' : q.edges.length ≤ 2000000) (hl2 : m.length ≤ 1000000) (h : Rd edgeE w w.heap.size ve p.edges) (h' : Rd edgeE w w.heap.size vf q.edges) (hm : Rd edgeE w w.heap.size vm m) :
    Calls Try.prog 64 #[planV p ve, planV q vf, vm] w (JoinPost (joined p q m) w) := by
  obtain ⟨W, hWe, D, E, Z, hW, hsz⟩ := threeBox_at p ve q vf w
  unfold twoBox planBox at hWe
  have HWe := Lib.hid hWe
  have Hsz := Lib.hid hsz
  clear hWe hsz
  obtain ⟨Am, cm, rfl, -⟩ := id hm
  by_cases hf : planFault p = 0
  case neg =>
    have hfb : (planFault p != 0) = true := by simp [hf]
    have H := Lib.hid (joined_no (p := p) (q := q) (m := m) (fun x => hf x.1))
    clear hf
    unfold planV
    go_enter Try.func64, Try.ntmps64
    go_wp2_with fail
    rw [← HWe.out]
    refine (implPlanFault_any p ve _ hl ((h.below hW).more hW.size)).mono ?_
    rintro e w1 ⟨rfl, b1⟩
    obtain ⟨z0, z1, z2, z3, z4, zs⟩ := (Z.below b1).cells
    have zf := (Z.below b1).free
    have hW := bnext hW b1
    go_wp2
    refine bodyPost_ret (v := .tuple #[planV zeroPlan (.slice none 0 0), .bool false]) ?_ rfl ⟨.slice none 0 0, by rw [H.out], by rw [H.out]; exact Ow.nil _ _ _ _, ?_⟩
    · simp [planV, zeroPlan, results, Try.results64, go_sem, *]
    · repeat (first | (with_reducible exact hW) | refine Below.setCell ?_ (by simp <;> omega) _)
  have hfb : (planFault p != 0) = false := by simp [hf]
  by_cases hg : planFault q = 0
  case neg =>
    have hgb : (planFault q != 0) = true := by simp [hg]
    have H := Lib.hid (joined_no (p := p) (q := q) (m := m) (fun x => hg x.2.1))
    clear hf hg
    unfold planV
    go_enter Try.func64, Try.ntmps64
    go_wp2_with fail
    rw [← HWe.out]
    refine (implPlanFault_any p ve _ hl ((h.below hW).more hW.size)).mono ?_
    rintro e w1 ⟨rfl, b1⟩
    have hW := bnext hW b1
    have E := E.below b1
    have Z := Z.below b1
    obtain ⟨y0, y1, y2, y3, y4, ys⟩ := E.cells
    go_wp2_with fail
    clear y0 y1 y2 y3 y4 ys
    refine (implPlanFault_any q vf _ hl' ((h'.below hW).more hW.size)).mono ?_
    rintro e w2 ⟨rfl, b2⟩
    obtain ⟨z0, z1, z2, z3, z4, zs⟩ := (Z.below b2).cells
    have zf := (Z.below b2).free
    have hW := bnext hW b2
    go_wp2
    refine bodyPost_ret (v := .tuple #[planV zeroPlan (.slice none 0 0), .bool false]) ?_ rfl ⟨.slice none 0 0, by rw [H.out], by rw [H.out]; exact Ow.nil _ _ _ _, ?_⟩
    · simp [planV, zeroPlan, results, Try.results64, go_sem, *]
    · repeat (first | (with_reducible exact hW) | refine Below.setCell ?_ (by simp <;> omega) _)
  have hgb : (planFault q != 0) = false := by simp [hg]
  obtain ⟨P0, P1, -, -⟩ := planFault_zero.1 hf
  obtain ⟨Q0, Q1, -, -⟩ := planFault_zero.1 hg
  obtain ⟨t1, t2⟩ := manyOk_tasks P0
  obtain ⟨u1, u2⟩ := manyOk_tasks Q0
  have hpe := manyOk_edges P0
  have hqe := manyOk_edges Q0
  have HF := Lib.hid hf
  have HG := Lib.hid hg
  have HQ := Lib.hid Q1
  clear hf hg P0 Q0 P1 Q1
  obtain ⟨i0, hi0, hz0, hz1, hz2⟩ := info_parts edge_info
  obtain ⟨Aq, cq, rfl, -⟩ := id h'
  unfold planV
  go_enter Try.func64, Try.ntmps64
  go_wp2_with fail
  rw [← HWe.out]
  refine (implPlanFault_any p ve _ hl ((h.below hW).more hW.size)).mono ?_
  rintro e w1 ⟨rfl, b1⟩
  have hW := bnext hW b1
  have D := D.below b1
  have E := E.below b1
  have Z := Z.below b1
  obtain ⟨y0, y1, y2, y3, y4, ys⟩ := E.cells
  go_wp2_with fail
  clear y0 y1 y2 y3 y4 ys
  refine (implPlanFault_any q (.slice Aq q.edges.length cq) _ hl' ((h'.below hW).more hW.size)).mono ?_
  rintro e w2 ⟨rfl, b2⟩
  have hW := bnext hW b2
  have D := D.below b2
  have E := E.below b2
  have Z := Z.below b2
  obtain ⟨y0, y1, y2, y3, y4, ys⟩ := D.cells
  go_wp2_with fail
  clear y0 y1 y2 y3 y4 ys
  refine (implCopy_any p ve _ hl ((h.below hW).more hW.size)).mono ?_
  rintro e w3 ⟨v3, rfl, o3, b3⟩
  have hz3 := Z.lt
  have hW := bnext hW b3
  have D := D.below b3
  have E := E.below b3
  have Z := Z.below b3
  have o3 := o3.more (base' := w.heap.size + 3) (by omega)
  have hin3 := o3.within
  obtain ⟨A3, c3, rfl, -⟩ := id (Rd.of_own o3)
  obtain ⟨x0, x1, x2, x3, x4, xs⟩ := E.cells
  have hzz := Z.lt
  have H3 := Lib.hid hin3
  clear hin3
  go_wp2_with fail
  clear x0 x1 x2 x3 x4 xs
  generalize hw4 : w3.alloc (.cells #[.int .i64 p.prio, .int .i64 p.most, .int .i64 p.wait, .int .i64 (p.tasks + q.tasks), .slice A3 p.edges.length c3] 26) = w4
  have b4 : Below w3.heap.size w3 w4 := by rw [← hw4]; exact (Below.refl _ _).alloc (Nat.le_refl _) _
  have X : BoxAt w3.heap.size { p with tasks := p.tasks + q.tasks } (.slice A3 p.edges.length c3) w4 := by rw [← hw4]; exact BoxAt.new' 26 { p with tasks := p.tasks + q.tasks } _ w3 rfl
  clear hw4
  have o4 := o3.below b4
  have D := D.below b4
  have E := E.below b4
  have Z := Z.below b4
  have hW := bnext hW b4
  have hne : Hid ((Value.slice A3 p.edges.length c3).ownBlock ≠ some w3.heap.size) := fun e => by have := H3.out _ e; omega
  go_loopw [31] (fun i wr => ∃ (k : Nat) (v : Value), k ≤ q.edges.length ∧ i = .int .i64 k ∧ BoxAt w.heap.size p ve wr ∧ BoxAt (w.heap.size + 1) q (.slice Aq q.edges.length cq) wr ∧ BoxAt (w.heap.size + 2) zeroPlan (.slice none 0 0) wr ∧ BoxAt w3.heap.size { p with tasks := p.tasks + q.tasks, edges := joinL p q k } v wr ∧ Ow edgeE 52 wr (w.heap.size + 3) v (joinL p q k) ∧ Hid (v.ownBlock ≠ some w3.heap.size) ∧ Below w.heap.size w wr) (fun i _ => q.edges.length - (intOf i).toNat)
  case atStart =>
    refine ⟨0, _, Nat.zero_le _, rfl, D, E, Z, ?_, ?_, hne, hW⟩
    · exact ⟨X.cells, X.free⟩
    · simpa [joinL] using o4
  case round =>
    clear D E Z X hW hne o3 o4
    obtain ⟨k, v, hk, rfl, D, E, Z, X, ho, hne, hW⟩ := hrel
    by_cases hlt : k < q.edges.length
    · have hltI : (k : Int) < (q.edges.length : Int) := by omega
      obtain ⟨b, o, rfl, hbb, c0, c1⟩ := (h'.below hW).edge hlt
      obtain ⟨f1, f2, f3, f4⟩ := edgesIn_get HQ.out hlt
      have S := Lib.hid (joinL_succ p q hlt)
      have hll := joinL_len p q k
      have hll2 : (joinL p q k).length ≤ 3000000 := by omega
      clear hll
      generalize hpe : q.edges[k] = e at *
      have HPE := Lib.hid hpe
      clear hpe
      have ha1 : ∀ w : World, Below w.heap.size w ((w.alloc (.cells #[.int .i64 e.fr, .int .i64 e.to] 52)).alloc (.cells #[.int .i64 (e.fr + p.tasks), .int .i64 (e.to + p.tasks)] 52)) := fun w => ((Below.refl _ _).alloc (Nat.le_refl _) _).alloc (by simp) _
      have Ha := Lib.hid ha1
      clear ha1
      obtain ⟨x0, x1, x2, x3, x4, xs⟩ := X.cells
      obtain ⟨y0, y1, y2, y3, y4, ys⟩ := D.cells
      go_wp2_with (at_builtin; refine wpList_push_all _ edgeE (by decide) rfl (.tmp 36) (.tmp 48) rfl Try.underlying24 hi0 hz0 hz1 hz2 rfl (v := v) (l := joinL p q k) rfl (ho.below (Ha.out wr)) rfl (Rd.one edgeE _ _ (shiftE p.tasks e) (by simp) rfl 1 (Nat.le_refl _) (Nat.lt_succ_self _)) hll2 (by simp) (by decide) (by simp; omega) ?_; intro v5 w5 o5 g5 hat5; clear x0 x1 x2 x3 x4 xs y0 y1 y2 y3 y4 ys; obtain ⟨A5, c5, rfl, -⟩ := id (Rd.of_own o5); have X5 := (X.below (Ha.out wr)).far g5 (fun e => hne.out e.symm); obtain ⟨x0, x1, x2, x3, x4, xs⟩ := X5.cells; have xf := X5.free)
      have hXl := X.lt
      have D5 := (D.below (Ha.out wr)).far g5 (fun e => by have := ho.within _ e.symm; omega)
      have E5 := (E.below (Ha.out wr)).far g5 (fun e => by have := ho.within _ e.symm; omega)
      have Z5 := (Z.below (Ha.out wr)).far g5 (fun e => by have := ho.within _ e.symm; omega)
      have hWa := bnext hW (Ha.out wr)
      have W5 := hWa.grown g5 hWa.size (fun g hg => by have := ho.within _ hg; omega)
      have hne5 : Hid ((Value.slice A5 (joinL p q k ++ [shiftE p.tasks e]).length c5).ownBlock ≠ some w3.heap.size) := by
        intro e
        rcases hat5 with h1 | h1
        · rw [h1] at e; exact hne.out e
        · rw [h1] at e; simp at e; omega
      rw [List.length_append, List.length_singleton] at o5 hne5
      refine ⟨⟨k + 1, .slice A5 ((joinL p q k).length + 1) c5, by omega, by go_num, D5.other (by simp; omega) _, E5.other (by simp; omega) _, Z5.other (by simp; omega) _, ?_, ?_, hne5, W5.setCell (by simp; omega) _⟩, by simp [intOf]; omega⟩
      · exact X5.setEdges _ _
      · rw [S.out]
        exact o5.setOther hne5.out _
    · have hltI : ¬ (k : Int) < (q.edges.length : Int) := by omega
      have hk' : k = q.edges.length := by omega
      subst hk'
      have hll := joinL_len p q q.edges.length
      have hll2 : (joinL p q q.edges.length).length ≤ 3000000 := by omega
      have hXl := X.lt
      obtain ⟨x0, x1, x2, x3, x4, xs⟩ := X.cells
      go_wp2_with (at_builtin; refine wpList_push_all _ edgeE (by decide) rfl (.tmp 53) (.tmp 54) rfl Try.underlying24 hi0 hz0 hz1 hz2 rfl (v := v) (l := joinL p q q.edges.length) rfl ho rfl ((hm.below hW).more hW.size) hll2 (by omega) (by decide) (by omega) ?_; intro v5 w5 o5 g5 hat5; clear x0 x1 x2 x3 x4 xs; obtain ⟨A5, c5, rfl, -⟩ := id (Rd.of_own o5); have X5 := X.far g5 (fun e => hne.out e.symm); obtain ⟨x0, x1, x2, x3, x4, xs⟩ := X5.cells; have xf := X5.free)
      clear x0 x1 x2 x3 x4 xs xf
      have Z5 := (Z.far g5 (fun e => by have := ho.within _ e.symm; omega)).other (a := ⟨w3.heap.size, 4, none⟩) (by simp; omega) (.slice A5 ((joinL p q q.edges.length).length + m.length) c5)
      have W5 := (hW.grown g5 hW.size (fun g hg => by have := ho.within _ hg; omega)).setCell (p := ⟨w3.heap.size, 4, none⟩) (by simp; omega) (.slice A5 ((joinL p q q.edges.length).length + m.length) c5)
      have hne5 : Hid ((Value.slice A5 (joinL p q q.edges.length ++ m).length c5).ownBlock ≠ some w3.heap.size) := by
        intro e
        rcases hat5 with h1 | h1
        · rw [h1] at e; exact hne.out e
        · rw [h1] at e; simp at e; omega
      rw [List.length_append] at o5 hne5
      have X6 : BoxAt w3.heap.size (joinP p q m) (.slice A5 ((joinL p q q.edges.length).length + m.length) c5) (w5.setCell ⟨w3.heap.size, 4, none⟩ (.slice A5 ((joinL p q q.edges.length).length + m.length) c5)) := X5.setEdges _ _
      have o6 : Ow edgeE 52 (w5.setCell ⟨w3.heap.size, 4, none⟩ (.slice A5 ((joinL p q q.edges.length).length + m.length) c5)) (w.heap.size + 3) (.slice A5 ((joinL p q q.edges.length).length + m.length) c5) (joinP p q m).edges := o5.setOther hne5.out _
      clear o5 g5 hat5 X5
      generalize w5.setCell ⟨w3.heap.size, 4, none⟩ (.slice A5 ((joinL p q q.edges.length).length + m.length) c5) = w6 at *
      have hjl : (joinP p q m).edges.length ≤ 2000000 := by
        show (joinL p q q.edges.length ++ m).length ≤ _
        rw [List.length_append]
        omega
      refine (implPlanFault_any (joinP p q m) _ _ hjl (Rd.of_own o6)).mono ?_
      rintro e w7 ⟨rfl, b7⟩
      have o7 := o6.below b7
      have Z7 := Z5.below b7
      have X7 := X6.below b7
      have W7 := bnext W5 b7
      obtain ⟨z0, z1, z2, z3, z4, zs⟩ := Z7.cells
      have zf := Z7.free
      obtain ⟨x0, x1, x2, x3, x4, xs⟩ := X7.cells
      by_cases hj : planFault (joinP p q m) = 0
      · have hjb : (planFault (joinP p q m) != 0) = false := by simp [hj]
        have H := Lib.hid (joined_yes (m := m) ⟨HF.out, HG.out, hj⟩)
        clear hj
        go_wp2
        refine bodyPost_ret (v := .tuple #[planV (joinP p q m) (.slice A5 ((joinL p q q.edges.length).length + m.length) c5), .bool true]) ?_ rfl ⟨.slice A5 ((joinL p q q.edges.length).length + m.length) c5, by rw [H.out], ?_, ?_⟩
        · simp [planV, results, Try.results64, go_sem, *]
        · rw [H.out]
          refine Ow.more (base := w.heap.size + 3) ?_ (by omega)
          unfold Ow at o7 ⊢
          repeat (first | (with_reducible exact o7) | refine ownsRow_setCell_below ?_ (by simp <;> omega) _)
        · repeat (first | (with_reducible exact W7) | refine Below.setCell ?_ (by simp <;> omega) _)
      · have hjb : (planFault (joinP p q m) != 0) = true := by simp [hj]
        have H := Lib.hid (joined_no (p := p) (q := q) (m := m) (fun x => hj x.2.2))
        clear hj
        go_wp2
        refine bodyPost_ret (v := .tuple #[planV zeroPlan (.slice none 0 0), .bool false]) ?_ rfl ⟨.slice none 0 0, by rw [H.out], by rw [H.out]; exact Ow.nil _ _ _ _, ?_⟩
        · simp [planV, zeroPlan, results, Try.results64, go_sem, *]
        · repeat (first | (with_reducible exact W7) | refine Below.setCell ?_ (by simp <;> omega) _)
end Go.Proofs.Ytnaicippgocdfaa
end
section
namespace Go.Proofs.Ytnaicippgocdfaa
open Go.RowKit
set_option maxRecDepth 100000
set_option maxHeartbeats 1000000

/-- a plan's variable is written over -/
theorem setBox_cell {w : World} {g b o : Nat} (v0 v1 v2 v3 v4 : Value) (hne : ¬ b = g) : (((((w.setCell ⟨g, 0, none⟩ v0).setCell ⟨g, 1, none⟩ v1).setCell ⟨g, 2, none⟩ v2).setCell ⟨g, 3, none⟩ v3).setCell ⟨g, 4, none⟩ v4).cell? ⟨b, o, none⟩ = w.cell? ⟨b, o, none⟩ := by
  have h : ∀ (w : World) (j : Nat) (v : Value), (w.setCell ⟨g, j, none⟩ v).cell? ⟨b, o, none⟩ = w.cell? ⟨b, o, none⟩ := fun w j v => World.cell?_setCell_far w ⟨g, j, none⟩ ⟨b, o, none⟩ v (fun e => hne e.symm)
  rw [h, h, h, h, h]
theorem BoxAt.setAll {b : Nat} {p : Plan} {v : Value} {w : World} (h : BoxAt b p v w) (q : Plan) (v' : Value) : BoxAt b q v' (((((w.setCell ⟨b, 0, none⟩ (.int .i64 q.prio)).setCell ⟨b, 1, none⟩ (.int .i64 q.most)).setCell ⟨b, 2, none⟩ (.int .i64 q.wait)).setCell ⟨b, 3, none⟩ (.int .i64 q.tasks)).setCell ⟨b, 4, none⟩ v') := by
  obtain ⟨h0, h1, h2, h3, h4, h5⟩ := h.cells
  have hf := h.free
  refine ⟨⟨?_, ?_, ?_, ?_, ?_, by simpa [World.setCell] using h5⟩, fun j => ?_⟩
  all_goals simp [go_sem, h0, h1, h2, h3, h4, hf]
theorem BoxAt.setFar {b g : Nat} {p : Plan} {v : Value} {w : World} (h : BoxAt b p v w) (hne : ¬ b = g) (v0 v1 v2 v3 v4 : Value) : BoxAt b p v (((((w.setCell ⟨g, 0, none⟩ v0).setCell ⟨g, 1, none⟩ v1).setCell ⟨g, 2, none⟩ v2).setCell ⟨g, 3, none⟩ v3).setCell ⟨g, 4, none⟩ v4) :=
  ((((h.other hne v0).other hne v1).other hne v2).other hne v3).other hne v4
theorem Ow.setFar {α : Type} {e : Enc α} {E : TypeId} {w : World} {base g : Nat} {v : Value} {l : List α} (h : Ow e E w base v l) (hne : v.ownBlock ≠ some g) (v0 v1 v2 v3 v4 : Value) : Ow e E (((((w.setCell ⟨g, 0, none⟩ v0).setCell ⟨g, 1, none⟩ v1).setCell ⟨g, 2, none⟩ v2).setCell ⟨g, 3, none⟩ v3).setCell ⟨g, 4, none⟩ v4) base v l :=
  ((((h.setOther (a := ⟨g, 0, none⟩) hne v0).setOther (a := ⟨g, 1, none⟩) hne v1).setOther (a := ⟨g, 2, none⟩) hne v2).setOther (a := ⟨g, 3, none⟩) hne v3).setOther (a := ⟨g, 4, none⟩) hne v4
theorem Below.setFar {B g : Nat} {w0 w : World} (h : Below B w0 w) (hne : B ≤ g) (v0 v1 v2 v3 v4 : Value) : Below B w0 (((((w.setCell ⟨g, 0, none⟩ v0).setCell ⟨g, 1, none⟩ v1).setCell ⟨g, 2, none⟩ v2).setCell ⟨g, 3, none⟩ v3).setCell ⟨g, 4, none⟩ v4) :=
  ((((h.setCell (by exact hne) v0).setCell (by exact hne) v1).setCell (by exact hne) v2).setCell (by exact hne) v3).setCell (by exact hne) v4

end Go.Proofs.Ytnaicippgocdfaa
end
section
namespace Go.Proofs.Ytnaicippgocdfaa
open Go.RowKit
set_option maxRecDepth 100000
set_option maxHeartbeats 2000000
set_option linter.unusedVariables false

/-! a drawn plan is right -/
structure Drawn (T : Int) (n : Nat) (es : List Edge) : Prop where
  len : es.length ≤ n
  nodup : es.Nodup
  up : ∀ e ∈ es, 0 ≤ e.fr ∧ e.fr < e.to ∧ e.to < T
theorem Drawn.add {T : Int} {n : Nat} {es : List Edge} (h : Drawn T n es) {e : Edge} (he : 0 ≤ e.fr ∧ e.fr < e.to ∧ e.to < T) : Drawn T (n + 1) (addE es e) := by
  unfold addE
  split
  · exact ⟨by have := h.len; omega, h.nodup, h.up⟩
  · rename_i hn
    refine ⟨by have := h.len; simp; omega, nodup_snoc.2 ⟨h.nodup, hn⟩, fun x hx => ?_⟩
    rcases List.mem_append.1 hx with hx | hx
    · exact h.up x hx
    · rw [List.mem_singleton.1 hx]; exact he
theorem planGo_drawn (code : List UInt8) (T : Int) : ∀ (f i : Nat) (es : List Edge) (c : Cur) (n : Nat), Drawn T n es → Drawn T (n + f) (planGo code T f i es c).1
  | 0, i, es, c, n, h => h
  | f + 1, i, es, c, n, h => by
    rw [planGo]
    split
    · rename_i hg
      have h1 := curBelow_bd code (n := T - 1) (curBelow code 9 c).2 (by omega)
      have h2 : 1 ≤ newTo code T c ∧ newTo code T c < T := by unfold newTo; omega
      have h3 := curBelow_bd code (n := newTo code T c) (curBelow code (T - 1) (curBelow code 9 c).2).2 (by omega)
      have := planGo_drawn code T f (i + 1) _ (newC code T c) (n + 1) (h.add (e := newE code T c) (by unfold newE; simp only; omega))
      rw [show n + (f + 1) = n + 1 + f by omega]
      exact this
    · exact ⟨by have := h.len; simp only; omega, h.nodup, h.up⟩
theorem reach_lt_of {es : List (Nat × Nat)} (h : ∀ e ∈ es, e.1 < e.2) {a b : Nat} (hr : Pg.Reach es a b) : a < b := by
  obtain ⟨l, hne, hw⟩ := hr
  induction hw with
  | nil a => exact absurd rfl hne
  | @cons a c b l h1 h2 ih =>
    have h3 := h _ h1
    by_cases hl : l = []
    · subst hl
      cases h2
      exact h3
    · have := ih hl
      simp only at h3
      omega
theorem curPlan_ok (code : List UInt8) (c : Cur) : planFault (curPlan code c).1 = 0 := by
  have b1 := curBelow_bd code (n := 4) c (by omega)
  have b2 := curBelow_bd code (n := 3) (curBelow code 4 c).2 (by omega)
  have b3 := curBelow_bd code (n := 4) (curBelow code 3 (curBelow code 4 c).2).2 (by omega)
  have b4 := curBelow_bd code (n := 6) (curBelow code 4 (curBelow code 3 (curBelow code 4 c).2).2).2 (by omega)
  unfold curPlan
  simp only
  generalize curBelow code 4 c = r1 at *
  generalize curBelow code 3 r1.2 = r2 at *
  generalize curBelow code 4 r2.2 = r3 at *
  generalize curBelow code 6 r3.2 = r4 at *
  generalize curOnce code 10 r4.2 = r5 at *
  have hT : 1 ≤ planT r5.1 r4.1 ∧ planT r5.1 r4.1 ≤ 12 := by unfold planT; split <;> omega
  generalize planT r5.1 r4.1 = T at *
  have h := planGo_drawn code T 10 0 [] r5.2 0 ⟨by simp, by simp, by simp⟩
  generalize (planGo code T 10 0 [] r5.2).1 = es at *
  refine planFault_zero.2 ⟨?_, fun e he => ?_, h.nodup, ?_⟩
  · have := h.len
    simp only [manyOk, Bool.and_eq_true, decide_eq_true_eq, inB_iff]
    omega
  · have := h.up e he
    simp only [edgeIn, Bool.and_eq_true, inB_iff]
    omega
  · rintro ⟨t, ht, hr⟩
    have : t < t := reach_lt_of (fun e he => by
      simp only [esOf, esL, List.mem_map] at he
      obtain ⟨x, hx, rfl⟩ := he
      have := h.up x hx
      simp only
      omega) hr
    omega

/-! drawn weights -/
def curWeights (code : List UInt8) : Nat → Cur → List Int × Cur
  | 0, c => ([], c)
  | k + 1, c => ((curWeights code k c).1 ++ [1 + (curBelow code 9 (curWeights code k c).2).1], (curBelow code 9 (curWeights code k c).2).2)
theorem curWeights_len (code : List UInt8) (c : Cur) : ∀ k, (curWeights code k c).1.length = k
  | 0 => rfl
  | k + 1 => by rw [curWeights]; simp [curWeights_len code c k]
theorem curWeights_bd (code : List UInt8) (c : Cur) : ∀ k, ∀ x ∈ (curWeights code k c).1, 1 ≤ x ∧ x ≤ 1000
  | 0 => by simp [curWeights]
  | k + 1 => by
    intro x hx
    rw [curWeights] at hx
    have hb := curBelow_bd code (n := 9) (curWeights code k c).2 (by omega)
    rcases List.mem_append.1 hx with hx | hx
    · exact curWeights_bd code c k x hx
    · rw [List.mem_singleton.1 hx]; omega
theorem weights_any (b : Nat) (v : Value) (code : List UInt8) (c : Cur) (p : Plan) (ve : Value) (w : World) (hT : 1 ≤ p.tasks ∧ p.tasks ≤ 12) (h : Drw b v code c w) :
    Calls Try.prog 47 #[.pointer (some ⟨b, 0, none⟩), planV p ve] w fun e w' => ∃ u, e = .returned u ∧ Ow intE 3 w' w.heap.size u (curWeights code p.tasks.toNat c).1 ∧ Drw b v code (curWeights code p.tasks.toNat c).2 w' ∧ Chg [b] w w' := by
  have hb := h.box.lt
  obtain ⟨i0, hi0, hz0, hz1, hz2⟩ := info_parts int_info
  have hb0 := planBox_below 26 p ve w
  have k0 := h.below hb0
  have P0 := BoxAt.new 26 p ve w
  have C0 := (Chg.refl [b] w).belowNew hb0
  have s0 := planBox_size 26 p ve w
  unfold planV
  go_enter Try.func47, Try.ntmps47
  go_wp2
  have ha : Below (planBox 26 p ve w).heap.size (planBox 26 p ve w) ((planBox 26 p ve w).alloc (.cells #[] 3)) := (Below.refl _ _).alloc (Nat.le_refl _) _
  have O0 := Ow.empty intE 3 (planBox 26 p ve w) (g := w.heap.size + 1) (by rw [planBox_size])
  have k1 := k0.below ha
  have P1 := P0.below ha
  have C1 := C0.belowNew ha
  have hz : ((planBox 26 p ve w).alloc (.cells #[] 3)).heap.size = w.heap.size + 2 := by simp [planBox]
  unfold planBox at O0 k1 P1 C1 hz
  clear ha k0 P0 C0 hb0 s0
  generalize ((w.alloc (.cells #[.int .i64 p.prio, .int .i64 p.most, .int .i64 p.wait, .int .i64 p.tasks, ve] 26)).alloc (.cells #[] 3)) = w1 at *
  go_loopw [5, 6] (fun u i wr => ∃ k : Nat, k ≤ p.tasks.toNat ∧ i = .int .i64 k ∧ Drw b v code (curWeights code k c).2 wr ∧ Ow intE 3 wr (w.heap.size + 1) u (curWeights code k c).1 ∧ BoxAt w.heap.size p ve wr ∧ Chg [b] w wr ∧ w.heap.size + 2 ≤ wr.heap.size) (fun _ i _ => p.tasks.toNat - (intOf i).toNat)
  case atStart => exact ⟨0, Nat.zero_le _, rfl, k1, O0, P1, C1, by omega⟩
  case round =>
    clear k1 O0 P1 C1 hz
    obtain ⟨k, hk, rfl, K, O, P, C, hsz⟩ := hrel
    have hlen := curWeights_len code c k
    have HL := Lib.hid hlen
    clear hlen
    obtain ⟨p0, p1, p2, p3, p4, ps⟩ := P.cells
    by_cases hlt : k < p.tasks.toNat
    · have i1 : (k : Int) < p.tasks := by omega
      have i2 : (k : Int) < 12 := by omega
      obtain ⟨A, cap, rfl, -⟩ := id (Rd.of_own O)
      rw [HL.out] at O ⊢
      go_wp2_with fail
      refine (below_any 9 b v code _ _ (by omega) K).mono ?_
      rintro e w2 ⟨rfl, k2, c2⟩
      have Bq := curBelow_bd code (n := 9) (curWeights code k c).2 (by omega)
      have e1 : curWeights code (k + 1) c = ((curWeights code k c).1 ++ [1 + (curBelow code 9 (curWeights code k c).2).1], (curBelow code 9 (curWeights code k c).2).2) := rfl
      have E1 := Lib.hid e1
      clear e1
      generalize curBelow code 9 (curWeights code k c).2 = q at *
      have O2 := O.chg c2 (by omega)
      have P2 := P.chg c2 (by simp; omega)
      have C2 := C.trans c2
      have z2 := c2.size
      have z3 : (curWeights code k c).1.length ≤ 3000000 := by rw [HL.out]; omega
      have z3 := Lib.hid z3
      clear K O P C c2 p0 p1 p2 p3 p4 ps
      have hax : Below w2.heap.size w2 (w2.alloc (.cells #[.int .i64 (1 + q.1)] 3)) := (Below.refl _ _).alloc (Nat.le_refl _) _
      go_wp2_with (at_builtin; refine wpList_push_all _ intE (by decide) rfl (.tmp 18) (.tmp 22) rfl Try.underlying27 hi0 hz0 hz1 hz2 rfl (v := .slice A k cap) (l := (curWeights code k c).1) rfl (O2.below hax) rfl (Rd.one intE _ _ (1 + q.1) rfl rfl 1 (Nat.le_refl _) (Nat.lt_succ_self _)) z3.out (by simp) (by decide) (by simp; omega) ?_; intro v5 w5 o5 g5 f5)
      have hb5 : ∀ g, (Value.slice A k cap).ownBlock = some g → w.heap.size + 1 ≤ g := fun g hg => (O2.within g hg).1
      refine ⟨⟨k + 1, by omega, by go_num, ?_, ?_, (P2.below hax).far g5 (fun e => by have := hb5 _ e.symm; omega), (C2.belowNew hax).grownNew g5 (fun g hg => by have := hb5 g hg; omega), by have := g5.size; simp at this; omega⟩, by simp [intOf]; omega⟩
      · rw [E1.out]; exact (k2.below hax).grownNew g5 (fun g hg => by have := hb5 g hg; omega)
      · rw [E1.out]; exact o5
    · have hke : k = p.tasks.toNat := by omega
      by_cases h12 : (k : Int) < p.tasks
      · omega
      · go_wp2
        go_ret
        subst hke
        exact ⟨_, rfl, O.more (by omega), K, C⟩

/-! DrawPlans, DrawWork -/
def TwoPlans (c : Plan × Cur) (d : Plan × Cur) (w : World) (e : Ending) (w' : World) : Prop :=
  ∃ u u', e = .returned (.tuple #[planV c.1 u, planV d.1 u']) ∧ Ow edgeE 52 w' w.heap.size u c.1.edges ∧ Ow edgeE 52 w' w.heap.size u' d.1.edges ∧ Below w.heap.size w w'
theorem drawPlans_any (v : Value) (code : List UInt8) (w : World) (hs : code.length ≤ 1048576) (h : Rd byteE w w.heap.size v code) :
    Calls Try.prog 17 #[v] w (TwoPlans (curPlan code (curNew code)) (curPlan code (curPlan code (curNew code)).2) w) := by
  go_enter Try.func17, Try.ntmps17
  go_wp2_with fail
  obtain ⟨W, hW, Z0, Z1, B0, hz⟩ : ∃ W, W = (w.alloc (.cells #[.int .i64 0, .int .i64 0, .int .i64 0, .int .i64 0, .slice none 0 0] 26)).alloc (.cells #[.int .i64 0, .int .i64 0, .int .i64 0, .int .i64 0, .slice none 0 0] 26) ∧
      BoxAt w.heap.size ⟨0, 0, 0, 0, []⟩ (.slice none 0 0) W ∧ BoxAt (w.heap.size + 1) ⟨0, 0, 0, 0, []⟩ (.slice none 0 0) W ∧ Below w.heap.size w W ∧ W.heap.size = w.heap.size + 2 := by
    refine ⟨_, rfl, ?_, ?_, ?_, by simp⟩
    · exact (BoxAt.new' 26 ⟨0, 0, 0, 0, []⟩ (.slice none 0 0) w rfl).below ((Below.refl _ _).alloc (Nat.le_refl _) _)
    · exact BoxAt.new' 26 ⟨0, 0, 0, 0, []⟩ (.slice none 0 0) _ (by simp)
    · exact bnext ((Below.refl _ _).alloc (Nat.le_refl _) _) ((Below.refl _ _).alloc (Nat.le_refl _) _)
  rw [← hW]
  have HW := Lib.hid hW
  clear hW
  refine (new_any v code W hs ((h.below B0).more B0.size)).mono ?_
  rintro e w1 ⟨g, rfl, hg, k1, b1⟩
  have HG := Lib.hid hg
  have hgz : g = w.heap.size + 2 := by omega
  have HZ := Lib.hid hgz
  clear hgz hg
  have Y0 := Z0.below b1
  have Y1 := Z1.below b1
  have C1 := Chg.of_below [g] (bnext B0 b1)
  have g1 : w.heap.size + 2 ≤ g := by rw [HZ.out]; omega
  clear Z0 Z1 B0 hz b1
  go_wp2_with fail
  refine (drawPlan_any g v code _ w1 k1).mono ?_
  rintro e w2 ⟨u1, rfl, o2, k2, c2⟩
  have X0 := Y0.chg c2 (by simp; omega)
  have X1 := Y1.chg c2 (by simp; omega)
  have C2 := C1.trans c2
  have l2 : g < w1.heap.size := k1.box.lt
  go_wp2_with fail
  refine (drawPlan_any g v code _ w2 k2).mono ?_
  rintro e w3 ⟨u2, rfl, o3, k3, c3⟩
  have l3 := c2.size
  have V0 := X0.chg c3 (by simp; omega)
  have V1 := X1.chg c3 (by simp; omega)
  have C3 := C2.trans c3
  have o2' := o2.chg c3 l2
  clear X0 X1 Y0 Y1 C1 C2 c2 c3 k1 k2 o2
  obtain ⟨A1, e1, rfl, -⟩ := id (Rd.of_own o2')
  obtain ⟨A2, e2, rfl, -⟩ := id (Rd.of_own o3)
  obtain ⟨x0, x1, x2, x3, x4, xs⟩ := V0.cells
  obtain ⟨y0, y1, y2, y3, y4, ys⟩ := V1.cells
  have xf := V0.free
  have yf := V1.free
  generalize curPlan code (curNew code) = P1 at *
  generalize curPlan code P1.2 = P2 at *
  go_wp2
  have hfin : TwoPlans P1 P2 w (.returned (.tuple #[planV P1.1 (.slice A1 P1.1.edges.length e1), planV P2.1 (.slice A2 P2.1.edges.length e2)])) ((((((((((w3.setCell ⟨w.heap.size, 0, none⟩ (.int .i64 P1.1.prio)).setCell ⟨w.heap.size, 1, none⟩ (.int .i64 P1.1.most)).setCell ⟨w.heap.size, 2, none⟩ (.int .i64 P1.1.wait)).setCell ⟨w.heap.size, 3, none⟩ (.int .i64 P1.1.tasks)).setCell ⟨w.heap.size, 4, none⟩ (.slice A1 P1.1.edges.length e1)).setCell ⟨w.heap.size + 1, 0, none⟩ (.int .i64 P2.1.prio)).setCell ⟨w.heap.size + 1, 1, none⟩ (.int .i64 P2.1.most)).setCell ⟨w.heap.size + 1, 2, none⟩ (.int .i64 P2.1.wait)).setCell ⟨w.heap.size + 1, 3, none⟩ (.int .i64 P2.1.tasks)).setCell ⟨w.heap.size + 1, 4, none⟩ (.slice A2 P2.1.edges.length e2)) := by
    refine ⟨_, _, rfl, Ow.more (base := w1.heap.size) ?_ (by omega), Ow.more (base := w2.heap.size) ?_ (by omega), ?_⟩
    · repeat (first | (with_reducible exact o2') | refine Ow.setLow ?_ (by first | (show w.heap.size < _; omega) | (show w.heap.size + 1 < _; omega)) _)
    · repeat (first | (with_reducible exact o3) | refine Ow.setLow ?_ (by first | (show w.heap.size < _; omega) | (show w.heap.size + 1 < _; omega)) _)
    · have hB : Below w.heap.size w w3 := C3.below (Nat.le_refl _) (fun x hx => by simp at hx; omega)
      repeat (first | (with_reducible exact hB) | refine Below.setCell ?_ (by simp <;> omega) _)
  refine bodyPost_ret (v := .tuple #[planV P1.1 (.slice A1 P1.1.edges.length e1), planV P2.1 (.slice A2 P2.1.edges.length e2)]) ?_ rfl hfin
  simp [planV, results, Try.results17, go_sem, *]

def drawnWork (code : List UInt8) : (Plan × Cur) × (List Int × Cur) := (curPlan code (curNew code), curWeights code (curPlan code (curNew code)).1.tasks.toNat (curPlan code (curNew code)).2)
def WorkP (code : List UInt8) (w : World) (e : Ending) (w' : World) : Prop :=
  ∃ u u', e = .returned (.tuple #[planV (drawnWork code).1.1 u, u', .int .i64 (1 + (curBelow code 4 (drawnWork code).2.2).1)]) ∧ Ow edgeE 52 w' w.heap.size u (drawnWork code).1.1.edges ∧ Ow intE 3 w' w.heap.size u' (drawnWork code).2.1 ∧ Below w.heap.size w w'
theorem drawWork_any (v : Value) (code : List UInt8) (w : World) (hs : code.length ≤ 1048576) (h : Rd byteE w w.heap.size v code) :
    Calls Try.prog 7 #[v] w (WorkP code w) := by
  go_enter Try.func7, Try.ntmps7
  go_wp2_with fail
  obtain ⟨W, hW, Z0, B0, hz⟩ : ∃ W, W = (w.alloc (.cells #[.int .i64 0, .int .i64 0, .int .i64 0, .int .i64 0, .slice none 0 0] 26)) ∧
      BoxAt w.heap.size ⟨0, 0, 0, 0, []⟩ (.slice none 0 0) W ∧ Below w.heap.size w W ∧ W.heap.size = w.heap.size + 1 := by
    refine ⟨_, rfl, ?_, ?_, by simp⟩
    · exact BoxAt.new' 26 ⟨0, 0, 0, 0, []⟩ (.slice none 0 0) w rfl
    · exact (Below.refl _ _).alloc (Nat.le_refl _) _
  rw [← hW]
  have HW := Lib.hid hW
  clear hW
  refine (new_any v code W hs ((h.below B0).more B0.size)).mono ?_
  rintro e w1 ⟨g, rfl, hg, k1, b1⟩
  have hgz : g = w.heap.size + 1 := by omega
  have HZ := Lib.hid hgz
  clear hgz hg
  have Y0 := Z0.below b1
  have C1 := Chg.of_below [g] (bnext B0 b1)
  have g1 : w.heap.size + 1 ≤ g := by rw [HZ.out]; omega
  clear Z0 B0 hz b1
  go_wp2_with fail
  refine (drawPlan_any g v code _ w1 k1).mono ?_
  rintro e w2 ⟨u1, rfl, o2, k2, c2⟩
  have X0 := Y0.chg c2 (by simp; omega)
  have C2 := C1.trans c2
  have l2 : g < w1.heap.size := k1.box.lt
  have l3 := c2.size
  have hok := curPlan_ok code (curNew code)
  have HT := manyOk_tasks (planFault_zero.1 hok).1
  have hD : ∀ W e, (∃ u u', e = Ending.returned (.tuple #[planV (curPlan code (curNew code)).1 u, u', .int .i64 (1 + (curBelow code 4 (curWeights code (curPlan code (curNew code)).1.tasks.toNat (curPlan code (curNew code)).2).2).1)]) ∧ Ow edgeE 52 W w.heap.size u (curPlan code (curNew code)).1.edges ∧ Ow intE 3 W w.heap.size u' (curWeights code (curPlan code (curNew code)).1.tasks.toNat (curPlan code (curNew code)).2).1 ∧ Below w.heap.size w W) → WorkP code w e W := fun _ _ h => h
  have HD := Lib.hid hD
  clear hD hok
  generalize curPlan code (curNew code) = P1 at *
  obtain ⟨A1, e1, rfl, -⟩ := id (Rd.of_own o2)
  have ha : Below w2.heap.size w2 (w2.alloc (.cells #[.int .i64 P1.1.prio, .int .i64 P1.1.most, .int .i64 P1.1.wait, .int .i64 P1.1.tasks, .slice A1 P1.1.edges.length e1] 26)) := (Below.refl _ _).alloc (Nat.le_refl _) _
  have P2 := BoxAt.new' 26 P1.1 (.slice A1 P1.1.edges.length e1) w2 rfl
  have V0 := X0.below ha
  have C3 := C2.belowNew ha
  have o3 := o2.below ha
  have k3 := k2.below ha
  have hpb : g < w2.heap.size := k2.box.lt
  obtain ⟨pb, hpb2⟩ : ∃ pb, pb = w2.heap.size := ⟨_, rfl⟩
  go_wp2_with fail
  rw [← hpb2] at P2 hpb ⊢
  have l4 : w1.heap.size ≤ pb := by omega
  clear X0 C2 o2 k2 Y0 C1 k1 c2 hpb2 l3
  generalize (w2.alloc (.cells #[.int .i64 P1.1.prio, .int .i64 P1.1.most, .int .i64 P1.1.wait, .int .i64 P1.1.tasks, .slice A1 P1.1.edges.length e1] 26)) = w3 at *
  obtain ⟨x0, x1, x2, x3, x4, xs⟩ := V0.cells
  obtain ⟨y0, y1, y2, y3, y4, ys⟩ := P2.cells
  have xf := V0.free
  have hne : ¬ pb = w.heap.size := by omega
  go_region_held3 (fun w' => w'.cell? ⟨pb, 0, none⟩ = some (.int .i64 P1.1.prio) ∧ w'.cell? ⟨pb, 1, none⟩ = some (.int .i64 P1.1.most) ∧ w'.cell? ⟨pb, 2, none⟩ = some (.int .i64 P1.1.wait) ∧ w'.cell? ⟨pb, 3, none⟩ = some (.int .i64 P1.1.tasks) ∧ w'.cell? ⟨pb, 4, none⟩ = some (.slice A1 P1.1.edges.length e1)) (first | (refine ⟨?_, ?_, ?_, ?_, ?_⟩ <;> (rw [setBox_cell _ _ _ _ _ hne]; assumption)) | go_keep)
    (first
      | (go_at_call 47; (with_reducible refine (weights_any g v code P1.2 P1.1 _ _ HT (k3.below (Below.refl _ _).drew)).mono ?_); rintro e w4 ⟨u4, rfl, o4, k4, c4⟩; have P4 := (P2.below (Below.refl _ _).drew).chg c4 (by simp; omega); obtain ⟨Y0, Y1, Y2, Y3, Y4, Ys⟩ := P4.cells)
      | (go_at_call 48; (with_reducible refine (below_any 4 g v code _ _ (by omega) k4).mono ?_); rintro e w5 ⟨rfl, k5, c5⟩; have P5 := P4.chg c5 (by simp; omega); obtain ⟨q0, q1, q2, q3, q4, qs⟩ := P5.cells; have V5 := ((V0.below (Below.refl _ _).drew).chg c4 (by simp; omega)).chg c5 (by simp; omega); obtain ⟨v0, v1, v2, v3, v4, vs⟩ := V5.cells; have vf := V5.free))
  go_wp2
  refine bodyPost_ret (v := .tuple #[planV P1.1 (.slice A1 P1.1.edges.length e1), u4, .int .i64 (1 + (curBelow code 4 (curWeights code P1.1.tasks.toNat P1.2).2).1)]) ?_ rfl (HD.out _ _ ⟨_, _, rfl, Ow.more (base := w1.heap.size) ?_ (by omega), Ow.more (base := w3.heap.size) ?_ (by omega), ?_⟩)
  · have hb4 := curBelow_bd code (n := 4) (curWeights code P1.1.tasks.toNat P1.2).2 (by omega)
    have hw4 : IntKind.i64.wrap (1 + (curBelow code 4 (curWeights code P1.1.tasks.toNat P1.2).2).1) = 1 + (curBelow code 4 (curWeights code P1.1.tasks.toNat P1.2).2).1 := IntWalk.i64_in _ (by omega)
    simp [planV, results, Try.results7, go_sem, *]
  · have o5 := ((o3.below (Below.refl _ _).drew).chg c4 l2).chg c5 l2
    repeat (first | (with_reducible exact o5) | refine Ow.setLow ?_ (by show w.heap.size < _; omega) _)
  · have l5 : g < w3.heap.size := k3.box.lt
    have o5 : Ow intE 3 w5 w3.heap.size u4 (curWeights code P1.1.tasks.toNat P1.2).1 := o4.chg c5 l5
    repeat (first | (with_reducible exact o5) | refine Ow.setLow ?_ (by show w.heap.size < _; have := xs; omega) _)
  · have hB : Below w.heap.size w w5 := (((C3.belowNew (Below.refl _ _).drew).trans c4).trans c5).below (Nat.le_refl _) (fun x hx => by simp at hx; omega)
    repeat (first | (with_reducible exact hB) | refine Below.setCell ?_ (by simp <;> omega) _)
end Go.Proofs.Ytnaicippgocdfaa
end
section
namespace Go.Proofs.Ytnaicippgocdfaa
open Go.RowKit
set_option maxRecDepth 100000
set_option maxHeartbeats 2000000

theorem joined_len {p q : Plan} {m : List Edge} : (joined p q m).1.edges.length ≤ p.edges.length + q.edges.length + m.length := by
  unfold joined
  split
  · have := joinL_len p q q.edges.length
    simp only [joinP, List.length_append]
    omega
  · simp [zeroPlan]

theorem implBeside_any (p : Plan) (ve : Value) (q : Plan) (vf : Value) (w : World) (hl : p.edges.length ≤ 2000000) (hl' : q.edges.length ≤ 2000000) (h : Rd edgeE w w.heap.size ve p.edges) (h' : Rd edgeE w w.heap.size vf q.edges) :
    Calls Try.prog 33 #[planV p ve, planV q vf] w (JoinPost (joined p q []) w) := by
  obtain ⟨W, hWe, D, E, Z, hW, hsz⟩ := threeBox_at p ve q vf w
  unfold twoBox planBox at hWe
  have HWe := Lib.hid hWe
  have Hsz := Lib.hid hsz
  clear hWe hsz
  unfold planV
  go_enter Try.func33, Try.ntmps33
  go_wp2_with fail
  rw [← HWe.out]
  refine (implJoined_any p ve q vf _ [] _ hl hl' (by simp) ((h.below hW).more hW.size) ((h'.below hW).more hW.size) (Rd.nil edgeE _ _ 0)).mono ?_
  rintro e w1 ⟨v1, rfl, o1, b1⟩
  obtain ⟨A1, c1, rfl, -⟩ := id (Rd.of_own o1)
  have hz := Z.lt
  have o1 := o1.more (base' := w.heap.size + 3) (by rw [Hsz.out]; omega)
  obtain ⟨z0, z1, z2, z3, z4, zs⟩ := (Z.below b1).cells
  have zf := (Z.below b1).free
  have hW := bnext hW b1
  go_wp2
  refine bodyPost_ret (v := .tuple #[planV (joined p q []).1 (.slice A1 (joined p q []).1.edges.length c1), .bool (joined p q []).2]) ?_ rfl ⟨.slice A1 (joined p q []).1.edges.length c1, rfl, ?_, ?_⟩
  · simp [planV, zeroPlan, results, Try.results33, go_sem, *]
  · refine Ow.more (base := w.heap.size + 3) ?_ (by omega)
    unfold Ow at o1 ⊢
    repeat (first | (with_reducible exact o1) | refine ownsRow_setCell_below ?_ (by simp <;> omega) _)
  · repeat (first | (with_reducible exact hW) | refine Below.setCell ?_ (by simp <;> omega) _)
end Go.Proofs.Ytnaicippgocdfaa
end
section
namespace Go.Proofs.Ytnaicippgocdfaa
open Go.RowKit
set_option maxRecDepth 100000
set_option maxHeartbeats 2000000

/-- the tasks whose list is empty -/
def endsL (f : Nat → List Nat) (k : Nat) : List Nat := (List.range k).filter fun t => (f t).isEmpty
theorem endsL_succ (f : Nat → List Nat) (k : Nat) : endsL f (k + 1) = endsL f k ++ if (f k).isEmpty then [k] else [] := by
  unfold endsL
  rw [List.range_succ, List.filter_append, List.filter_cons, List.filter_nil]
theorem endsL_len (f : Nat → List Nat) (k : Nat) : (endsL f k).length ≤ k := by
  have := List.length_filter_le (fun t => (f t).isEmpty) (List.range k)
  simpa [endsL] using this
open Classical in
noncomputable def sourcesOf (p : Plan) : List Nat := if planFault p = 0 then endsL (fun t => beforeL (esOf p) p.tasks.toNat t) p.tasks.toNat else []
open Classical in
noncomputable def sinksOf (p : Plan) : List Nat := if planFault p = 0 then endsL (fun t => behindL (esOf p) p.tasks.toNat t) p.tasks.toNat else []
theorem sourcesOf_len (p : Plan) : (sourcesOf p).length ≤ 12 := by
  unfold sourcesOf
  split
  · rename_i hf
    have := manyOk_tasks (planFault_zero.1 hf).1
    have := endsL_len (fun t => beforeL (esOf p) p.tasks.toNat t) p.tasks.toNat
    omega
  · simp
theorem sinksOf_len (p : Plan) : (sinksOf p).length ≤ 12 := by
  unfold sinksOf
  split
  · rename_i hf
    have := manyOk_tasks (planFault_zero.1 hf).1
    have := endsL_len (fun t => behindL (esOf p) p.tasks.toNat t) p.tasks.toNat
    omega
  · simp

theorem implSources_any (p : Plan) (ve : Value) (w : World) (hl : p.edges.length ≤ 2000000) (h : Rd edgeE w w.heap.size ve p.edges) :
    Calls Try.prog 21 #[planV p ve] w fun e w' => ∃ v, e = .returned v ∧ Ow natE 3 w' w.heap.size v (sourcesOf p) ∧ Below w.heap.size w w' := by
  have hb0 := planBox_below 26 p ve w
  have D0 := BoxAt.new 26 p ve w
  have hw0 := planBox_size 26 p ve w
  have O0 := Ow.nil natE 3 (planBox 26 p ve w) (w.heap.size + 1)
  by_cases hf : planFault p = 0
  case neg =>
    have hfb : (planFault p == 0) = false := by simp [hf]
    have H := Lib.hid (show sourcesOf p = [] by unfold sourcesOf; rw [if_neg hf])
    clear hf
    unfold planV
    go_enter Try.func21, Try.ntmps21
    go_wp2
    go_loopw [3, 4] (fun vl i wr => ∃ k : Nat, k = 0 ∧ i = .int .i64 k ∧ Ow natE 3 wr (w.heap.size + 1) vl [] ∧ BoxAt w.heap.size p ve wr ∧ Below w.heap.size w wr) (fun _ _ _ => 0)
    case atStart => exact ⟨0, rfl, rfl, O0, D0, hb0⟩
    case round =>
      clear O0 D0 hb0
      obtain ⟨k, rfl, rfl, ho, D, hb⟩ := hrel
      obtain ⟨x0, x1, x2, x3, x4, xs⟩ := D.cells
      go_wp2_with fail
      refine (implPlanFault_any p ve _ hl ((h.below hb).more hb.size)).mono ?_
      rintro e w1 ⟨rfl, hb1⟩
      go_wp2
      go_ret
      exact ⟨_, rfl, by rw [H.out]; exact (ho.below hb1).more (by omega), bnext hb hb1⟩
  have hfb : (planFault p == 0) = true := by simp [hf]
  have G := Lib.hid (planFault_zero.1 hf)
  have HF := Lib.hid hf
  obtain ⟨t1, t2⟩ := manyOk_tasks G.out.1
  obtain ⟨T, hT⟩ := Int.eq_ofNat_of_zero_le (show 0 ≤ p.tasks by omega)
  have HT := Lib.hid hT
  have HTn := Lib.hid (show p.tasks.toNat = T by omega)
  have hT12 : T ≤ 12 := by omega
  have H := Lib.hid (show sourcesOf p = endsL (fun t => beforeL (esOf p) T t) T by unfold sourcesOf; rw [if_pos hf, HTn.out])
  obtain ⟨j0, hj0, jz0, jz1, jz2⟩ := info_parts int_info
  clear hf hT
  unfold planV
  go_enter Try.func21, Try.ntmps21
  go_wp2
  go_loopw [3, 4] (fun vl i wr => ∃ k : Nat, k ≤ T ∧ i = .int .i64 k ∧ Ow natE 3 wr (w.heap.size + 1) vl (endsL (fun t => beforeL (esOf p) T t) k) ∧ BoxAt w.heap.size p ve wr ∧ Below w.heap.size w wr) (fun _ i _ => T - (intOf i).toNat)
  case atStart => exact ⟨0, Nat.zero_le _, rfl, O0, D0, hb0⟩
  case round =>
    clear O0 D0 hb0
    obtain ⟨k, hk, rfl, ho, D, hb⟩ := hrel
    obtain ⟨x0, x1, x2, x3, x4, xs⟩ := D.cells
    go_wp2_with fail
    clear x0 x1 x2 x3 x4 xs
    refine (implPlanFault_any p ve _ hl ((h.below hb).more hb.size)).mono ?_
    rintro e w1 ⟨rfl, hb1⟩
    have ho := ho.below hb1
    have D := D.below hb1
    have hb := bnext hb hb1
    obtain ⟨x0, x1, x2, x3, x4, xs⟩ := D.cells
    by_cases hlt : k < T
    · have hltI : (k : Int) < p.tasks := by rw [HT.out]; omega
      go_wp2_with fail
      clear x0 x1 x2 x3 x4 xs
      refine (implBefore_any p ve k _ HF.out ((h.below hb).more hb.size)).mono ?_
      rintro e w2 ⟨v2, rfl, o2, hb2⟩
      rw [HTn.out] at o2
      have ho := ho.below hb2
      have D := D.below hb2
      have hb := bnext hb hb2
      have hun := Lib.hid (endsL_succ (fun t => beforeL (esOf p) T t) k)
      have Hl := Lib.hid (endsL_len (fun t => beforeL (esOf p) T t) k)
      have hDl := D.lt
      generalize hL : beforeL (esOf p) T k = L at *
      clear hL
      obtain ⟨A2, c2, rfl, -⟩ := id (Rd.of_own o2)
      cases L with
      | nil =>
        have S := Lib.hid (show endsL (fun t => beforeL (esOf p) T t) (k + 1) = endsL (fun t => beforeL (esOf p) T t) k ++ [k] by rw [hun.out]; simp)
        have ha : Hid (∀ w : World, Below w.heap.size w (w.alloc (.cells #[.int .i64 (k : Int)] 3))) := fun w => (Below.refl _ _).alloc (Nat.le_refl _) _
        go_wp2_with (at_builtin; refine wpList_push_all _ natE (by decide) rfl (.tmp 21) (.tmp 23) rfl Try.underlying27 hj0 jz0 jz1 jz2 rfl (l := endsL (fun t => beforeL (esOf p) T t) k) rfl (ho.below (ha.out _)) rfl (Rd.one natE _ _ k rfl rfl 1 (Nat.le_refl _) (Nat.lt_succ_self _)) (by have := Hl.out; omega) (by simp) (by decide) (by simp; omega) ?_; intro v5 w5 o5 g5 _)
        have D5 := (D.below (ha.out _)).far g5 (fun e => by have := ho.within _ e.symm; omega)
        have hb' := bnext hb (ha.out _)
        have W5 := hb'.grown g5 hb'.size (fun g hg => by have := ho.within _ hg; omega)
        exact ⟨⟨k + 1, by omega, by go_num, by rw [S.out]; exact o5, D5, W5⟩, by simp [intOf]; omega⟩
      | cons a L =>
        have S := Lib.hid (show endsL (fun t => beforeL (esOf p) T t) (k + 1) = endsL (fun t => beforeL (esOf p) T t) k by rw [hun.out]; simp)
        have hcb : (((a :: L).length : Int) == 0) = false := beq_eq_false_iff_ne.2 (by simp only [List.length_cons]; omega)
        generalize (a :: L).length = m at *
        go_wp2
        exact ⟨⟨k + 1, by omega, by go_num, by rw [S.out]; exact ho, D, hb⟩, by simp [intOf]; omega⟩
    · have hltI : ¬ (k : Int) < p.tasks := by rw [HT.out]; omega
      have hk' : k = T := by omega
      subst hk'
      go_wp2
      go_ret
      exact ⟨_, rfl, by rw [H.out]; exact ho.more (by omega), hb⟩

theorem implSinks_any (p : Plan) (ve : Value) (w : World) (hl : p.edges.length ≤ 2000000) (h : Rd edgeE w w.heap.size ve p.edges) :
    Calls Try.prog 23 #[planV p ve] w fun e w' => ∃ v, e = .returned v ∧ Ow natE 3 w' w.heap.size v (sinksOf p) ∧ Below w.heap.size w w' := by
  have hb0 := planBox_below 26 p ve w
  have D0 := BoxAt.new 26 p ve w
  have hw0 := planBox_size 26 p ve w
  have O0 := Ow.nil natE 3 (planBox 26 p ve w) (w.heap.size + 1)
  by_cases hf : planFault p = 0
  case neg =>
    have hfb : (planFault p == 0) = false := by simp [hf]
    have H := Lib.hid (show sinksOf p = [] by unfold sinksOf; rw [if_neg hf])
    clear hf
    unfold planV
    go_enter Try.func23, Try.ntmps23
    go_wp2
    go_loopw [3, 4] (fun vl i wr => ∃ k : Nat, k = 0 ∧ i = .int .i64 k ∧ Ow natE 3 wr (w.heap.size + 1) vl [] ∧ BoxAt w.heap.size p ve wr ∧ Below w.heap.size w wr) (fun _ _ _ => 0)
    case atStart => exact ⟨0, rfl, rfl, O0, D0, hb0⟩
    case round =>
      clear O0 D0 hb0
      obtain ⟨k, rfl, rfl, ho, D, hb⟩ := hrel
      obtain ⟨x0, x1, x2, x3, x4, xs⟩ := D.cells
      go_wp2_with fail
      refine (implPlanFault_any p ve _ hl ((h.below hb).more hb.size)).mono ?_
      rintro e w1 ⟨rfl, hb1⟩
      go_wp2
      go_ret
      exact ⟨_, rfl, by rw [H.out]; exact (ho.below hb1).more (by omega), bnext hb hb1⟩
  have hfb : (planFault p == 0) = true := by simp [hf]
  have G := Lib.hid (planFault_zero.1 hf)
  have HF := Lib.hid hf
  obtain ⟨t1, t2⟩ := manyOk_tasks G.out.1
  obtain ⟨T, hT⟩ := Int.eq_ofNat_of_zero_le (show 0 ≤ p.tasks by omega)
  have HT := Lib.hid hT
  have HTn := Lib.hid (show p.tasks.toNat = T by omega)
  have hT12 : T ≤ 12 := by omega
  have H := Lib.hid (show sinksOf p = endsL (fun t => behindL (esOf p) T t) T by unfold sinksOf; rw [if_pos hf, HTn.out])
  obtain ⟨j0, hj0, jz0, jz1, jz2⟩ := info_parts int_info
  clear hf hT
  unfold planV
  go_enter Try.func23, Try.ntmps23
  go_wp2
  go_loopw [3, 4] (fun vl i wr => ∃ k : Nat, k ≤ T ∧ i = .int .i64 k ∧ Ow natE 3 wr (w.heap.size + 1) vl (endsL (fun t => behindL (esOf p) T t) k) ∧ BoxAt w.heap.size p ve wr ∧ Below w.heap.size w wr) (fun _ i _ => T - (intOf i).toNat)
  case atStart => exact ⟨0, Nat.zero_le _, rfl, O0, D0, hb0⟩
  case round =>
    clear O0 D0 hb0
    obtain ⟨k, hk, rfl, ho, D, hb⟩ := hrel
    obtain ⟨x0, x1, x2, x3, x4, xs⟩ := D.cells
    go_wp2_with fail
    clear x0 x1 x2 x3 x4 xs
    refine (implPlanFault_any p ve _ hl ((h.below hb).more hb.size)).mono ?_
    rintro e w1 ⟨rfl, hb1⟩
    have ho := ho.below hb1
    have D := D.below hb1
    have hb := bnext hb hb1
    obtain ⟨x0, x1, x2, x3, x4, xs⟩ := D.cells
    by_cases hlt : k < T
    · have hltI : (k : Int) < p.tasks := by rw [HT.out]; omega
      go_wp2_with fail
      clear x0 x1 x2 x3 x4 xs
      refine (implBehind_any p ve k _ HF.out ((h.below hb).more hb.size)).mono ?_
      rintro e w2 ⟨v2, rfl, o2, hb2⟩
      rw [HTn.out] at o2
      have ho := ho.below hb2
      have D := D.below hb2
      have hb := bnext hb hb2
      have hun := Lib.hid (endsL_succ (fun t => behindL (esOf p) T t) k)
      have Hl := Lib.hid (endsL_len (fun t => behindL (esOf p) T t) k)
      have hDl := D.lt
      generalize hL : behindL (esOf p) T k = L at *
      clear hL
      obtain ⟨A2, c2, rfl, -⟩ := id (Rd.of_own o2)
      cases L with
      | nil =>
        have S := Lib.hid (show endsL (fun t => behindL (esOf p) T t) (k + 1) = endsL (fun t => behindL (esOf p) T t) k ++ [k] by rw [hun.out]; simp)
        have ha : Hid (∀ w : World, Below w.heap.size w (w.alloc (.cells #[.int .i64 (k : Int)] 3))) := fun w => (Below.refl _ _).alloc (Nat.le_refl _) _
        go_wp2_with (at_builtin; refine wpList_push_all _ natE (by decide) rfl (.tmp 21) (.tmp 23) rfl Try.underlying27 hj0 jz0 jz1 jz2 rfl (l := endsL (fun t => behindL (esOf p) T t) k) rfl (ho.below (ha.out _)) rfl (Rd.one natE _ _ k rfl rfl 1 (Nat.le_refl _) (Nat.lt_succ_self _)) (by have := Hl.out; omega) (by simp) (by decide) (by simp; omega) ?_; intro v5 w5 o5 g5 _)
        have D5 := (D.below (ha.out _)).far g5 (fun e => by have := ho.within _ e.symm; omega)
        have hb' := bnext hb (ha.out _)
        have W5 := hb'.grown g5 hb'.size (fun g hg => by have := ho.within _ hg; omega)
        exact ⟨⟨k + 1, by omega, by go_num, by rw [S.out]; exact o5, D5, W5⟩, by simp [intOf]; omega⟩
      | cons a L =>
        have S := Lib.hid (show endsL (fun t => behindL (esOf p) T t) (k + 1) = endsL (fun t => behindL (esOf p) T t) k by rw [hun.out]; simp)
        have hcb : (((a :: L).length : Int) == 0) = false := beq_eq_false_iff_ne.2 (by simp only [List.length_cons]; omega)
        generalize (a :: L).length = m at *
        go_wp2
        exact ⟨⟨k + 1, by omega, by go_num, by rw [S.out]; exact ho, D, hb⟩, by simp [intOf]; omega⟩
    · have hltI : ¬ (k : Int) < p.tasks := by rw [HT.out]; omega
      have hk' : k = T := by omega
      subst hk'
      go_wp2
      go_ret
      exact ⟨_, rfl, by rw [H.out]; exact ho.more (by omega), hb⟩

theorem specSources_any (p : Plan) (ve : Value) (w : World) (hl : p.edges.length ≤ 2000000) (h : Rd edgeE w w.heap.size ve p.edges) :
    Calls Try.prog 24 #[planV p ve] w fun e w' => ∃ v, e = .returned v ∧ Ow natE 3 w' w.heap.size v (sourcesOf p) ∧ Below w.heap.size w w' := by
  have ha0 : ∀ w : World, Below w.heap.size w (w.alloc (.cells #[] 3)) := fun w => (Below.refl _ _).alloc (Nat.le_refl _) _
  have hb0 := bnext (planBox_below 26 p ve w) (ha0 _)
  have D0 := (BoxAt.new 26 p ve w).below (ha0 _)
  have O0 := Ow.empty natE 3 (planBox 26 p ve w) (g := w.heap.size + 1) (by rw [planBox_size])
  clear ha0
  by_cases hf : planFault p = 0
  case neg =>
    have hfb : (planFault p == 0) = false := by simp [hf]
    have H := Lib.hid (show sourcesOf p = [] by unfold sourcesOf; rw [if_neg hf])
    clear hf
    unfold planV
    go_enter Try.func24, Try.ntmps24
    go_wp2
    go_loopw [3, 4] (fun vl i wr => ∃ k : Nat, k = 0 ∧ i = .int .i64 k ∧ Ow natE 3 wr (w.heap.size + 1) vl [] ∧ BoxAt w.heap.size p ve wr ∧ Below w.heap.size w wr) (fun _ _ _ => 0)
    case atStart => exact ⟨0, rfl, rfl, O0, D0, hb0⟩
    case round =>
      clear O0 D0 hb0
      obtain ⟨k, rfl, rfl, ho, D, hb⟩ := hrel
      obtain ⟨x0, x1, x2, x3, x4, xs⟩ := D.cells
      go_wp2_with fail
      refine (specPlanFault_any p ve _ hl ((h.below hb).more hb.size)).mono ?_
      rintro e w1 ⟨rfl, hb1⟩
      go_wp2
      go_ret
      exact ⟨_, rfl, by rw [H.out]; exact (ho.below hb1).more (by omega), bnext hb hb1⟩
  have hfb : (planFault p == 0) = true := by simp [hf]
  have G := Lib.hid (planFault_zero.1 hf)
  have HF := Lib.hid hf
  obtain ⟨t1, t2⟩ := manyOk_tasks G.out.1
  obtain ⟨T, hT⟩ := Int.eq_ofNat_of_zero_le (show 0 ≤ p.tasks by omega)
  have HT := Lib.hid hT
  have HTn := Lib.hid (show p.tasks.toNat = T by omega)
  have hT12 : T ≤ 12 := by omega
  have H := Lib.hid (show sourcesOf p = endsL (fun t => beforeL (esOf p) T t) T by unfold sourcesOf; rw [if_pos hf, HTn.out])
  obtain ⟨j0, hj0, jz0, jz1, jz2⟩ := info_parts int_info
  clear hf hT
  unfold planV
  go_enter Try.func24, Try.ntmps24
  go_wp2
  go_loopw [3, 4] (fun vl i wr => ∃ k : Nat, k ≤ T ∧ i = .int .i64 k ∧ Ow natE 3 wr (w.heap.size + 1) vl (endsL (fun t => beforeL (esOf p) T t) k) ∧ BoxAt w.heap.size p ve wr ∧ Below w.heap.size w wr) (fun _ i _ => T - (intOf i).toNat)
  case atStart => exact ⟨0, Nat.zero_le _, rfl, O0, D0, hb0⟩
  case round =>
    clear O0 D0 hb0
    obtain ⟨k, hk, rfl, ho, D, hb⟩ := hrel
    obtain ⟨x0, x1, x2, x3, x4, xs⟩ := D.cells
    go_wp2_with fail
    clear x0 x1 x2 x3 x4 xs
    refine (specPlanFault_any p ve _ hl ((h.below hb).more hb.size)).mono ?_
    rintro e w1 ⟨rfl, hb1⟩
    have ho := ho.below hb1
    have D := D.below hb1
    have hb := bnext hb hb1
    obtain ⟨x0, x1, x2, x3, x4, xs⟩ := D.cells
    by_cases hlt : k < T
    · have hltI : (k : Int) < p.tasks := by rw [HT.out]; omega
      go_wp2_with fail
      clear x0 x1 x2 x3 x4 xs
      refine (specBefore_any p ve k _ G.out.1 G.out.2.1 G.out.2.2.1 ((h.below hb).more hb.size)).mono ?_
      rintro e w2 ⟨v2, rfl, o2, hb2⟩
      rw [HTn.out] at o2
      have ho := ho.below hb2
      have D := D.below hb2
      have hb := bnext hb hb2
      have hun := Lib.hid (endsL_succ (fun t => beforeL (esOf p) T t) k)
      have Hl := Lib.hid (endsL_len (fun t => beforeL (esOf p) T t) k)
      have hDl := D.lt
      generalize hL : beforeL (esOf p) T k = L at *
      clear hL
      obtain ⟨A2, c2, rfl, -⟩ := id (Rd.of_own o2)
      cases L with
      | nil =>
        have S := Lib.hid (show endsL (fun t => beforeL (esOf p) T t) (k + 1) = endsL (fun t => beforeL (esOf p) T t) k ++ [k] by rw [hun.out]; simp)
        have ha : Hid (∀ w : World, Below w.heap.size w (w.alloc (.cells #[.int .i64 (k : Int)] 3))) := fun w => (Below.refl _ _).alloc (Nat.le_refl _) _
        go_wp2_with (at_builtin; refine wpList_push_all _ natE (by decide) rfl (.tmp 22) (.tmp 24) rfl Try.underlying27 hj0 jz0 jz1 jz2 rfl (l := endsL (fun t => beforeL (esOf p) T t) k) rfl (ho.below (ha.out _)) rfl (Rd.one natE _ _ k rfl rfl 1 (Nat.le_refl _) (Nat.lt_succ_self _)) (by have := Hl.out; omega) (by simp) (by decide) (by simp; omega) ?_; intro v5 w5 o5 g5 _)
        have D5 := (D.below (ha.out _)).far g5 (fun e => by have := ho.within _ e.symm; omega)
        have hb' := bnext hb (ha.out _)
        have W5 := hb'.grown g5 hb'.size (fun g hg => by have := ho.within _ hg; omega)
        exact ⟨⟨k + 1, by omega, by go_num, by rw [S.out]; exact o5, D5, W5⟩, by simp [intOf]; omega⟩
      | cons a L =>
        have S := Lib.hid (show endsL (fun t => beforeL (esOf p) T t) (k + 1) = endsL (fun t => beforeL (esOf p) T t) k by rw [hun.out]; simp)
        have hcb : (((a :: L).length : Int) == 0) = false := beq_eq_false_iff_ne.2 (by simp only [List.length_cons]; omega)
        generalize (a :: L).length = m at *
        go_wp2
        exact ⟨⟨k + 1, by omega, by go_num, by rw [S.out]; exact ho, D, hb⟩, by simp [intOf]; omega⟩
    · have hltI : ¬ (k : Int) < p.tasks := by rw [HT.out]; omega
      have hk' : k = T := by omega
      subst hk'
      go_wp2
      go_ret
      exact ⟨_, rfl, by rw [H.out]; exact ho.more (by omega), hb⟩

theorem specSinks_any (p : Plan) (ve : Value) (w : World) (hl : p.edges.length ≤ 2000000) (h : Rd edgeE w w.heap.size ve p.edges) :
    Calls Try.prog 22 #[planV p ve] w fun e w' => ∃ v, e = .returned v ∧ Ow natE 3 w' w.heap.size v (sinksOf p) ∧ Below w.heap.size w w' := by
  have ha0 : ∀ w : World, Below w.heap.size w (w.alloc (.cells #[] 3)) := fun w => (Below.refl _ _).alloc (Nat.le_refl _) _
  have hb0 := bnext (planBox_below 26 p ve w) (ha0 _)
  have D0 := (BoxAt.new 26 p ve w).below (ha0 _)
  have O0 := Ow.empty natE 3 (planBox 26 p ve w) (g := w.heap.size + 1) (by rw [planBox_size])
  clear ha0
  by_cases hf : planFault p = 0
  case neg =>
    have hfb : (planFault p == 0) = false := by simp [hf]
    have H := Lib.hid (show sinksOf p = [] by unfold sinksOf; rw [if_neg hf])
    clear hf
    unfold planV
    go_enter Try.func22, Try.ntmps22
    go_wp2
    go_loopw [3, 4] (fun vl i wr => ∃ k : Nat, k = 0 ∧ i = .int .i64 k ∧ Ow natE 3 wr (w.heap.size + 1) vl [] ∧ BoxAt w.heap.size p ve wr ∧ Below w.heap.size w wr) (fun _ _ _ => 0)
    case atStart => exact ⟨0, rfl, rfl, O0, D0, hb0⟩
    case round =>
      clear O0 D0 hb0
      obtain ⟨k, rfl, rfl, ho, D, hb⟩ := hrel
      obtain ⟨x0, x1, x2, x3, x4, xs⟩ := D.cells
      go_wp2_with fail
      refine (specPlanFault_any p ve _ hl ((h.below hb).more hb.size)).mono ?_
      rintro e w1 ⟨rfl, hb1⟩
      go_wp2
      go_ret
      exact ⟨_, rfl, by rw [H.out]; exact (ho.below hb1).more (by omega), bnext hb hb1⟩
  have hfb : (planFault p == 0) = true := by simp [hf]
  have G := Lib.hid (planFault_zero.1 hf)
  have HF := Lib.hid hf
  obtain ⟨t1, t2⟩ := manyOk_tasks G.out.1
  obtain ⟨T, hT⟩ := Int.eq_ofNat_of_zero_le (show 0 ≤ p.tasks by omega)
  have HT := Lib.hid hT
  have HTn := Lib.hid (show p.tasks.toNat = T by omega)
  have hT12 : T ≤ 12 := by omega
  have H := Lib.hid (show sinksOf p = endsL (fun t => behindL (esOf p) T t) T by unfold sinksOf; rw [if_pos hf, HTn.out])
  obtain ⟨j0, hj0, jz0, jz1, jz2⟩ := info_parts int_info
  clear hf hT
  unfold planV
  go_enter Try.func22, Try.ntmps22
  go_wp2
  go_loopw [3, 4] (fun vl i wr => ∃ k : Nat, k ≤ T ∧ i = .int .i64 k ∧ Ow natE 3 wr (w.heap.size + 1) vl (endsL (fun t => behindL (esOf p) T t) k) ∧ BoxAt w.heap.size p ve wr ∧ Below w.heap.size w wr) (fun _ i _ => T - (intOf i).toNat)
  case atStart => exact ⟨0, Nat.zero_le _, rfl, O0, D0, hb0⟩
  case round =>
    clear O0 D0 hb0
    obtain ⟨k, hk, rfl, ho, D, hb⟩ := hrel
    obtain ⟨x0, x1, x2, x3, x4, xs⟩ := D.cells
    go_wp2_with fail
    clear x0 x1 x2 x3 x4 xs
    refine (specPlanFault_any p ve _ hl ((h.below hb).more hb.size)).mono ?_
    rintro e w1 ⟨rfl, hb1⟩
    have ho := ho.below hb1
    have D := D.below hb1
    have hb := bnext hb hb1
    obtain ⟨x0, x1, x2, x3, x4, xs⟩ := D.cells
    by_cases hlt : k < T
    · have hltI : (k : Int) < p.tasks := by rw [HT.out]; omega
      go_wp2_with fail
      clear x0 x1 x2 x3 x4 xs
      refine (specBehind_any p ve k _ G.out.1 G.out.2.1 G.out.2.2.1 ((h.below hb).more hb.size)).mono ?_
      rintro e w2 ⟨v2, rfl, o2, hb2⟩
      rw [HTn.out] at o2
      have ho := ho.below hb2
      have D := D.below hb2
      have hb := bnext hb hb2
      have hun := Lib.hid (endsL_succ (fun t => behindL (esOf p) T t) k)
      have Hl := Lib.hid (endsL_len (fun t => behindL (esOf p) T t) k)
      have hDl := D.lt
      generalize hL : behindL (esOf p) T k = L at *
      clear hL
      obtain ⟨A2, c2, rfl, -⟩ := id (Rd.of_own o2)
      cases L with
      | nil =>
        have S := Lib.hid (show endsL (fun t => behindL (esOf p) T t) (k + 1) = endsL (fun t => behindL (esOf p) T t) k ++ [k] by rw [hun.out]; simp)
        have ha : Hid (∀ w : World, Below w.heap.size w (w.alloc (.cells #[.int .i64 (k : Int)] 3))) := fun w => (Below.refl _ _).alloc (Nat.le_refl _) _
        go_wp2_with (at_builtin; refine wpList_push_all _ natE (by decide) rfl (.tmp 22) (.tmp 24) rfl Try.underlying27 hj0 jz0 jz1 jz2 rfl (l := endsL (fun t => behindL (esOf p) T t) k) rfl (ho.below (ha.out _)) rfl (Rd.one natE _ _ k rfl rfl 1 (Nat.le_refl _) (Nat.lt_succ_self _)) (by have := Hl.out; omega) (by simp) (by decide) (by simp; omega) ?_; intro v5 w5 o5 g5 _)
        have D5 := (D.below (ha.out _)).far g5 (fun e => by have := ho.within _ e.symm; omega)
        have hb' := bnext hb (ha.out _)
        have W5 := hb'.grown g5 hb'.size (fun g hg => by have := ho.within _ hg; omega)
        exact ⟨⟨k + 1, by omega, by go_num, by rw [S.out]; exact o5, D5, W5⟩, by simp [intOf]; omega⟩
      | cons a L =>
        have S := Lib.hid (show endsL (fun t => behindL (esOf p) T t) (k + 1) = endsL (fun t => behindL (esOf p) T t) k by rw [hun.out]; simp)
        have hcb : (((a :: L).length : Int) == 0) = false := beq_eq_false_iff_ne.2 (by simp only [List.length_cons]; omega)
        generalize (a :: L).length = m at *
        go_wp2
        exact ⟨⟨k + 1, by omega, by go_num, by rw [S.out]; exact ho, D, hb⟩, by simp [intOf]; omega⟩
    · have hltI : ¬ (k : Int) < p.tasks := by rw [HT.out]; omega
      have hk' : k = T := by omega
      subst hk'
      go_wp2
      go_ret
      exact ⟨_, rfl, by rw [H.out]; exact ho.more (by omega), hb⟩

theorem natE_intE (l : List Nat) : l.flatMap natE.cells = (l.map fun (x : Nat) => (x : Int)).flatMap intE.cells := by
  induction l with
  | nil => rfl
  | cons a l ih => rw [List.flatMap_cons, ih]; rfl
theorem Ow.toInt {w : World} {base : Nat} {v : Value} {l : List Nat} (h : Ow natE 3 w base v l) : Ow intE 3 w base v (l.map fun (x : Nat) => (x : Int)) := by
  unfold Ow at *
  rw [← natE_intE, List.length_map]
  exact h
noncomputable def sourcesI (p : Plan) : List Int := (sourcesOf p).map fun (x : Nat) => (x : Int)
noncomputable def sinksI (p : Plan) : List Int := (sinksOf p).map fun (x : Nat) => (x : Int)
theorem implSourcesI_any (p : Plan) (ve : Value) (w : World) (hl : p.edges.length ≤ 2000000) (h : Rd edgeE w w.heap.size ve p.edges) :
    Calls Try.prog 21 #[planV p ve] w fun e w' => ∃ v, e = .returned v ∧ Ow intE 3 w' w.heap.size v (sourcesI p) ∧ Below w.heap.size w w' :=
  (implSources_any p ve w hl h).mono fun _ _ ⟨v, he, ho, hb⟩ => ⟨v, he, ho.toInt, hb⟩
theorem implSinksI_any (p : Plan) (ve : Value) (w : World) (hl : p.edges.length ≤ 2000000) (h : Rd edgeE w w.heap.size ve p.edges) :
    Calls Try.prog 23 #[planV p ve] w fun e w' => ∃ v, e = .returned v ∧ Ow intE 3 w' w.heap.size v (sinksI p) ∧ Below w.heap.size w w' :=
  (implSinks_any p ve w hl h).mono fun _ _ ⟨v, he, ho, hb⟩ => ⟨v, he, ho.toInt, hb⟩
theorem specSourcesI_any (p : Plan) (ve : Value) (w : World) (hl : p.edges.length ≤ 2000000) (h : Rd edgeE w w.heap.size ve p.edges) :
    Calls Try.prog 24 #[planV p ve] w fun e w' => ∃ v, e = .returned v ∧ Ow intE 3 w' w.heap.size v (sourcesI p) ∧ Below w.heap.size w w' :=
  (specSources_any p ve w hl h).mono fun _ _ ⟨v, he, ho, hb⟩ => ⟨v, he, ho.toInt, hb⟩
theorem specSinksI_any (p : Plan) (ve : Value) (w : World) (hl : p.edges.length ≤ 2000000) (h : Rd edgeE w w.heap.size ve p.edges) :
    Calls Try.prog 22 #[planV p ve] w fun e w' => ∃ v, e = .returned v ∧ Ow intE 3 w' w.heap.size v (sinksI p) ∧ Below w.heap.size w w' :=
  (specSinks_any p ve w hl h).mono fun _ _ ⟨v, he, ho, hb⟩ => ⟨v, he, ho.toInt, hb⟩
theorem sourcesI_len (p : Plan) : (sourcesI p).length ≤ 2000000 := by
  have := sourcesOf_len p
  simp only [sourcesI, List.length_map]
  omega
theorem sinksI_len (p : Plan) : (sinksI p).length ≤ 2000000 := by
  have := sinksOf_len p
  simp only [sinksI, List.length_map]
  omega
end Go.Proofs.Ytnaicippgocdfaa
end
section
namespace Go.Proofs.Ytnaicippgocdfaa
open Go.RowKit
set_option maxRecDepth 100000
set_option maxHeartbeats 2000000

def crossE (t : Int) (a b : Nat) : Edge := ⟨(a : Int), (b : Int) + t⟩
def crossRow (t : Int) (B : List Nat) (a : Nat) : List Edge := B.map (crossE t a)
def crossL (t : Int) (A B : List Nat) : List Edge := A.flatMap (crossRow t B)
noncomputable def moreL (p q : Plan) : List Edge := crossL p.tasks (sinksOf p) (sourcesOf q)
theorem crossL_len (t : Int) (A B : List Nat) : (crossL t A B).length = A.length * B.length := by
  induction A with
  | nil => simp [crossL]
  | cons a A ih =>
    unfold crossL at *
    rw [List.flatMap_cons, List.length_append, ih, List.length_cons, Nat.succ_mul]
    simp [crossRow]
    omega
theorem crossL_small (t : Int) {A B : List Nat} (hA : A.length ≤ 12) (hB : B.length ≤ 12) : (crossL t A B).length ≤ 144 := by
  rw [crossL_len]
  exact Nat.mul_le_mul hA hB
theorem moreL_len (p q : Plan) : (moreL p q).length ≤ 144 := crossL_small _ (sinksOf_len p) (sourcesOf_len q)
/-- what is laid so far: the rows of k tasks, and j of the next one's -/
def crossK (t : Int) (A B : List Nat) (k : Nat) : List Edge := crossL t (A.take k) B
theorem crossK_succ (t : Int) (A B : List Nat) {k : Nat} (h : k < A.length) : crossK t A B (k + 1) = crossK t A B k ++ crossRow t B A[k] := by
  unfold crossK crossL
  rw [take_snoc A k h, List.flatMap_append, List.flatMap_singleton]
theorem crossRow_succ (t : Int) (B : List Nat) (a : Nat) {j : Nat} (h : j < B.length) : crossRow t (B.take (j + 1)) a = crossRow t (B.take j) a ++ [crossE t a B[j]] := by
  unfold crossRow
  rw [take_snoc B j h, List.map_append]
  rfl
theorem crossK_len (t : Int) {A B : List Nat} (hA : A.length ≤ 12) (hB : B.length ≤ 12) (k : Nat) : (crossK t A B k).length ≤ 144 := by
  refine crossL_small t ?_ hB
  have := List.length_take_le' k A
  omega
theorem endsL_lt (f : Nat → List Nat) (k : Nat) : ∀ x ∈ endsL f k, x < k := fun x hx => by simp [endsL] at hx; exact hx.1
theorem sinksOf_pos {p : Plan} (h : 0 < (sinksOf p).length) : 1 ≤ p.tasks ∧ p.tasks ≤ 12 := by
  unfold sinksOf at h
  split at h
  · rename_i hf
    exact manyOk_tasks (planFault_zero.1 hf).1
  · simp at h
theorem sourcesOf_lt (p : Plan) : ∀ x ∈ sourcesOf p, x < 12 := by
  unfold sourcesOf
  split
  · rename_i hf
    have := manyOk_tasks (planFault_zero.1 hf).1
    intro x hx
    have := endsL_lt _ _ x hx
    omega
  · intro x hx; cases hx

theorem implJBehind_any (p : Plan) (ve : Value) (q : Plan) (vf : Value) (w : World) (hl : p.edges.length ≤ 2000000) (hl' : q.edges.length ≤ 2000000) (h : Rd edgeE w w.heap.size ve p.edges) (h' : Rd edgeE w w.heap.size vf q.edges) :
    Calls Try.prog 29 #[planV p ve, planV q vf] w (JoinPost (joined p q (moreL p q)) w) := by
  obtain ⟨W, hWe, D, E, Z, hW, hsz⟩ := threeBox_at p ve q vf w
  unfold twoBox planBox at hWe
  have HWe := Lib.hid hWe
  have Hsz := Lib.hid hsz
  clear hWe hsz
  have HM := Lib.hid (show moreL p q = crossL p.tasks (sinksOf p) (sourcesOf q) from rfl)
  have hA12 := sinksOf_len p
  have hB12 := sourcesOf_len q
  have hApos := Lib.hid (fun x => sinksOf_pos (p := p) x)
  have hBlt := Lib.hid (sourcesOf_lt q)
  obtain ⟨i0, hi0, hz0, hz1, hz2⟩ := info_parts edge_info
  unfold planV
  go_enter Try.func29, Try.ntmps29
  go_wp2_with fail
  rw [← HWe.out]
  refine (implSinks_any p ve _ hl ((h.below hW).more hW.size)).mono ?_
  rintro e w1 ⟨v1, rfl, o1, b1⟩
  have hZl := Z.lt
  have hW := bnext hW b1
  have D := D.below b1
  have E := E.below b1
  have Z := Z.below b1
  have hs1 := b1.size
  clear b1
  generalize sinksOf p = A at *
  generalize hBe : sourcesOf q = B at *
  have HBe := Lib.hid hBe
  clear hBe
  generalize moreL p q = M at *
  have D1 := Lib.hid D
  obtain ⟨A1, c1, rfl, -⟩ := id (Rd.of_own o1)
  have O0 := Ow.nil edgeE 52 w1 w1.heap.size
  go_wp2
  go_loopw [6, 14] (fun vl i wr => ∃ k : Nat, k ≤ A.length ∧ i = .int .i64 k ∧ Ow edgeE 52 wr w1.heap.size vl (crossK p.tasks A B k) ∧ Below w1.heap.size w1 wr) (fun _ i _ => A.length - (intOf i).toNat)
  case atStart => exact ⟨0, Nat.zero_le _, rfl, O0, Below.refl _ _⟩
  case round =>
    clear O0
    obtain ⟨k, hk, rfl, ho, hb2⟩ := hrel
    have o1 := o1.below hb2
    have D := D.below hb2
    have E := E.below hb2
    have Z := Z.below hb2
    have hW := bnext hW hb2
    have hs2 := hb2.size
    by_cases hlt : k < A.length
    · have hltI : (k : Int) < (A.length : Int) := by omega
      obtain ⟨pt1, pt2⟩ := hApos.out (by omega)
      have S0 := Lib.hid (crossK_succ p.tasks A B hlt)
      have hKl := crossK_len p.tasks hA12 hB12 k
      obtain ⟨g1, rfl, _, _⟩ := o1.some_ (by omega)
      have ca := o1.nat hlt
      generalize A[k] = a at *
      generalize hKK : crossK p.tasks A B k = K at *
      have HKK := Lib.hid hKK
      clear hKK
      obtain ⟨x0, x1, x2, x3, x4, xs⟩ := E.cells
      go_wp2_with fail
      clear x0 x1 x2 x3 x4 xs ca
      refine (implSources_any q vf _ hl' ((h'.below hW).more hW.size)).mono ?_
      rintro e w2 ⟨v2, rfl, o2, b2⟩
      rw [HBe.out] at o2
      have q2 := o2.within
      have hqq := ho.within
      have ho := ho.below b2
      have D := D.below b2
      have hb2 := bnext hb2 b2
      have hap : Hid (v2.ownBlock = none ∨ v2.ownBlock ≠ _) := q2.apart hqq (.inr (Nat.le_refl _))
      have o2 := o2.more hs2
      have hyz := D.lt
      clear b2 q2 hqq hW E Z o1
      obtain ⟨A2, c2, rfl, -⟩ := id (Rd.of_own o2)
      go_wp2
      go_loopw [6, 21] (fun vl i wr => ∃ j : Nat, j ≤ B.length ∧ i = .int .i64 j ∧ Ow edgeE 52 wr w1.heap.size vl (K ++ crossRow p.tasks (B.take j) a) ∧ Ow natE 3 wr w1.heap.size (.slice A2 B.length c2) B ∧ Hid ((Value.slice A2 B.length c2).ownBlock = none ∨ (Value.slice A2 B.length c2).ownBlock ≠ vl.ownBlock) ∧ Below w1.heap.size w1 wr) (fun _ i _ => B.length - (intOf i).toNat)
      case atStart => exact ⟨0, Nat.zero_le _, rfl, by simpa [crossRow] using ho, o2, hap, hb2⟩
      case round =>
        clear ho o2 hap hb2 D
        obtain ⟨j, hj, rfl, ho, o2, hap, hb2⟩ := hrel
        by_cases hjt : j < B.length
        · have hjI : (j : Int) < (B.length : Int) := by omega
          have D := D1.out.below hb2
          have hs3 := hb2.size
          have Sj := Lib.hid (crossRow_succ p.tasks B a hjt)
          have hbl := hBlt.out _ (List.getElem_mem hjt)
          obtain ⟨g2, rfl, hg2, hg2'⟩ := o2.some_ (by omega)
          have cb := o2.nat hjt
          generalize B[j] = b at *
          have hwr : IntKind.i64.wrap ((b : Int) + p.tasks) = (b : Int) + p.tasks := IntWalk.i64_in _ (by omega)
          have hRl : (K ++ crossRow p.tasks (B.take j) a).length ≤ 3000000 := by
            rw [List.length_append]
            unfold crossRow
            have := List.length_take_le' j B
            simp only [List.length_map]
            omega
          generalize hRR : K ++ crossRow p.tasks (B.take j) a = R at *
          have HRR := Lib.hid hRR
          clear hRR
          obtain ⟨x0, x1, x2, x3, x4, xs⟩ := D.cells
          have ha : Hid (∀ w : World, Below w.heap.size w (w.alloc (.cells #[.int .i64 (a : Int), .int .i64 ((b : Int) + p.tasks)] 52))) := fun w => (Below.refl _ _).alloc (Nat.le_refl _) _
          go_wp2_with (at_builtin; refine wpList_push_all _ edgeE (by decide) rfl (.tmp 25) (.tmp 32) rfl Try.underlying24 hi0 hz0 hz1 hz2 rfl (l := R) rfl (ho.below (ha.out _)) rfl (Rd.one edgeE _ _ (crossE p.tasks a b) rfl rfl 1 (Nat.le_refl _) (Nat.lt_succ_self _)) hRl (by simp) (by decide) (by simp; omega) ?_; intro v5 w5 o5 g5 f5)
          have hb' := bnext hb2 (ha.out _)
          have W5 := hb'.grown g5 hb'.size (fun g hg => by have := ho.within _ hg; omega)
          refine ⟨⟨j + 1, by omega, by go_num, by rw [Sj.out, ← List.append_assoc, HRR.out]; exact o5, (o2.below (ha.out _)).grown g5 hap.out, ?_, W5⟩, by simp [intOf]; omega⟩
          rcases f5 with f5 | f5
          · rw [f5]; exact hap.out
          · refine .inr ?_
            rw [f5]
            simp [Value.ownBlock]
            omega
        · have hjI : ¬ (j : Int) < (B.length : Int) := by omega
          have hj' : j = B.length := by omega
          have hb2F := hb2
          subst hj'
          rw [List.take_length] at ho
          go_wp2
          exact ⟨⟨k + 1, by omega, by go_num, by rw [S0.out]; exact ho, hb2F⟩, by simp [intOf]; omega⟩
    · have hltI : ¬ (k : Int) < (A.length : Int) := by omega
      have hk' : k = A.length := by omega
      have hWF := hW
      have hKl := crossK_len p.tasks hA12 hB12 A.length
      have HF := Lib.hid (show crossK p.tasks A B A.length = M by rw [HM.out]; unfold crossK; rw [List.take_length])
      subst hk'
      rw [HF.out] at ho hKl
      obtain ⟨x0, x1, x2, x3, x4, xs⟩ := E.cells
      obtain ⟨y0, y1, y2, y3, y4, ys⟩ := D.cells
      go_wp2_with fail
      clear x0 x1 x2 x3 x4 xs y0 y1 y2 y3 y4 ys
      refine (implJoined_any p ve q vf _ M _ hl hl' (by omega) ((h.below hWF).more hWF.size) ((h'.below hWF).more hWF.size) (Rd.of_own ho)).mono ?_
      rintro e w3 ⟨v3, rfl, o3, b3⟩
      obtain ⟨A3, c3, rfl, -⟩ := id (Rd.of_own o3)
      have hz := Z.lt
      have o3 := o3.more (base' := w.heap.size + 3) (by have := Hsz.out; omega)
      obtain ⟨z0, z1, z2, z3, z4, zs⟩ := (Z.below b3).cells
      have zf := (Z.below b3).free
      have hWF := bnext hWF b3
      go_wp2
      refine bodyPost_ret (v := .tuple #[planV (joined p q M).1 (.slice A3 (joined p q M).1.edges.length c3), .bool (joined p q M).2]) ?_ rfl ⟨.slice A3 (joined p q M).1.edges.length c3, rfl, ?_, ?_⟩
      · simp [planV, zeroPlan, results, Try.results29, go_sem, *]
      · refine Ow.more (base := w.heap.size + 3) ?_ (by omega)
        unfold Ow at o3 ⊢
        repeat (first | (with_reducible exact o3) | refine ownsRow_setCell_below ?_ (by simp <;> omega) _)
      · repeat (first | (with_reducible exact hWF) | refine Below.setCell ?_ (by simp <;> omega) _)
end Go.Proofs.Ytnaicippgocdfaa
end
section
namespace Go.Proofs.Ytnaicippgocdfaa
open Go.RowKit
set_option maxRecDepth 100000
set_option maxHeartbeats 1000000

noncomputable def isTaskB (p : Plan) (t : Int) : Bool := decide (planFault p = 0) && inB t 0 (p.tasks - 1)
open Classical in
noncomputable def reachB (p : Plan) (a b : Int) : Bool := isTaskB p a && (isTaskB p b && decide (Pg.Reach (esOf p) a.toNat b.toNat))

theorem isTask_any (p : Plan) (ve : Value) (t : Int) (w : World) (hl : p.edges.length ≤ 2000000) (h : Rd edgeE w w.heap.size ve p.edges) :
    Calls Try.prog 65 #[planV p ve, .int .i64 t] w fun e w' => e = .returned (.bool (isTaskB p t)) ∧ Below w.heap.size w w' := by
  have hb0 := planBox_below 26 p ve w
  by_cases hf : planFault p = 0
  · obtain ⟨t1, t2⟩ := manyOk_tasks (planFault_zero.1 hf).1
    have hfb : (planFault p == 0) = true := by simp [hf]
    have H := Lib.hid (show isTaskB p t = inB t 0 (p.tasks - 1) by simp [isTaskB, hf])
    clear hf
    unfold planV
    go_enter Try.func65, Try.ntmps65
    go_wp2_with fail
    refine (implPlanFault_any p ve _ hl ((h.below hb0).more hb0.size)).mono ?_
    rintro e w1 ⟨rfl, hb1⟩
    obtain ⟨x0, x1, x2, x3, x4, hs, hbw⟩ := planBox_cells (T := 26) (p := p) (ve := ve) (w := w) hb1
    go_wp2_with (go_at_call 49; refine (within_any _ _ _ _).mono ?_; rintro e w' ⟨rfl, rfl⟩)
    go_ret
    exact ⟨ret_bool H.out.symm, hbw⟩
  · have hfb : (planFault p == 0) = false := by simp [hf]
    have H := Lib.hid (show isTaskB p t = false by simp [isTaskB, hf])
    clear hf
    unfold planV
    go_enter Try.func65, Try.ntmps65
    go_wp2_with fail
    refine (implPlanFault_any p ve _ hl ((h.below hb0).more hb0.size)).mono ?_
    rintro e w1 ⟨rfl, hb1⟩
    go_wp2
    go_ret
    exact ⟨ret_bool H.out.symm, bnext hb0 hb1⟩

theorem isTask_nat {p : Plan} {t : Int} (h : isTaskB p t = true) : planFault p = 0 ∧ 0 ≤ t ∧ t < p.tasks ∧ t.toNat < p.tasks.toNat := by
  simp only [isTaskB, Bool.and_eq_true, decide_eq_true_eq, inB_iff] at h
  refine ⟨h.1, by omega, by omega, by omega⟩

theorem reachB_iff {p : Plan} (h0 : planFault p = 0) {a b : Nat} (ha : a < p.tasks.toNat) (hb : b < p.tasks.toNat) : reachB p a b = true ↔ Pg.Reach (esOf p) a b := by
  have h1 : isTaskB p a = true := by simp [isTaskB, h0, inB_iff]; omega
  have h2 : isTaskB p b = true := by simp [isTaskB, h0, inB_iff]; omega
  simp [reachB, h1, h2]

theorem implReaches_any (p : Plan) (ve : Value) (a b : Int) (w : World) (hl : p.edges.length ≤ 2000000) (h : Rd edgeE w w.heap.size ve p.edges) :
    Calls Try.prog 32 #[planV p ve, .int .i64 a, .int .i64 b] w fun e w' => e = .returned (.bool (reachB p a b)) ∧ Below w.heap.size w w' := by
  have hb0 := planBox_below 26 p ve w
  cases h1 : isTaskB p a
  · have H := Lib.hid (show reachB p a b = false by simp [reachB, h1])
    have H1 := Lib.hid h1
    clear h1
    unfold planV
    go_enter Try.func32, Try.ntmps32
    go_wp2_with fail
    refine (isTask_any p ve a _ hl ((h.below hb0).more hb0.size)).mono ?_
    rintro e w1 ⟨rfl, hb1⟩
    rw [H1.out]
    go_wp2
    go_ret
    exact ⟨ret_bool H.out.symm, bnext hb0 hb1⟩
  · cases h2 : isTaskB p b
    · have H := Lib.hid (show reachB p a b = false by simp [reachB, h2])
      have H1 := Lib.hid h1
      have H2 := Lib.hid h2
      clear h1 h2
      unfold planV
      go_enter Try.func32, Try.ntmps32
      go_wp2_with fail
      refine (isTask_any p ve a _ hl ((h.below hb0).more hb0.size)).mono ?_
      rintro e w1 ⟨rfl, hb1⟩
      rw [H1.out]
      obtain ⟨x0, x1, x2, x3, x4, hs, hbw⟩ := planBox_cells (T := 26) (p := p) (ve := ve) (w := w) hb1
      go_wp2_with fail
      clear x0 x1 x2 x3 x4
      refine (isTask_any p ve b _ hl ((h.below hbw).more hbw.size)).mono ?_
      rintro e w2 ⟨rfl, hb2⟩
      rw [H2.out]
      go_wp2
      go_ret
      exact ⟨ret_bool H.out.symm, bnext hbw hb2⟩
    · obtain ⟨g0, a0, a1, a2⟩ := isTask_nat h1
      obtain ⟨-, b0, b1, b2⟩ := isTask_nat h2
      obtain ⟨x, rfl⟩ := Int.eq_ofNat_of_zero_le a0
      obtain ⟨y, rfl⟩ := Int.eq_ofNat_of_zero_le b0
      have G0 := Lib.hid (planFault_zero.1 g0)
      obtain ⟨t1, t2⟩ := manyOk_tasks G0.out.1
      obtain ⟨T, hT⟩ := Int.eq_ofNat_of_zero_le (show 0 ≤ p.tasks by omega)
      have hTT : p.tasks.toNat = T := by omega
      have hxT : x < T := by omega
      have hyT : y < T := by omega
      have hT2 : T ≤ 12 := by omega
      have H := Lib.hid (show reachB p x y = @decide (Pg.Reach (esOf p) x y) (Classical.propDecidable _) by
        unfold reachB
        simp [h1, h2])
      have H1 := Lib.hid h1
      have H2 := Lib.hid h2
      have hiff := Lib.hid (Pg.wrounds_iff (esOf p) T (by rw [← hTT]; exact (esOf_lt G0.out.2.1).1) (by rw [← hTT]; exact (esOf_lt G0.out.2.1).2) x y)
      have hOl : (Pg.wrounds (esOf p) T (List.replicate T 0)).length = T := by rw [Pg.wrounds_length, List.length_replicate]
      have hsm : ∀ x ∈ Pg.wrounds (esOf p) T (List.replicate T 0), x < 2 ^ T := Pg.wrounds_lt T _ _ (by rw [← hTT]; exact (esOf_lt G0.out.2.1).2) (fun x hx => by
            have := List.eq_of_mem_replicate hx
            subst this
            exact Nat.two_pow_pos T) T
      have HT := Lib.hid hTT
      clear h1 h2 g0 hT a0 b0 a1 b1 a2 b2 hTT
      unfold planV
      go_enter Try.func32, Try.ntmps32
      go_wp2_with fail
      refine (isTask_any p ve x _ hl ((h.below hb0).more hb0.size)).mono ?_
      rintro e w1 ⟨rfl, hb1⟩
      rw [H1.out]
      obtain ⟨x0, x1, x2, x3, x4, hs, hbw⟩ := planBox_cells (T := 26) (p := p) (ve := ve) (w := w) hb1
      go_wp2_with fail
      clear x0 x1 x2 x3 x4
      refine (isTask_any p ve y _ hl ((h.below hbw).more hbw.size)).mono ?_
      rintro e w2 ⟨rfl, hb2⟩
      rw [H2.out]
      have hbw2 := bnext hbw hb2
      obtain ⟨x0, x1, x2, x3, x4, hs2, -⟩ := planBox_cells (T := 26) (p := p) (ve := ve) (w := w) (bnext hb1 hb2)
      go_wp2_with fail
      clear x0 x1 x2 x3 x4
      refine (waits_any p ve _ G0.out.1 G0.out.2.1 ((h.below hbw2).more hbw2.size)).mono ?_
      rintro e w3 ⟨v1, rfl, o1, hb3⟩
      have hbw3 := bnext hbw2 hb3
      rw [HT.out] at o1
      generalize Pg.wrounds (esOf p) T (List.replicate T 0) = O at *
      rcases o1.form with ⟨_, e0⟩ | ⟨g, cap, rfl, _, hgl, _, _, _, _⟩
      · exfalso
        rw [e0] at hOl
        simp at hOl
        omega
      rw [hOl] at o1
      rw [hOl]
      have HOl := Lib.hid hOl
      clear hOl
      have ck := o1.nat (k := x) (by rw [HOl.out]; exact hxT)
      have hkO : x < O.length := by rw [HOl.out]; exact hxT
      have hx : O[x] < 9223372036854775808 := Nat.lt_of_lt_of_le (hsm _ (List.getElem_mem hkO)) (Nat.le_trans (Nat.pow_le_pow_right (by omega) hT2) (by decide))
      have hbt := bit_test O[x] y hx
      have hg : Hid (O.getD x 0 = O[x]) := by unfold Hid; rw [List.getD_eq_getElem?_getD, List.getElem?_eq_getElem hkO]; rfl
      have hfin : Hid (reachB p x y = O[x].testBit y) := by
        show reachB p x y = _
        rw [H.out, ← hg.out, Bool.eq_iff_iff]
        exact (@decide_eq_true_iff _ (Classical.propDecidable _)).trans hiff.out.symm
      have hxI : (x : Int) < (T : Int) := by omega
      clear hsm
      go_wp2
      go_ret
      exact ⟨ret_bool hfin.out.symm, hbw3⟩
end Go.Proofs.Ytnaicippgocdfaa
end
section
namespace Go.Proofs.Ytnaicippgocdfaa
open Go.RowKit
set_option maxRecDepth 100000
set_option maxHeartbeats 1000000

theorem specReaches_any (p : Plan) (ve : Value) (a b : Int) (w : World) (hl : p.edges.length ≤ 2000000) (h : Rd edgeE w w.heap.size ve p.edges) :
    Calls Try.prog 63 #[planV p ve, .int .i64 a, .int .i64 b] w fun e w' => e = .returned (.bool (reachB p a b)) ∧ Below w.heap.size w w' := by
  have hb0 := planBox_below 26 p ve w
  by_cases hf : planFault p = 0
  case neg =>
    have hfb : (planFault p != 0) = true := by simp [hf]
    have H := Lib.hid (show reachB p a b = false by simp [reachB, isTaskB, hf])
    clear hf
    unfold planV
    go_enter Try.func63, Try.ntmps63
    go_wp2_with fail
    refine (specPlanFault_any p ve _ hl ((h.below hb0).more hb0.size)).mono ?_
    rintro e w1 ⟨rfl, hb1⟩
    go_wp2
    go_ret
    exact ⟨ret_bool H.out.symm, bnext hb0 hb1⟩
  have hfb : (planFault p != 0) = false := by simp [hf]
  have G0 := Lib.hid (planFault_zero.1 hf)
  obtain ⟨t1, t2⟩ := manyOk_tasks G0.out.1
  have HF := Lib.hid hf
  clear hf
  cases h1 : inB a 0 (p.tasks - 1)
  · have H := Lib.hid (show reachB p a b = false by simp [reachB, isTaskB, h1])
    unfold planV
    go_enter Try.func63, Try.ntmps63
    go_wp2_with fail
    refine (specPlanFault_any p ve _ hl ((h.below hb0).more hb0.size)).mono ?_
    rintro e w1 ⟨rfl, hb1⟩
    obtain ⟨x0, x1, x2, x3, x4, hs, hbw⟩ := planBox_cells (T := 26) (p := p) (ve := ve) (w := w) hb1
    go_wp2_with (go_at_call 52; refine (l01In_any _ _ _ _).mono ?_; rintro e w' ⟨rfl, rfl⟩)
    go_ret
    exact ⟨ret_bool H.out.symm, hbw⟩
  cases h2 : inB b 0 (p.tasks - 1)
  · have H := Lib.hid (show reachB p a b = false by simp [reachB, isTaskB, h2])
    unfold planV
    go_enter Try.func63, Try.ntmps63
    go_wp2_with fail
    refine (specPlanFault_any p ve _ hl ((h.below hb0).more hb0.size)).mono ?_
    rintro e w1 ⟨rfl, hb1⟩
    obtain ⟨x0, x1, x2, x3, x4, hs, hbw⟩ := planBox_cells (T := 26) (p := p) (ve := ve) (w := w) hb1
    go_wp2_with (go_at_call 52; refine (l01In_any _ _ _ _).mono ?_; rintro e w' ⟨rfl, rfl⟩)
    go_ret
    exact ⟨ret_bool H.out.symm, hbw⟩
  obtain ⟨a0, a1⟩ := inB_iff.1 h1
  obtain ⟨b0, b1⟩ := inB_iff.1 h2
  obtain ⟨x, rfl⟩ := Int.eq_ofNat_of_zero_le a0
  obtain ⟨y, rfl⟩ := Int.eq_ofNat_of_zero_le b0
  have hx : (x : Int) < p.tasks := by omega
  have hxT : x < p.tasks.toNat := by omega
  have hyT : y < p.tasks.toNat := by omega
  have H := Lib.hid (reachB_iff HF.out hxT hyT)
  unfold planV
  go_enter Try.func63, Try.ntmps63
  go_wp2_with fail
  refine (specPlanFault_any p ve _ hl ((h.below hb0).more hb0.size)).mono ?_
  rintro e w1 ⟨rfl, hb1⟩
  obtain ⟨x0, x1, x2, x3, x4, hs, hbw⟩ := planBox_cells (T := 26) (p := p) (ve := ve) (w := w) hb1
  go_wp2_with (go_at_call 52; refine (l01In_any _ _ _ _).mono ?_; rintro e w' ⟨rfl, rfl⟩)
  clear x0 x1 x2 x3 x4
  refine (from_any p ve x _ G0.out.1 G0.out.2.1 hx ((h.below hbw).more hbw.size)).mono ?_
  rintro e w2 ⟨v, O, rfl, o2, hb2, lO, hO⟩
  have hbw2 := bnext hbw hb2
  have hyO : y < O.length := by omega
  have HO := Lib.hid (hO y)
  have LO := Lib.hid lO
  have hyI : (y : Int) < (O.length : Int) := by omega
  clear hO lO
  rcases o2.form with ⟨_, e0⟩ | ⟨g, cap, rfl, _, hgl, _, _, _, _⟩
  · exfalso
    rw [e0] at hyO
    simp at hyO
  have ck := o2.bool hyO
  have hg := Lib.hid (show O.getD y false = O[y] by rw [List.getD_eq_getElem?_getD, List.getElem?_eq_getElem hyO]; rfl)
  go_wp2
  go_ret
  refine ⟨ret_bool ?_, hbw2⟩
  rw [Bool.eq_iff_iff, H.out, ← HO.out, hg.out]
end Go.Proofs.Ytnaicippgocdfaa
end
section
namespace Go.Proofs.Ytnaicippgocdfaa
open Go.RowKit
set_option maxRecDepth 100000
set_option maxHeartbeats 2000000

noncomputable def redUpto (p : Plan) (e : Edge) (j : Nat) : Bool := (List.range j).any fun k => reachB p e.fr k && reachB p k e.to
theorem redUpto_succ (p : Plan) (e : Edge) (j : Nat) : redUpto p e (j + 1) = (redUpto p e j || (reachB p e.fr j && reachB p j e.to)) := by
  simp [redUpto, List.range_succ, List.any_append]
/-- what goes without saying is left out of the first k edges -/
noncomputable def redL (p : Plan) (k : Nat) : List Edge := (p.edges.take k).filter fun e => !redUpto p e p.tasks.toNat
theorem redL_add {p : Plan} {k : Nat} (hk : k < p.edges.length) (h : redUpto p p.edges[k] p.tasks.toNat = false) : redL p (k + 1) = redL p k ++ [p.edges[k]] := by
  unfold redL
  rw [take_snoc _ k hk, List.filter_append, List.filter_cons, h]
  rfl
theorem redL_skip {p : Plan} {k : Nat} (hk : k < p.edges.length) (h : redUpto p p.edges[k] p.tasks.toNat = true) : redL p (k + 1) = redL p k := by
  unfold redL
  rw [take_snoc _ k hk, List.filter_append, List.filter_cons, h]
  simp
theorem redL_len (p : Plan) (k : Nat) : (redL p k).length ≤ p.edges.length := by
  have h1 := List.length_filter_le (fun e => !redUpto p e p.tasks.toNat) (p.edges.take k)
  have h2 := List.length_take_le k p.edges
  have h3 := List.length_take_le' k p.edges
  unfold redL
  omega
open Classical in
noncomputable def reduced (p : Plan) : Plan := if planFault p = 0 then { p with edges := p.edges.filter fun e => !redUpto p e p.tasks.toNat } else p
theorem reduced_len (p : Plan) : (reduced p).edges.length ≤ p.edges.length := by
  unfold reduced
  split
  · exact List.length_filter_le _ _
  · exact Nat.le_refl _

theorem implReduced_any (p : Plan) (ve : Value) (w : World) (hl : p.edges.length ≤ 2000000) (h : Rd edgeE w w.heap.size ve p.edges) :
    Calls Try.prog 19 #[planV p ve] w (ToPlanPost (reduced p) w) := by
  obtain ⟨B0, e0, rfl, -⟩ := id h
  have D0 := BoxAt.new 26 p (.slice B0 p.edges.length e0) w
  have Z0 := BoxAt.new' 26 zeroPlan (.slice none 0 0) (planBox 26 p (.slice B0 p.edges.length e0) w) (b := w.heap.size + 1) (by simp [planBox])
  have hW0 := planBox_below 26 p (.slice B0 p.edges.length e0) w
  have hW1 : Below w.heap.size w ((planBox 26 p (.slice B0 p.edges.length e0) w).alloc (.cells #[.int .i64 0, .int .i64 0, .int .i64 0, .int .i64 0, .slice none 0 0] 26)) := hW0.alloc (by simp [planBox]) _
  have D1 := D0.below ((Below.refl _ _).alloc (Nat.le_refl _) (.cells #[.int .i64 0, .int .i64 0, .int .i64 0, .int .i64 0, .slice none 0 0] 26))
  have hS1 : ((planBox 26 p (.slice B0 p.edges.length e0) w).alloc (.cells #[.int .i64 0, .int .i64 0, .int .i64 0, .int .i64 0, .slice none 0 0] 26)).heap.size = w.heap.size + 2 := by simp [planBox]
  have HS1 := Lib.hid hS1
  clear hS1
  unfold planV
  go_enter Try.func19, Try.ntmps19
  go_wp2_with fail
  refine (implCopy_any p (.slice B0 p.edges.length e0) _ hl ((h.below hW1).more hW1.size)).mono ?_
  rintro e w1 ⟨v1, rfl, o1, b1⟩
  have D := D1.below b1
  have Z := Z0.below b1
  have hW := bnext hW1 b1
  have hsz := b1.size
  have o1 : Ow edgeE 52 w1 (w.heap.size + 2) v1 p.edges := by rw [← HS1.out]; exact o1
  clear D0 Z0 hW0 hW1 D1 b1
  obtain ⟨A1, c1, rfl, -⟩ := id (Rd.of_own o1)
  obtain ⟨x0, x1, x2, x3, x4, xs⟩ := D.cells
  go_wp2_with fail
  clear x0 x1 x2 x3 x4 xs
  generalize hw2 : w1.alloc (.cells #[.int .i64 p.prio, .int .i64 p.most, .int .i64 p.wait, .int .i64 p.tasks, .slice A1 p.edges.length c1] 26) = w2
  have b2 : Below w1.heap.size w1 w2 := by rw [← hw2]; exact (Below.refl _ _).alloc (Nat.le_refl _) _
  have X : BoxAt w1.heap.size p (.slice A1 p.edges.length c1) w2 := by rw [← hw2]; exact BoxAt.new 26 p _ w1
  clear hw2
  have o2 := o1.below b2
  have D := D.below b2
  have Z := Z.below b2
  have hW := bnext hW b2
  refine (implPlanFault_any p (.slice B0 p.edges.length e0) _ hl ((h.below hW).more hW.size)).mono ?_
  rintro e w3 ⟨rfl, b3⟩
  have o3 := o2.below b3
  have D := D.below b3
  have Z := Z.below b3
  have X := X.below b3
  have hW := bnext hW b3
  have hg1 := o1.within
  have hs12 : w.heap.size + 2 ≤ w1.heap.size := by rw [← HS1.out]; exact hsz
  have hs13 : w1.heap.size < w3.heap.size := X.lt
  clear o1 o2 b2 b3
  by_cases hf : planFault p = 0
  case neg =>
    have hfb : (planFault p != 0) = true := by simp [hf]
    have H := Lib.hid (show reduced p = p by unfold reduced; rw [if_neg hf])
    clear hf
    obtain ⟨x0, x1, x2, x3, x4, xs⟩ := X.cells
    obtain ⟨z0, z1, z2, z3, z4, zs⟩ := Z.cells
    have zf := Z.free
    go_wp2
    have oq := o3.more (base' := w.heap.size + 2) (Nat.le_refl _)
    refine bodyPost_ret (v := planV p (.slice A1 p.edges.length c1)) ?_ rfl ⟨.slice A1 p.edges.length c1, by rw [H.out], ?_, ?_⟩
    · simp [planV, results, Try.results19, go_sem, *]
    · rw [H.out]
      refine Ow.more (base := w.heap.size + 2) ?_ (by omega)
      unfold Ow at oq ⊢
      repeat (first | (with_reducible exact oq) | refine ownsRow_setCell_below ?_ (by simp <;> omega) _)
    · repeat (first | (with_reducible exact hW) | refine Below.setCell ?_ (by simp <;> omega) _)
  have hfb : (planFault p != 0) = false := by simp [hf]
  have H := Lib.hid (show reduced p = { p with edges := redL p p.edges.length } by unfold reduced redL; rw [if_pos hf, List.take_length])
  have G0 := Lib.hid (planFault_zero.1 hf)
  obtain ⟨t1, t2⟩ := manyOk_tasks G0.out.1
  have hlen := manyOk_edges G0.out.1
  obtain ⟨T, hT⟩ := Int.eq_ofNat_of_zero_le (show 0 ≤ p.tasks by omega)
  have HT := Lib.hid hT
  have HTn := Lib.hid (show p.tasks.toNat = T by omega)
  have hT2 : T ≤ 12 := by omega
  clear hf hT
  obtain ⟨i0, hi0, hz0, hz1, hz2⟩ := info_parts edge_info
  obtain ⟨x0, x1, x2, x3, x4, xs⟩ := X.cells
  obtain ⟨y0, y1, y2, y3, y4, ys⟩ := D.cells
  have xf := X.free
  go_wp2
  clear x0 x1 x2 x3 x4 xs xf y0 y1 y2 y3 y4 ys
  go_loopw [18] (fun i wr => ∃ (k : Nat) (v : Value), k ≤ p.edges.length ∧ i = .int .i64 k ∧ BoxAt w.heap.size p (.slice B0 p.edges.length e0) wr ∧ BoxAt (w.heap.size + 1) zeroPlan (.slice none 0 0) wr ∧ BoxAt w1.heap.size { p with edges := redL p k } v wr ∧ Ow edgeE 52 wr (w1.heap.size + 1) v (redL p k) ∧ Below w.heap.size w wr) (fun i _ => p.edges.length - (intOf i).toNat)
  case atStart =>
    exact ⟨0, .slice none 0 0, Nat.zero_le _, rfl, D.other (by simp; omega) _, Z.other (by simp; omega) _, X.setEdges _ _, Ow.nil _ _ _ _, hW.setCell (by simp; omega) _⟩
  case round =>
    clear o3 Z X hW D hs13
    obtain ⟨k, v, hk, rfl, D, Z, X, ho, hW⟩ := hrel
    obtain ⟨y0, y1, y2, y3, y4, ys⟩ := D.cells
    by_cases hlt : k < p.edges.length
    · have hltI : (k : Int) < (p.edges.length : Int) := by omega
      obtain ⟨b, o, rfl, hbb, c0, c1'⟩ := (h.below hW).edge hlt
      obtain ⟨f1, f2, f3, f4⟩ := edgesIn_get G0.out.2.1 hlt
      obtain ⟨wo, rfl⟩ : ∃ wo : World, wo = wr := ⟨_, rfl⟩
      have hbb2 : b < wo.heap.size := Nat.lt_of_lt_of_le hbb hW.size
      go_wp2
      clear y0 y1 y2 y3 y4 ys c0 c1'
      generalize hwi : wo.alloc (.cells #[.int .i64 p.edges[k].fr, .int .i64 p.edges[k].to] 52) = wi
      have bi : Below wo.heap.size wo wi := by rw [← hwi]; exact (Below.refl _ _).alloc (Nat.le_refl _) _
      have E := show EdgeAt wo.heap.size p.edges[k] wi by rw [← hwi]; exact EdgeAt.new 52 _ wo
      clear hwi
      have D := D.below bi
      have Z := Z.below bi
      have X := X.below bi
      have ho := ho.below bi
      have hW := bnext hW bi
      generalize hpe : p.edges[k] = e at *
      have HPE := Lib.hid hpe
      clear hpe
      go_loopw [6, 7] (fun y i wr => ∃ j : Nat, j ≤ T ∧ i = .int .i64 j ∧ y = .bool (redUpto p e j) ∧ Below wi.heap.size wi wr) (fun _ i _ => T - (intOf i).toNat)
      case atStart => exact ⟨0, Nat.zero_le _, rfl, rfl, Below.refl _ _⟩
      case round =>
        obtain ⟨j, hj, rfl, rfl, hb⟩ := hrel
        have D := D.below hb
        have Z := Z.below hb
        have X := X.below hb
        have E := E.below hb
        have ho := ho.below hb
        have hW := bnext hW hb
        obtain ⟨y0, y1, y2, y3, y4, ys⟩ := D.cells
        obtain ⟨e1, e2, es⟩ := E.cells
        by_cases hjt : j < T
        · have hjI : (j : Int) < p.tasks := by rw [HT.out]; omega
          have hun := Lib.hid (redUpto_succ p e j)
          cases hu : redUpto p e j
          · cases h1 : reachB p e.fr j
            · have S := Lib.hid (show redUpto p e (j + 1) = false by rw [hun.out, hu, h1]; rfl)
              have H1 := Lib.hid h1
              clear h1
              go_wp2_with fail
              refine (implReaches_any p (.slice (some ⟨b, o, none⟩) p.edges.length e0) e.fr j _ hl ((h.below hW).more hW.size)).mono ?_
              rintro en w4 ⟨rfl, b4⟩
              rw [H1.out]
              go_wp2
              exact ⟨⟨j + 1, by omega, by go_num, by rw [S.out], bnext hb b4⟩, by simp [intOf]; omega⟩
            · cases h2 : reachB p j e.to
              all_goals
                have S := Lib.hid (hun.out)
                rw [hu, h1, h2] at S
                have H1 := Lib.hid h1
                have H2 := Lib.hid h2
                clear h1 h2
                go_wp2_with fail
                refine (implReaches_any p (.slice (some ⟨b, o, none⟩) p.edges.length e0) e.fr j _ hl ((h.below hW).more hW.size)).mono ?_
                rintro en w4 ⟨rfl, b4⟩
                rw [H1.out]
                clear y0 y1 y2 y3 y4 ys e1 e2 es
                have D := D.below b4
                have E := E.below b4
                have hW := bnext hW b4
                obtain ⟨y0, y1, y2, y3, y4, ys⟩ := D.cells
                obtain ⟨e1, e2, es⟩ := E.cells
                go_wp2_with fail
                refine (implReaches_any p (.slice (some ⟨b, o, none⟩) p.edges.length e0) j e.to _ hl ((h.below hW).more hW.size)).mono ?_
                rintro en w5 ⟨rfl, b5⟩
                rw [H2.out]
                go_wp2
                exact ⟨⟨j + 1, by omega, by go_num, by rw [S.out]; rfl, bnext (bnext hb b4) b5⟩, by simp [intOf]; omega⟩
          · have S := Lib.hid (show redUpto p e (j + 1) = true by rw [hun.out, hu]; rfl)
            go_wp2
            exact ⟨⟨j + 1, by omega, by go_num, by rw [S.out], hb⟩, by simp [intOf]; omega⟩
        · have hjI : ¬ (j : Int) < p.tasks := by rw [HT.out]; omega
          have hj' : j = T := by omega
          subst hj'
          obtain ⟨x0, x1, x2, x3, x4, xs⟩ := X.cells
          have xf := X.free
          cases hu : redUpto p e j
          · have S := Lib.hid (redL_add (p := p) hlt (by rw [HPE.out, HTn.out]; exact hu))
            rw [HPE.out] at S
            have hll : (redL p k).length ≤ 3000000 := by have := redL_len p k; omega
            have hoi := ho.within
            have ho2 := ho.below ((Below.refl _ _).alloc (Nat.le_refl _) (.cells #[.int .i64 e.fr, .int .i64 e.to] 52))
            have hX2 := X.below ((Below.refl _ _).alloc (Nat.le_refl _) (.cells #[.int .i64 e.fr, .int .i64 e.to] 52))
            have hD2 := D.below ((Below.refl _ _).alloc (Nat.le_refl _) (.cells #[.int .i64 e.fr, .int .i64 e.to] 52))
            have hZ2 := Z.below ((Below.refl _ _).alloc (Nat.le_refl _) (.cells #[.int .i64 e.fr, .int .i64 e.to] 52))
            have hW2 := hW.alloc hW.size (.cells #[.int .i64 e.fr, .int .i64 e.to] 52)
            have hXl := X.lt
            go_wp2_with (at_builtin; refine wpList_push (v := v) edgeE (by decide) rfl (.tmp 46) (.tmp 48) rfl Try.underlying24 hi0 hz0 hz1 hz2 rfl e rfl ho2 ⟨wr.heap.size, 0, none⟩ 1 rfl (news_new _ #[.int .i64 e.fr, .int .i64 e.to] _ (by simp)) hll (by decide) (by simp; omega) ?_; intro v' w5 o5 g5; clear x0 x1 x2 x3 x4 xs xf y0 y1 y2 y3 y4 ys; obtain ⟨A5, c5, rfl, -⟩ := id (Rd.of_own o5); have X5 := hX2.far g5 (fun e => by have := hoi _ e.symm; omega); obtain ⟨x0, x1, x2, x3, x4, xs⟩ := X5.cells; have xf := X5.free)
            have D5 := hD2.far g5 (fun e => by have := hoi _ e.symm; omega)
            have Z5 := hZ2.far g5 (fun e => by have := hoi _ e.symm; omega)
            have W5 := hW2.grown g5 hW2.size (fun g hg => by have := hoi _ hg; omega)
            rw [List.length_append, List.length_singleton] at o5
            refine ⟨⟨k + 1, .slice A5 ((redL p k).length + 1) c5, by omega, by go_num, D5.other (by simp; omega) _, Z5.other (by simp; omega) _, ?_, ?_, W5.setCell (by simp; omega) _⟩, by simp [intOf]; omega⟩
            · exact X5.setEdges _ _
            · rw [S.out]
              exact ownsRow_setCell_below o5 (by simp) _
          · have S := Lib.hid (redL_skip (p := p) hlt (by rw [HPE.out, HTn.out]; exact hu))
            go_wp2
            exact ⟨⟨k + 1, v, by omega, by go_num, D, Z, by rw [S.out]; exact X, by rw [S.out]; exact ho, hW⟩, by simp [intOf]; omega⟩
    · have hltI : ¬ (k : Int) < (p.edges.length : Int) := by omega
      obtain ⟨x0, x1, x2, x3, x4, xs⟩ := X.cells
      obtain ⟨z0, z1, z2, z3, z4, zs⟩ := Z.cells
      have zf := Z.free
      have hk' : k = p.edges.length := by omega
      subst hk'
      obtain ⟨A6, c6, rfl, -⟩ := id (Rd.of_own ho)
      go_wp2
      refine bodyPost_ret (v := planV { p with edges := redL p p.edges.length } (.slice A6 (redL p p.edges.length).length c6)) ?_ rfl ⟨.slice A6 (redL p p.edges.length).length c6, by rw [H.out], ?_, ?_⟩
      · simp [planV, results, Try.results19, go_sem, *]
      · rw [H.out]
        refine Ow.more (base := w1.heap.size + 1) ?_ (by omega)
        unfold Ow at ho ⊢
        repeat (first | (with_reducible exact ho) | refine ownsRow_setCell_below ?_ (by simp <;> omega) _)
      · repeat (first | (with_reducible exact hW) | refine Below.setCell ?_ (by simp <;> omega) _)
end Go.Proofs.Ytnaicippgocdfaa
end
section
namespace Go.Proofs.Ytnaicippgocdfaa
open Go.RowKit
set_option maxRecDepth 100000
set_option maxHeartbeats 1000000

/-- the same tasks wait for the same tasks -/
def SameReach (p q : Plan) : Prop := ∀ a b : Nat, a < p.tasks.toNat → b < p.tasks.toNat → (Pg.Reach (esOf p) a b ↔ Pg.Reach (esOf q) a b)
open Classical in
noncomputable def sameOrder (p q : Plan) : Bool := decide (planFault p = 0 ∧ planFault q = 0 ∧ p.tasks = q.tasks ∧ SameReach p q)
theorem sameOrder_iff {p q : Plan} : sameOrder p q = true ↔ planFault p = 0 ∧ planFault q = 0 ∧ p.tasks = q.tasks ∧ SameReach p q := by
  simp [sameOrder]
theorem sameOrder_no {p q : Plan} (h : ¬ (planFault p = 0 ∧ planFault q = 0 ∧ p.tasks = q.tasks ∧ SameReach p q)) : sameOrder p q = false := by
  cases hs : sameOrder p q
  · rfl
  · exact absurd (sameOrder_iff.1 hs) h

theorem implSameOrder_any (p : Plan) (ve : Value) (q : Plan) (vf : Value) (w : World) (hl : p.edges.length ≤ 2000000) (hl' : q.edges.length ≤ 2000000) (h : Rd edgeE w w.heap.size ve p.edges) (h' : Rd edgeE w w.heap.size vf q.edges) :
    Calls Try.prog 26 #[planV p ve, planV q vf] w fun e w' => e = .returned (.bool (sameOrder p q)) ∧ Below w.heap.size w w' := by
  obtain ⟨D0, E0, hb0⟩ := twoBox_at 26 p ve q vf w
  by_cases hf : planFault p = 0
  case neg =>
    have hfb : (planFault p != 0) = true := by simp [hf]
    have H := Lib.hid (sameOrder_no (p := p) (q := q) (fun x => hf x.1))
    clear hf
    unfold planV
    go_enter Try.func26, Try.ntmps26
    go_wp2_with fail
    refine (implPlanFault_any p ve _ hl ((h.below hb0).more hb0.size)).mono ?_
    rintro e w1 ⟨rfl, hb1⟩
    go_wp2
    go_ret
    exact ⟨ret_bool H.out.symm, bnext hb0 hb1⟩
  have hfb : (planFault p != 0) = false := by simp [hf]
  by_cases hg : planFault q = 0
  case neg =>
    have hgb : (planFault q != 0) = true := by simp [hg]
    have H := Lib.hid (sameOrder_no (p := p) (q := q) (fun x => hg x.2.1))
    clear hf hg
    unfold planV
    go_enter Try.func26, Try.ntmps26
    go_wp2_with fail
    refine (implPlanFault_any p ve _ hl ((h.below hb0).more hb0.size)).mono ?_
    rintro e w1 ⟨rfl, hb1⟩
    have hbw := bnext hb0 hb1
    obtain ⟨x0, x1, x2, x3, x4, xs⟩ := (E0.below hb1).cells
    go_wp2_with fail
    clear x0 x1 x2 x3 x4 xs
    refine (implPlanFault_any q vf _ hl' ((h'.below hbw).more hbw.size)).mono ?_
    rintro e w2 ⟨rfl, hb2⟩
    go_wp2
    go_ret
    exact ⟨ret_bool H.out.symm, bnext hbw hb2⟩
  have hgb : (planFault q != 0) = false := by simp [hg]
  by_cases ht : p.tasks = q.tasks
  case neg =>
    have htb : (p.tasks != q.tasks) = true := by simp [ht]
    have H := Lib.hid (sameOrder_no (p := p) (q := q) (fun x => ht x.2.2.1))
    clear hf hg ht
    unfold planV
    go_enter Try.func26, Try.ntmps26
    go_wp2_with fail
    refine (implPlanFault_any p ve _ hl ((h.below hb0).more hb0.size)).mono ?_
    rintro e w1 ⟨rfl, hb1⟩
    have hbw := bnext hb0 hb1
    obtain ⟨x0, x1, x2, x3, x4, xs⟩ := (E0.below hb1).cells
    go_wp2_with fail
    clear x0 x1 x2 x3 x4 xs
    refine (implPlanFault_any q vf _ hl' ((h'.below hbw).more hbw.size)).mono ?_
    rintro e w2 ⟨rfl, hb2⟩
    obtain ⟨x0, x1, x2, x3, x4, xs⟩ := ((E0.below hb1).below hb2).cells
    obtain ⟨y0, y1, y2, y3, y4, ys⟩ := ((D0.below hb1).below hb2).cells
    go_wp2
    go_ret
    exact ⟨ret_bool H.out.symm, bnext hbw hb2⟩
  have htb : (p.tasks != q.tasks) = false := by simp [ht]
  obtain ⟨t1, t2⟩ := manyOk_tasks (planFault_zero.1 hf).1
  obtain ⟨T, hT⟩ := Int.eq_ofNat_of_zero_le (show 0 ≤ p.tasks by omega)
  have hT2 : T ≤ 12 := by omega
  have HF := Lib.hid hf
  have HG := Lib.hid hg
  have HQ := Lib.hid ht
  have HT := Lib.hid hT
  clear hf hg ht hT
  unfold planV
  go_enter Try.func26, Try.ntmps26
  go_wp2_with fail
  refine (implPlanFault_any p ve _ hl ((h.below hb0).more hb0.size)).mono ?_
  rintro e w1 ⟨rfl, hb1⟩
  have hbw := bnext hb0 hb1
  obtain ⟨x0, x1, x2, x3, x4, xs⟩ := (E0.below hb1).cells
  go_wp2_with fail
  clear x0 x1 x2 x3 x4 xs
  refine (implPlanFault_any q vf _ hl' ((h'.below hbw).more hbw.size)).mono ?_
  rintro e w2 ⟨rfl, hb2⟩
  have hbw := bnext hbw hb2
  have D := (D0.below hb1).below hb2
  have E := (E0.below hb1).below hb2
  obtain ⟨x0, x1, x2, x3, x4, xs⟩ := E.cells
  obtain ⟨y0, y1, y2, y3, y4, ys⟩ := D.cells
  clear hb1 hb2 hb0 D0 E0
  go_wp2
  clear x0 x1 x2 x3 x4 xs y0 y1 y2 y3 y4 ys
  go_loopw [5] (fun i wr => ∃ k : Nat, k ≤ T ∧ i = .int .i64 k ∧ Hid (∀ x y : Nat, x < k → y < T → reachB p x y = reachB q x y) ∧ BoxAt w.heap.size p ve wr ∧ BoxAt (w.heap.size + 1) q vf wr ∧ Below w.heap.size w wr) (fun i _ => T - (intOf i).toNat)
  case atStart => exact ⟨0, Nat.zero_le _, rfl, fun x y hx => absurd hx (by omega), D, E, hbw⟩
  case round =>
    clear D E hbw
    obtain ⟨k, hk, rfl, hok, D, E, hb⟩ := hrel
    obtain ⟨y0, y1, y2, y3, y4, ys⟩ := D.cells
    by_cases hlt : k < T
    · have hltI : (k : Int) < p.tasks := by rw [HT.out]; omega
      obtain ⟨wo, rfl⟩ : ∃ wo : World, wo = wr := ⟨_, rfl⟩
      go_wp2
      clear y0 y1 y2 y3 y4 ys
      go_loopw [6] (fun i wr => ∃ j : Nat, j ≤ T ∧ i = .int .i64 j ∧ Hid (∀ y : Nat, y < j → reachB p k y = reachB q k y) ∧ BoxAt w.heap.size p ve wr ∧ BoxAt (w.heap.size + 1) q vf wr ∧ Below w.heap.size w wr) (fun i _ => T - (intOf i).toNat)
      case atStart => exact ⟨0, Nat.zero_le _, rfl, fun y hy => absurd hy (by omega), D, E, hb⟩
      case round =>
        clear D E hb
        obtain ⟨j, hj, rfl, hok2, D, E, hb⟩ := hrel
        obtain ⟨y0, y1, y2, y3, y4, ys⟩ := D.cells
        obtain ⟨x0, x1, x2, x3, x4, xs⟩ := E.cells
        by_cases hjt : j < T
        · have hjtI : (j : Int) < p.tasks := by rw [HT.out]; omega
          cases hr : reachB p k j == reachB q k j
          · have H := Lib.hid (sameOrder_no (p := p) (q := q) (fun x => by
              have h1 := reachB_iff HF.out (a := k) (b := j) (by rw [HT.out]; omega) (by rw [HT.out]; omega)
              have h2 := reachB_iff HG.out (a := k) (b := j) (by rw [← HQ.out, HT.out]; omega) (by rw [← HQ.out, HT.out]; omega)
              have h3 := x.2.2.2 k j (by rw [HT.out]; omega) (by rw [HT.out]; omega)
              have : reachB p k j = reachB q k j := by rw [Bool.eq_iff_iff, h1, h2]; exact h3
              rw [this] at hr
              simp at hr))
            have hrr : Hid (reachB p k j = true ∧ reachB q k j = false) ∨ Hid (reachB p k j = false ∧ reachB q k j = true) := by
              cases h1 : reachB p k j <;> cases h2 : reachB q k j <;> simp_all [Hid]
            clear hr
            rcases hrr with hr | hr
            all_goals
              go_wp2
              have hlc := later_cell wr
              refine wp_region_pure (by kernel_rfl) (by kernel_rfl) ?_
              repeat (go_big_quiet_step ((first
                | (go_at_call 32; rename_i x; have h1 := implReaches_any p ve k j x.1 hl ((h.below (bnext hb x.2)).more (bnext hb x.2).size); rw [hr.out.1] at h1; unfold planV at h1; with_reducible exact pure_of h1)
                | (go_at_call 32; rename_i x; have h1 := implReaches_any q vf k j x.1 hl' ((h'.below (bnext hb x.2)).more (bnext hb x.2).size); rw [hr.out.2] at h1; unfold planV at h1; with_reducible exact pure_of h1))))
              refine wpQuiet_nil ?_
              rintro _ ⟨⟨w3, hb3⟩, rfl⟩
              clear hlc
              go_wp2
              go_ret
              exact ⟨ret_bool H.out.symm, bnext hb hb3⟩
          · have S : Hid (∀ y : Nat, y < j + 1 → reachB p k y = reachB q k y) := by
              intro y hy
              by_cases e : y = j
              · subst e; simpa using hr
              · exact hok2.out y (by omega)
            obtain ⟨r, hr1, hr2⟩ : ∃ r, Hid (reachB p k j = r) ∧ Hid (reachB q k j = r) := ⟨_, rfl, (eq_of_beq hr).symm⟩
            clear hr
            go_wp2
            have hlc := later_cell wr
            refine wp_region_pure (by kernel_rfl) (by kernel_rfl) ?_
            repeat (go_big_quiet_step ((first
              | (go_at_call 32; rename_i x; have h1 := implReaches_any p ve k j x.1 hl ((h.below (bnext hb x.2)).more (bnext hb x.2).size); rw [hr1.out] at h1; unfold planV at h1; with_reducible exact pure_of h1)
              | (go_at_call 32; rename_i x; have h1 := implReaches_any q vf k j x.1 hl' ((h'.below (bnext hb x.2)).more (bnext hb x.2).size); rw [hr2.out] at h1; unfold planV at h1; with_reducible exact pure_of h1))))
            refine wpQuiet_nil ?_
            rintro _ ⟨⟨w3, hb3⟩, rfl⟩
            clear hlc
            go_wp2
            exact ⟨⟨j + 1, by omega, by go_num, S, D.below hb3, E.below hb3, bnext hb hb3⟩, by simp [intOf]; omega⟩
        · have hjtI : ¬ (j : Int) < p.tasks := by rw [HT.out]; omega
          have S : Hid (∀ x y : Nat, x < k + 1 → y < T → reachB p x y = reachB q x y) := by
            intro x y hx hy
            by_cases e : x = k
            · subst e; exact hok2.out y (by omega)
            · exact hok.out x y (by omega) hy
          go_wp2
          exact ⟨⟨k + 1, by omega, by go_num, S, D, E, hb⟩, by simp [intOf]; omega⟩
    · have hltI : ¬ (k : Int) < p.tasks := by rw [HT.out]; omega
      have H : Hid (sameOrder p q = true) := sameOrder_iff.2 ⟨HF.out, HG.out, HQ.out, fun a b ha hb' => by
        have h1 := reachB_iff HF.out ha hb'
        have h2 := reachB_iff HG.out (a := a) (b := b) (by rw [← HQ.out]; exact ha) (by rw [← HQ.out]; exact hb')
        rw [HT.out] at ha hb'
        rw [← h1, ← h2, hok.out a b (by omega) (by omega)]⟩
      go_wp2
      go_ret
      exact ⟨ret_bool H.out.symm, hb⟩
end Go.Proofs.Ytnaicippgocdfaa
end
