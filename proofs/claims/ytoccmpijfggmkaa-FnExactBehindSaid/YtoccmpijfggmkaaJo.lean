/-
  joined and Beside of the program.
-/
import Derived.Test.YtoccmpijfggmkaaRv
namespace Go.Proofs.Ytoccmpijfggmkaa
open Go.RowKit
set_option maxRecDepth 100000
set_option maxHeartbeats 2000000

def shiftE (t : Int) (e : Edge) : Edge := ⟨e.fr + t, e.to + t⟩
def joinL (p q : Plan) (k : Nat) : List Edge := p.edges ++ (q.edges.take k).map (shiftE p.tasks)
def joinP (p q : Plan) (m : List Edge) : Plan := { p with tasks := p.tasks + q.tasks, edges := joinL p q q.edges.length ++ m }
open Classical in
noncomputable def joined (p q : Plan) (m : List Edge) : Plan × Bool := if planFault p = 0 ∧ planFault q = 0 ∧ planFault (joinP p q m) = 0 then (joinP p q m, true) else (zeroPlan, false)
def JoinPost (r : Plan × Bool) (w : World) (e : Ending) (w' : World) : Prop := ∃ v, e = .returned (.tuple #[planV r.1 v, .bool r.2]) ∧ Ow edgeE 91 w' w.heap.size v r.1.edges ∧ Below w.heap.size w w'
theorem joinL_succ (p q : Plan) {k : Nat} (hk : k < q.edges.length) : joinL p q (k + 1) = joinL p q k ++ [shiftE p.tasks q.edges[k]] := by
  simp only [joinL, take_snoc _ k hk, List.map_append, List.append_assoc, List.map_cons, List.map_nil]
theorem joinL_len (p q : Plan) (k : Nat) : (joinL p q k).length ≤ p.edges.length + q.edges.length := by
  have := List.length_take_le' k q.edges
  simp only [joinL, List.length_append, List.length_map]
  omega
theorem joined_no {p q : Plan} {m : List Edge} (h : ¬ (planFault p = 0 ∧ planFault q = 0 ∧ planFault (joinP p q m) = 0)) : joined p q m = (zeroPlan, false) := by
  unfold joined; rw [if_neg h]
theorem joined_yes {p q : Plan} {m : List Edge} (h : planFault p = 0 ∧ planFault q = 0 ∧ planFault (joinP p q m) = 0) : joined p q m = (joinP p q m, true) := by
  unfold joined; rw [if_pos h]

/-- the world with two plans' variables and an empty one laid -/
theorem threeBox_at (p : Plan) (ve : Value) (q : Plan) (vf : Value) (w : World) :
    ∃ W, W = (twoBox 47 p ve q vf w).alloc (.cells #[.int .i64 0, .int .i64 0, .int .i64 0, .int .i64 0, .slice none 0 0] 47) ∧ BoxAt w.heap.size p ve W ∧ BoxAt (w.heap.size + 1) q vf W ∧ BoxAt (w.heap.size + 2) zeroPlan (.slice none 0 0) W ∧ Below w.heap.size w W ∧ W.heap.size = w.heap.size + 3 := by
  obtain ⟨D, E, hb⟩ := twoBox_at 47 p ve q vf w
  have ha := (Below.refl (twoBox 47 p ve q vf w).heap.size (twoBox 47 p ve q vf w)).alloc (Nat.le_refl _) (.cells #[.int .i64 0, .int .i64 0, .int .i64 0, .int .i64 0, .slice none 0 0] 47)
  refine ⟨_, rfl, D.below ha, E.below ha, ?_, bnext hb ha, by simp [twoBox, planBox]⟩
  exact BoxAt.new' 47 zeroPlan (.slice none 0 0) _ (by simp [twoBox, planBox])

theorem implJoined_any (p : Plan) (ve : Value) (q : Plan) (vf : Value) (vm : Value) (m : List Edge) (w : World) (hl : p.edges.length ≤ 2000000) (hl' : q.edges.length ≤ 2000000) (hl2 : m.length ≤ 1000000) (h : Rd edgeE w w.heap.size ve p.edges) (h' : Rd edgeE w w.heap.size vf q.edges) (hm : Rd edgeE w w.heap.size vm m) :
    Calls Try.prog 131 #[planV p ve, planV q vf, vm] w (JoinPost (joined p q m) w) := by
  obtain ⟨W, hWe, D, E, Z, hW, hsz⟩ := threeBox_at p ve q vf w
  unfold twoBox planBox at hWe
  have HWe := Lib.hid hWe
  have Hsz := Lib.hid hsz
  clear hWe hsz
  obtain ⟨Am, cm, rfl, -⟩ := id hm
  by_cases hf : planFault p = 0
  case neg =>
    have hfb : (planFault p != 0) = true := by simp [hf]
    have H := Lib.hid (joined_no (p := p) (q := q) (m := m) (fun x => hf x.1))
    clear hf
    unfold planV
    go_enter Try.func131, Try.ntmps131
    go_wp2_with fail
    rw [← HWe.out]
    refine (implPlanFault_any p ve _ hl ((h.below hW).more hW.size)).mono ?_
    rintro e w1 ⟨rfl, b1⟩
    obtain ⟨z0, z1, z2, z3, z4, zs⟩ := (Z.below b1).cells
    have zf := (Z.below b1).free
    have hW := bnext hW b1
    go_wp2
    refine bodyPost_ret (v := .tuple #[planV zeroPlan (.slice none 0 0), .bool false]) ?_ rfl ⟨.slice none 0 0, by rw [H.out], by rw [H.out]; exact Ow.nil _ _ _ _, ?_⟩
    · simp [planV, zeroPlan, results, Try.results131, go_sem, *]
    · repeat (first | (with_reducible exact hW) | refine Below.setCell ?_ (by simp <;> omega) _)
  have hfb : (planFault p != 0) = false := by simp [hf]
  by_cases hg : planFault q = 0
  case neg =>
    have hgb : (planFault q != 0) = true := by simp [hg]
    have H := Lib.hid (joined_no (p := p) (q := q) (m := m) (fun x => hg x.2.1))
    clear hf hg
    unfold planV
    go_enter Try.func131, Try.ntmps131
    go_wp2_with fail
    rw [← HWe.out]
    refine (implPlanFault_any p ve _ hl ((h.below hW).more hW.size)).mono ?_
    rintro e w1 ⟨rfl, b1⟩
    have hW := bnext hW b1
    have E := E.below b1
    have Z := Z.below b1
    obtain ⟨y0, y1, y2, y3, y4, ys⟩ := E.cells
    go_wp2_with fail
    clear y0 y1 y2 y3 y4 ys
    refine (implPlanFault_any q vf _ hl' ((h'.below hW).more hW.size)).mono ?_
    rintro e w2 ⟨rfl, b2⟩
    obtain ⟨z0, z1, z2, z3, z4, zs⟩ := (Z.below b2).cells
    have zf := (Z.below b2).free
    have hW := bnext hW b2
    go_wp2
    refine bodyPost_ret (v := .tuple #[planV zeroPlan (.slice none 0 0), .bool false]) ?_ rfl ⟨.slice none 0 0, by rw [H.out], by rw [H.out]; exact Ow.nil _ _ _ _, ?_⟩
    · simp [planV, zeroPlan, results, Try.results131, go_sem, *]
    · repeat (first | (with_reducible exact hW) | refine Below.setCell ?_ (by simp <;> omega) _)
  have hgb : (planFault q != 0) = false := by simp [hg]
  obtain ⟨P0, P1, -, -⟩ := planFault_zero.1 hf
  obtain ⟨Q0, Q1, -, -⟩ := planFault_zero.1 hg
  obtain ⟨t1, t2⟩ := manyOk_tasks P0
  obtain ⟨u1, u2⟩ := manyOk_tasks Q0
  have hpe := manyOk_edges P0
  have hqe := manyOk_edges Q0
  have HF := Lib.hid hf
  have HG := Lib.hid hg
  have HQ := Lib.hid Q1
  clear hf hg P0 Q0 P1 Q1
  obtain ⟨i0, hi0, hz0, hz1, hz2⟩ := info_parts edge_info
  obtain ⟨Aq, cq, rfl, -⟩ := id h'
  unfold planV
  go_enter Try.func131, Try.ntmps131
  go_wp2_with fail
  rw [← HWe.out]
  refine (implPlanFault_any p ve _ hl ((h.below hW).more hW.size)).mono ?_
  rintro e w1 ⟨rfl, b1⟩
  have hW := bnext hW b1
  have D := D.below b1
  have E := E.below b1
  have Z := Z.below b1
  obtain ⟨y0, y1, y2, y3, y4, ys⟩ := E.cells
  go_wp2_with fail
  clear y0 y1 y2 y3 y4 ys
  refine (implPlanFault_any q (.slice Aq q.edges.length cq) _ hl' ((h'.below hW).more hW.size)).mono ?_
  rintro e w2 ⟨rfl, b2⟩
  have hW := bnext hW b2
  have D := D.below b2
  have E := E.below b2
  have Z := Z.below b2
  obtain ⟨y0, y1, y2, y3, y4, ys⟩ := D.cells
  go_wp2_with fail
  clear y0 y1 y2 y3 y4 ys
  refine (implCopy_any p ve _ hl ((h.below hW).more hW.size)).mono ?_
  rintro e w3 ⟨v3, rfl, o3, b3⟩
  have hz3 := Z.lt
  have hW := bnext hW b3
  have D := D.below b3
  have E := E.below b3
  have Z := Z.below b3
  have o3 := o3.more (base' := w.heap.size + 3) (by omega)
  have hin3 := o3.within
  obtain ⟨A3, c3, rfl, -⟩ := id (Rd.of_own o3)
  obtain ⟨x0, x1, x2, x3, x4, xs⟩ := E.cells
  have hzz := Z.lt
  have H3 := Lib.hid hin3
  clear hin3
  go_wp2_with fail
  clear x0 x1 x2 x3 x4 xs
  generalize hw4 : w3.alloc (.cells #[.int .i64 p.prio, .int .i64 p.most, .int .i64 p.wait, .int .i64 (p.tasks + q.tasks), .slice A3 p.edges.length c3] 47) = w4
  have b4 : Below w3.heap.size w3 w4 := by rw [← hw4]; exact (Below.refl _ _).alloc (Nat.le_refl _) _
  have X : BoxAt w3.heap.size { p with tasks := p.tasks + q.tasks } (.slice A3 p.edges.length c3) w4 := by rw [← hw4]; exact BoxAt.new' 47 { p with tasks := p.tasks + q.tasks } _ w3 rfl
  clear hw4
  have o4 := o3.below b4
  have D := D.below b4
  have E := E.below b4
  have Z := Z.below b4
  have hW := bnext hW b4
  have hne : Hid ((Value.slice A3 p.edges.length c3).ownBlock ≠ some w3.heap.size) := fun e => by have := H3.out _ e; omega
  go_loopw [31] (fun i wr => ∃ (k : Nat) (v : Value), k ≤ q.edges.length ∧ i = .int .i64 k ∧ BoxAt w.heap.size p ve wr ∧ BoxAt (w.heap.size + 1) q (.slice Aq q.edges.length cq) wr ∧ BoxAt (w.heap.size + 2) zeroPlan (.slice none 0 0) wr ∧ BoxAt w3.heap.size { p with tasks := p.tasks + q.tasks, edges := joinL p q k } v wr ∧ Ow edgeE 91 wr (w.heap.size + 3) v (joinL p q k) ∧ Hid (v.ownBlock ≠ some w3.heap.size) ∧ Below w.heap.size w wr) (fun i _ => q.edges.length - (intOf i).toNat)
  case atStart =>
    refine ⟨0, _, Nat.zero_le _, rfl, D, E, Z, ?_, ?_, hne, hW⟩
    · exact ⟨X.cells, X.free⟩
    · simpa [joinL] using o4
  case round =>
    clear D E Z X hW hne o3 o4
    obtain ⟨k, v, hk, rfl, D, E, Z, X, ho, hne, hW⟩ := hrel
    by_cases hlt : k < q.edges.length
    · have hltI : (k : Int) < (q.edges.length : Int) := by omega
      obtain ⟨b, o, rfl, hbb, c0, c1⟩ := (h'.below hW).edge hlt
      obtain ⟨f1, f2, f3, f4⟩ := edgesIn_get HQ.out hlt
      have S := Lib.hid (joinL_succ p q hlt)
      have hll := joinL_len p q k
      have hll2 : (joinL p q k).length ≤ 3000000 := by omega
      clear hll
      generalize hpe : q.edges[k] = e at *
      have HPE := Lib.hid hpe
      clear hpe
      have ha1 : ∀ w : World, Below w.heap.size w ((w.alloc (.cells #[.int .i64 e.fr, .int .i64 e.to] 91)).alloc (.cells #[.int .i64 (e.fr + p.tasks), .int .i64 (e.to + p.tasks)] 91)) := fun w => ((Below.refl _ _).alloc (Nat.le_refl _) _).alloc (by simp) _
      have Ha := Lib.hid ha1
      clear ha1
      obtain ⟨x0, x1, x2, x3, x4, xs⟩ := X.cells
      obtain ⟨y0, y1, y2, y3, y4, ys⟩ := D.cells
      go_wp2_with (at_builtin; refine wpList_push_all _ edgeE (by decide) rfl (.tmp 36) (.tmp 48) rfl Try.underlying45 hi0 hz0 hz1 hz2 rfl (v := v) (l := joinL p q k) rfl (ho.below (Ha.out wr)) rfl (Rd.one edgeE _ _ (shiftE p.tasks e) (by simp) rfl 1 (Nat.le_refl _) (Nat.lt_succ_self _)) hll2 (by simp) (by decide) (by simp; omega) ?_; intro v5 w5 o5 g5 hat5; clear x0 x1 x2 x3 x4 xs y0 y1 y2 y3 y4 ys; obtain ⟨A5, c5, rfl, -⟩ := id (Rd.of_own o5); have X5 := (X.below (Ha.out wr)).far g5 (fun e => hne.out e.symm); obtain ⟨x0, x1, x2, x3, x4, xs⟩ := X5.cells; have xf := X5.free)
      have hXl := X.lt
      have D5 := (D.below (Ha.out wr)).far g5 (fun e => by have := ho.within _ e.symm; omega)
      have E5 := (E.below (Ha.out wr)).far g5 (fun e => by have := ho.within _ e.symm; omega)
      have Z5 := (Z.below (Ha.out wr)).far g5 (fun e => by have := ho.within _ e.symm; omega)
      have hWa := bnext hW (Ha.out wr)
      have W5 := hWa.grown g5 hWa.size (fun g hg => by have := ho.within _ hg; omega)
      have hne5 : Hid ((Value.slice A5 (joinL p q k ++ [shiftE p.tasks e]).length c5).ownBlock ≠ some w3.heap.size) := by
        intro e
        rcases hat5 with h1 | h1
        · rw [h1] at e; exact hne.out e
        · rw [h1] at e; simp at e; omega
      rw [List.length_append, List.length_singleton] at o5 hne5
      refine ⟨⟨k + 1, .slice A5 ((joinL p q k).length + 1) c5, by omega, by go_num, D5.other (by simp; omega) _, E5.other (by simp; omega) _, Z5.other (by simp; omega) _, ?_, ?_, hne5, W5.setCell (by simp; omega) _⟩, by simp [intOf]; omega⟩
      · exact X5.setEdges _ _
      · rw [S.out]
        exact o5.setOther hne5.out _
    · have hltI : ¬ (k : Int) < (q.edges.length : Int) := by omega
      have hk' : k = q.edges.length := by omega
      subst hk'
      have hll := joinL_len p q q.edges.length
      have hll2 : (joinL p q q.edges.length).length ≤ 3000000 := by omega
      have hXl := X.lt
      obtain ⟨x0, x1, x2, x3, x4, xs⟩ := X.cells
      go_wp2_with (at_builtin; refine wpList_push_all _ edgeE (by decide) rfl (.tmp 53) (.tmp 54) rfl Try.underlying45 hi0 hz0 hz1 hz2 rfl (v := v) (l := joinL p q q.edges.length) rfl ho rfl ((hm.below hW).more hW.size) hll2 (by omega) (by decide) (by omega) ?_; intro v5 w5 o5 g5 hat5; clear x0 x1 x2 x3 x4 xs; obtain ⟨A5, c5, rfl, -⟩ := id (Rd.of_own o5); have X5 := X.far g5 (fun e => hne.out e.symm); obtain ⟨x0, x1, x2, x3, x4, xs⟩ := X5.cells; have xf := X5.free)
      clear x0 x1 x2 x3 x4 xs xf
      have Z5 := (Z.far g5 (fun e => by have := ho.within _ e.symm; omega)).other (a := ⟨w3.heap.size, 4, none⟩) (by simp; omega) (.slice A5 ((joinL p q q.edges.length).length + m.length) c5)
      have W5 := (hW.grown g5 hW.size (fun g hg => by have := ho.within _ hg; omega)).setCell (p := ⟨w3.heap.size, 4, none⟩) (by simp; omega) (.slice A5 ((joinL p q q.edges.length).length + m.length) c5)
      have hne5 : Hid ((Value.slice A5 (joinL p q q.edges.length ++ m).length c5).ownBlock ≠ some w3.heap.size) := by
        intro e
        rcases hat5 with h1 | h1
        · rw [h1] at e; exact hne.out e
        · rw [h1] at e; simp at e; omega
      rw [List.length_append] at o5 hne5
      have X6 : BoxAt w3.heap.size (joinP p q m) (.slice A5 ((joinL p q q.edges.length).length + m.length) c5) (w5.setCell ⟨w3.heap.size, 4, none⟩ (.slice A5 ((joinL p q q.edges.length).length + m.length) c5)) := X5.setEdges _ _
      have o6 : Ow edgeE 91 (w5.setCell ⟨w3.heap.size, 4, none⟩ (.slice A5 ((joinL p q q.edges.length).length + m.length) c5)) (w.heap.size + 3) (.slice A5 ((joinL p q q.edges.length).length + m.length) c5) (joinP p q m).edges := o5.setOther hne5.out _
      clear o5 g5 hat5 X5
      generalize w5.setCell ⟨w3.heap.size, 4, none⟩ (.slice A5 ((joinL p q q.edges.length).length + m.length) c5) = w6 at *
      have hjl : (joinP p q m).edges.length ≤ 2000000 := by
        show (joinL p q q.edges.length ++ m).length ≤ _
        rw [List.length_append]
        omega
      refine (implPlanFault_any (joinP p q m) _ _ hjl (Rd.of_own o6)).mono ?_
      rintro e w7 ⟨rfl, b7⟩
      have o7 := o6.below b7
      have Z7 := Z5.below b7
      have X7 := X6.below b7
      have W7 := bnext W5 b7
      obtain ⟨z0, z1, z2, z3, z4, zs⟩ := Z7.cells
      have zf := Z7.free
      obtain ⟨x0, x1, x2, x3, x4, xs⟩ := X7.cells
      by_cases hj : planFault (joinP p q m) = 0
      · have hjb : (planFault (joinP p q m) != 0) = false := by simp [hj]
        have H := Lib.hid (joined_yes (m := m) ⟨HF.out, HG.out, hj⟩)
        clear hj
        go_wp2
        refine bodyPost_ret (v := .tuple #[planV (joinP p q m) (.slice A5 ((joinL p q q.edges.length).length + m.length) c5), .bool true]) ?_ rfl ⟨.slice A5 ((joinL p q q.edges.length).length + m.length) c5, by rw [H.out], ?_, ?_⟩
        · simp [planV, results, Try.results131, go_sem, *]
        · rw [H.out]
          refine Ow.more (base := w.heap.size + 3) ?_ (by omega)
          unfold Ow at o7 ⊢
          repeat (first | (with_reducible exact o7) | refine ownsRow_setCell_below ?_ (by simp <;> omega) _)
        · repeat (first | (with_reducible exact W7) | refine Below.setCell ?_ (by simp <;> omega) _)
      · have hjb : (planFault (joinP p q m) != 0) = true := by simp [hj]
        have H := Lib.hid (joined_no (p := p) (q := q) (m := m) (fun x => hj x.2.2))
        clear hj
        go_wp2
        refine bodyPost_ret (v := .tuple #[planV zeroPlan (.slice none 0 0), .bool false]) ?_ rfl ⟨.slice none 0 0, by rw [H.out], by rw [H.out]; exact Ow.nil _ _ _ _, ?_⟩
        · simp [planV, zeroPlan, results, Try.results131, go_sem, *]
        · repeat (first | (with_reducible exact W7) | refine Below.setCell ?_ (by simp <;> omega) _)
end Go.Proofs.Ytoccmpijfggmkaa
