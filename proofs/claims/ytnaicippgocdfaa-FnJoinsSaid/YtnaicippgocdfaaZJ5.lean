/-
  Behind of the reference. LongestOf of both. LatestOf of the program. LeastEnd of both.  SlackOf of both. TightOf of both. The earliest and the latest times of a plan: plain facts. A plan that is drawn is right; drawn weights; DrawWork, DrawPlans.
-/
import Derived.Test.YtnaicippgocdfaaZJ4
section
namespace Go.Proofs.Ytnaicippgocdfaa
open Go.RowKit
set_option maxRecDepth 100000
set_option maxHeartbeats 3000000
set_option linter.unusedSimpArgs false

theorem Way.more {es es' : List (Nat × Nat)} (hs : ∀ e ∈ es, e ∈ es') : ∀ {a : Nat} {l : List Nat} {b : Nat}, Pg.Way es a l b → Pg.Way es' a l b := by
  intro a l b h
  induction h with
  | nil a => exact .nil a
  | cons h _ ih => exact .cons (hs _ h) ih
theorem planFault_sub {p q : Plan} {m : List Edge} (h : planFault (joinP p q m) = 0) : planFault (joinP p q []) = 0 := by
  obtain ⟨h1, h2, h3, h4⟩ := planFault_zero.1 h
  have he : (joinP p q m).edges = (joinP p q []).edges ++ m := by simp [joinP]
  refine planFault_zero.2 ⟨?_, ?_, ?_, ?_⟩
  · have hlen : (joinP p q []).edges.length ≤ (joinP p q m).edges.length := by rw [he, List.length_append]; omega
    unfold manyOk at h1 ⊢
    simp only [Bool.and_eq_true, decide_eq_true_eq] at h1 ⊢
    obtain ⟨⟨⟨⟨a1, a2⟩, a3⟩, a4⟩, a5⟩ := h1
    exact ⟨⟨⟨⟨a1, by omega⟩, a3⟩, a4⟩, a5⟩
  · intro e hx
    exact h2 e (by rw [he]; exact List.mem_append_left _ hx)
  · rw [he] at h3
    exact (List.nodup_append.1 h3).1
  · rintro ⟨t, ht, l, hl, hw⟩
    refine h4 ⟨t, ht, l, hl, Way.more (fun e hx => ?_) hw⟩
    unfold esOf esL at hx ⊢
    rw [he, List.map_append]
    exact List.mem_append_left _ hx

theorem specJBehind_any (p : Plan) (ve : Value) (q : Plan) (vf : Value) (w : World) (hl : p.edges.length ≤ 2000000) (hl' : q.edges.length ≤ 2000000) (h : Rd edgeE w w.heap.size ve p.edges) (h' : Rd edgeE w w.heap.size vf q.edges) :
    Calls Try.prog 30 #[planV p ve, planV q vf] w (JoinPost (joined p q (moreL p q)) w) := by
  obtain ⟨W, hWe, D, E, Z, hW, hsz⟩ := threeBox_at p ve q vf w
  unfold twoBox planBox at hWe
  have HWe := Lib.hid hWe
  have Hsz := Lib.hid hsz
  clear hWe hsz
  by_cases hj : planFault p = 0 ∧ planFault q = 0 ∧ planFault (joinP p q []) = 0
  case neg =>
    have H0 := Lib.hid (joined_no hj)
    have H := Lib.hid (joined_no (p := p) (q := q) (m := moreL p q) (fun x => hj ⟨x.1, x.2.1, planFault_sub x.2.2⟩))
    clear hj
    unfold planV
    go_enter Try.func30, Try.ntmps30
    go_wp2_with fail
    rw [← HWe.out]
    refine (specBeside_any p ve q vf _ hl hl' ((h.below hW).more hW.size) ((h'.below hW).more hW.size)).mono ?_
    rintro e w1 ⟨v1, rfl, o1, b1⟩
    obtain ⟨A1, c1, rfl, -⟩ := id (Rd.of_own o1)
    rw [H0.out] at o1 ⊢
    have hZl := Z.lt
    obtain ⟨z0, z1, z2, z3, z4, zs⟩ := (Z.below b1).cells
    have zf := (Z.below b1).free
    have hW := bnext hW b1
    go_wp2
    refine bodyPost_ret (v := .tuple #[planV zeroPlan (.slice none 0 0), .bool false]) ?_ rfl ⟨.slice none 0 0, by rw [H.out], by rw [H.out]; exact Ow.nil _ _ _ _, ?_⟩
    · simp [planV, zeroPlan, results, Try.results30, go_sem, *]
    · repeat (first | (with_reducible exact hW) | refine Below.setCell ?_ (by simp <;> omega) _ | refine Below.alloc ?_ (by simp <;> omega) _)
  obtain ⟨hf, hg, hjz⟩ := hj
  have H0 := Lib.hid (joined_yes (m := []) ⟨hf, hg, hjz⟩)
  obtain ⟨t1, t2⟩ := manyOk_tasks (planFault_zero.1 hf).1
  have hJe := Lib.hid (manyOk_edges (planFault_zero.1 hjz).1)
  have HF := Lib.hid hf
  have HG := Lib.hid hg
  have HMM := Lib.hid (show moreL p q = crossL p.tasks (sinksOf p) (sourcesOf q) from rfl)
  have HJM := Lib.hid (show joinP p q (moreL p q) = { joinP p q [] with edges := (joinP p q []).edges ++ moreL p q } by simp [joinP])
  have hA12 := sinksOf_len p
  have hB12 := sourcesOf_len q
  have hBlt := Lib.hid (sourcesOf_lt q)
  clear hf hg hjz
  obtain ⟨i0, hi0, hz0, hz1, hz2⟩ := info_parts edge_info
  unfold planV
  go_enter Try.func30, Try.ntmps30
  go_wp2_with fail
  rw [← HWe.out]
  refine (specBeside_any p ve q vf _ hl hl' ((h.below hW).more hW.size) ((h'.below hW).more hW.size)).mono ?_
  rintro e w1 ⟨v1, rfl, o1, b1⟩
  obtain ⟨A1, c1, rfl, -⟩ := id (Rd.of_own o1)
  rw [H0.out] at o1 ⊢
  dsimp only at o1 ⊢
  have hZl := Z.lt
  have hW := bnext hW b1
  have D := D.below b1
  have E := E.below b1
  have Z := Z.below b1
  have o1 := o1.more (base' := w.heap.size + 3) (by have := Hsz.out; omega)
  have hw13 : w.heap.size + 3 ≤ w1.heap.size := by have := Hsz.out; have := b1.size; omega
  clear b1
  generalize hJ : joinP p q [] = J at *
  have HJ := Lib.hid hJ
  clear hJ
  obtain ⟨y0, y1, y2, y3, y4, ys⟩ := D.cells
  go_wp2_with fail
  clear y0 y1 y2 y3 y4 ys
  generalize hw2 : w1.alloc (.cells #[.int .i64 J.prio, .int .i64 J.most, .int .i64 J.wait, .int .i64 J.tasks, .slice A1 J.edges.length c1] 26) = w2
  have b2 : Below w1.heap.size w1 w2 := by rw [← hw2]; exact (Below.refl _ _).alloc (Nat.le_refl _) _
  have X : BoxAt w1.heap.size J (.slice A1 J.edges.length c1) w2 := by rw [← hw2]; exact BoxAt.new' 26 J _ w1 rfl
  clear hw2
  have q1 := o1.within
  have o1 := o1.below b2
  have D := D.below b2
  have E := E.below b2
  have Z := Z.below b2
  have hs2 := b2.size
  have hX1 := X.lt
  have hW := bnext hW b2
  have hne : Hid ((Value.slice A1 J.edges.length c1).ownBlock ≠ some w1.heap.size) := fun e => by have := q1 _ e; omega
  clear b2
  refine (specSinks_any p ve _ hl ((h.below hW).more hW.size)).mono ?_
  rintro e w3 ⟨v3, rfl, o3, b3⟩
  have q3 := o3.within
  have D := D.below b3
  have E := E.below b3
  have Z := Z.below b3
  have X := X.below b3
  have o1 := o1.below b3
  have hs3 := b3.size
  have hW := bnext hW b3
  clear b3
  obtain ⟨y0, y1, y2, y3, y4, ys⟩ := E.cells
  go_wp2_with fail
  clear y0 y1 y2 y3 y4 ys
  refine (specSources_any q vf _ hl' ((h'.below hW).more hW.size)).mono ?_
  rintro e w4 ⟨v4, rfl, o4, b4⟩
  have q4 := o4.within
  have D := D.below b4
  have Z := Z.below b4
  have X := X.below b4
  have o1 := o1.below b4
  have o3 := o3.below b4
  have hs4 := b4.size
  have hW := bnext hW b4
  clear b4 E
  generalize sinksOf p = A at *
  generalize sourcesOf q = B at *
  generalize moreL p q = M at *
  have ha1 : Hid (v3.ownBlock = none ∨ v3.ownBlock ≠ (Value.slice A1 J.edges.length c1).ownBlock) := q3.apart q1 (.inr (by omega))
  have ha2 : Hid (v4.ownBlock = none ∨ v4.ownBlock ≠ (Value.slice A1 J.edges.length c1).ownBlock) := q4.apart q1 (.inr (by omega))
  obtain ⟨A3, c3, rfl, -⟩ := id (Rd.of_own o3)
  obtain ⟨A4, c4, rfl, -⟩ := id (Rd.of_own o4)
  have o3 := o3.more (base' := w2.heap.size) (by omega)
  have o4 := o4.more (base' := w2.heap.size) (by omega)
  clear q1 q3 q4
  go_wp2
  go_loopw [10] (fun i wr => ∃ (k : Nat) (v : Value), k ≤ A.length ∧ i = .int .i64 k ∧ BoxAt w.heap.size p ve wr ∧ BoxAt (w.heap.size + 2) zeroPlan (.slice none 0 0) wr ∧ BoxAt w1.heap.size { J with edges := J.edges ++ crossK p.tasks A B k } v wr ∧ Ow edgeE 52 wr (w.heap.size + 3) v (J.edges ++ crossK p.tasks A B k) ∧ Hid (v.ownBlock ≠ some w1.heap.size) ∧ Ow natE 3 wr w2.heap.size (.slice A3 A.length c3) A ∧ Ow natE 3 wr w2.heap.size (.slice A4 B.length c4) B ∧ Hid ((Value.slice A3 A.length c3).ownBlock = none ∨ (Value.slice A3 A.length c3).ownBlock ≠ v.ownBlock) ∧ Hid ((Value.slice A4 B.length c4).ownBlock = none ∨ (Value.slice A4 B.length c4).ownBlock ≠ v.ownBlock) ∧ Below w.heap.size w wr) (fun i _ => A.length - (intOf i).toNat)
  case atStart =>
    refine ⟨0, _, Nat.zero_le _, rfl, D, Z, ?_, ?_, hne, o3, o4, ha1, ha2, hW⟩
    · exact ⟨X.cells, X.free⟩
    · simpa [crossK, crossL] using o1
  case round =>
    clear D Z X o1 hne o3 o4 ha1 ha2 hW
    obtain ⟨k, v, hk, rfl, D, Z, X, ho, hne, o1, o2, ha1, ha2, hW⟩ := hrel
    by_cases hlt : k < A.length
    · have hltI : (k : Int) < (A.length : Int) := by omega
      have S0 := Lib.hid (crossK_succ p.tasks A B hlt)
      have hKl := crossK_len p.tasks hA12 hB12 k
      generalize hKK : crossK p.tasks A B k = K at *
      have HKK := Lib.hid hKK
      clear hKK
      go_wp2
      go_loopw [11] (fun i wr => ∃ (j : Nat) (v : Value), j ≤ B.length ∧ i = .int .i64 j ∧ BoxAt w.heap.size p ve wr ∧ BoxAt (w.heap.size + 2) zeroPlan (.slice none 0 0) wr ∧ BoxAt w1.heap.size { J with edges := J.edges ++ (K ++ crossRow p.tasks (B.take j) A[k]) } v wr ∧ Ow edgeE 52 wr (w.heap.size + 3) v (J.edges ++ (K ++ crossRow p.tasks (B.take j) A[k])) ∧ Hid (v.ownBlock ≠ some w1.heap.size) ∧ Ow natE 3 wr w2.heap.size (.slice A3 A.length c3) A ∧ Ow natE 3 wr w2.heap.size (.slice A4 B.length c4) B ∧ Hid ((Value.slice A3 A.length c3).ownBlock = none ∨ (Value.slice A3 A.length c3).ownBlock ≠ v.ownBlock) ∧ Hid ((Value.slice A4 B.length c4).ownBlock = none ∨ (Value.slice A4 B.length c4).ownBlock ≠ v.ownBlock) ∧ Below w.heap.size w wr) (fun i _ => B.length - (intOf i).toNat)
      case atStart =>
        refine ⟨0, _, Nat.zero_le _, rfl, D, Z, ?_, ?_, hne, o1, o2, ha1, ha2, hW⟩
        · simpa [crossRow] using X
        · simpa [crossRow] using ho
      case round =>
        clear D Z X ho hne o1 o2 ha1 ha2 hW
        obtain ⟨j, v, hj, rfl, D, Z, X, ho, hne, o1, o2, ha1, ha2, hW⟩ := hrel
        by_cases hjt : j < B.length
        · have hjI : (j : Int) < (B.length : Int) := by omega
          have Sj := Lib.hid (crossRow_succ p.tasks B A[k] hjt)
          have hbl := hBlt.out _ (List.getElem_mem hjt)
          obtain ⟨g1, rfl, hg1, hg1'⟩ := o1.some_ (by omega)
          obtain ⟨g2, rfl, hg2, hg2'⟩ := o2.some_ (by omega)
          have ca := o1.nat hlt
          have cb := o2.nat hjt
          generalize hAk : A[k] = a at *
          generalize hBj : B[j] = b at *
          have Ha := Lib.hid hAk
          have HB := Lib.hid hBj
          clear hAk hBj
          have hwr : IntKind.i64.wrap ((b : Int) + p.tasks) = (b : Int) + p.tasks := IntWalk.i64_in _ (by omega)
          have hRl : (J.edges ++ (K ++ crossRow p.tasks (B.take j) a)).length ≤ 3000000 := by
            rw [List.length_append, List.length_append]
            unfold crossRow
            have := List.length_take_le' j B
            have := hJe.out
            simp only [List.length_map]
            omega
          generalize hRR : J.edges ++ (K ++ crossRow p.tasks (B.take j) a) = R at *
          have HRR := Lib.hid hRR
          clear hRR
          have Hal : Hid (∀ w : World, Below w.heap.size w (w.alloc (.cells #[.int .i64 (a : Int), .int .i64 ((b : Int) + p.tasks)] 52))) := fun w => (Below.refl _ _).alloc (Nat.le_refl _) _
          obtain ⟨x0, x1, x2, x3, x4, xs⟩ := X.cells
          obtain ⟨y0, y1, y2, y3, y4, ys⟩ := D.cells
          go_wp2
          have hXl := X.lt
          have hdr : Below wr.heap.size wr wr.drew := (Below.refl _ _).drew
          have Hb := Lib.hid (hdr.trans ((Hal.out wr.drew).mono hdr.size))
          clear hdr
          have hob := ho.below Hb.out
          have hWb := bnext hW Hb.out
          refine wp_region_last (fun w' => w'.cell? ⟨w1.heap.size, 4, none⟩ = some v ∧ w'.cell? ⟨g1, k, none⟩ = some (.int .i64 (a : Int)) ∧ w'.cell? ⟨g2, j, none⟩ = some (.int .i64 (b : Int)) ∧ w'.cell? ⟨w.heap.size, 3, none⟩ = some (.int .i64 p.tasks)) 17 (by kernel_rfl) ?_ (fun hHeld => ?_)
          · (refine ⟨?_, ?_, ?_, ?_⟩ <;> first | assumption | go_keep)
          refine wpAnyL_take (i := 0) (oi := _) (v := ?_) rfl (by kernel_rfl) (by kernel_rfl) (by kernel_rfl) (by kernel_rfl) (fun _ _ _ h => h) hHeld (Or.inl ⟨by rfl, ?_⟩) ?_
          rotate_left
          · intro w hSw
            (try dsimp only at hSw)
            go_simp
            all_goals with_reducible rfl
          try simp only [Act.put, List.setIfInBounds_toArray, List.set_cons_zero, List.set_cons_succ]
          refine wpAnyL_take (i := 1) (oi := _) (v := ?_) rfl (by kernel_rfl) (by kernel_rfl) (by kernel_rfl) (by kernel_rfl) (fun _ _ _ h => h) hHeld (Or.inl ⟨by rfl, ?_⟩) ?_
          rotate_left
          · intro w hSw
            (try dsimp only at hSw)
            go_simp
            all_goals with_reducible rfl
          try simp only [Act.put, List.setIfInBounds_toArray, List.set_cons_zero, List.set_cons_succ]
          refine wpAnyL_take (i := 2) (oi := _) (v := ?_) rfl (by kernel_rfl) (by kernel_rfl) (by kernel_rfl) (by kernel_rfl) (fun _ _ _ h => h) hHeld (Or.inl ⟨by rfl, ?_⟩) ?_
          rotate_left
          · intro w hSw
            (try dsimp only at hSw)
            go_simp
            all_goals with_reducible rfl
          try simp only [Act.put, List.setIfInBounds_toArray, List.set_cons_zero, List.set_cons_succ]
          refine wpAnyL_take (i := 3) (oi := _) (v := ?_) rfl (by kernel_rfl) (by kernel_rfl) (by kernel_rfl) (by kernel_rfl) (fun _ _ _ h => h) hHeld (Or.inl ⟨by rfl, ?_⟩) ?_
          rotate_left
          · intro w hSw
            (try dsimp only at hSw)
            go_simp
            all_goals with_reducible rfl
          try simp only [Act.put, List.setIfInBounds_toArray, List.set_cons_zero, List.set_cons_succ]
          refine wpAnyL_take (i := 4) (oi := _) (v := ?_) rfl (by kernel_rfl) (by kernel_rfl) (by kernel_rfl) (by kernel_rfl) (fun _ _ _ h => h) hHeld (Or.inl ⟨by rfl, ?_⟩) ?_
          rotate_left
          · intro w hSw
            (try dsimp only at hSw)
            go_simp
            all_goals with_reducible rfl
          try simp only [Act.put, List.setIfInBounds_toArray, List.set_cons_zero, List.set_cons_succ]
          refine wpAnyL_take (i := 5) (oi := _) (v := ?_) rfl (by kernel_rfl) (by kernel_rfl) (by kernel_rfl) (by kernel_rfl) (fun _ _ _ h => h) hHeld (Or.inl ⟨by rfl, ?_⟩) ?_
          rotate_left
          · intro w hSw
            (try dsimp only at hSw)
            go_simp
            all_goals with_reducible rfl
          try simp only [Act.put, List.setIfInBounds_toArray, List.set_cons_zero, List.set_cons_succ]
          refine wpAnyL_take (i := 6) (oi := _) (v := ?_) rfl (by kernel_rfl) (by kernel_rfl) (by kernel_rfl) (by kernel_rfl) (fun _ _ _ h => h) hHeld (Or.inl ⟨by rfl, ?_⟩) ?_
          rotate_left
          · intro w hSw
            (try dsimp only at hSw)
            go_simp
            all_goals with_reducible rfl
          try simp only [Act.put, List.setIfInBounds_toArray, List.set_cons_zero, List.set_cons_succ]
          refine wpAnyL_take (i := 7) (oi := _) (v := ?_) rfl (by kernel_rfl) (by kernel_rfl) (by kernel_rfl) (by kernel_rfl) (fun _ _ _ h => h) hHeld (Or.inl ⟨by rfl, ?_⟩) ?_
          rotate_left
          · intro w hSw
            (try dsimp only at hSw)
            go_simp
            all_goals with_reducible rfl
          try simp only [Act.put, List.setIfInBounds_toArray, List.set_cons_zero, List.set_cons_succ]
          refine wpAnyL_take (i := 8) (oi := _) (v := ?_) rfl (by kernel_rfl) (by kernel_rfl) (by kernel_rfl) (by kernel_rfl) (fun _ _ _ h => h) hHeld (Or.inl ⟨by rfl, ?_⟩) ?_
          rotate_left
          · intro w hSw
            (try dsimp only at hSw)
            go_simp
            all_goals with_reducible rfl
          try simp only [Act.put, List.setIfInBounds_toArray, List.set_cons_zero, List.set_cons_succ]
          refine wpAnyL_take (i := 9) (oi := _) (v := ?_) rfl (by kernel_rfl) (by kernel_rfl) (by kernel_rfl) (by kernel_rfl) (fun _ _ _ h => h) hHeld (Or.inl ⟨by rfl, ?_⟩) ?_
          rotate_left
          · intro w hSw
            (try dsimp only at hSw)
            go_simp
            all_goals with_reducible rfl
          try simp only [Act.put, List.setIfInBounds_toArray, List.set_cons_zero, List.set_cons_succ]
          refine wpAnyL_take (i := 10) (oi := _) (v := ?_) rfl (by kernel_rfl) (by kernel_rfl) (by kernel_rfl) (by kernel_rfl) (fun _ _ _ h => h) hHeld (Or.inl ⟨by rfl, ?_⟩) ?_
          rotate_left
          · intro w hSw
            (try dsimp only at hSw)
            go_simp
            all_goals with_reducible rfl
          try simp only [Act.put, List.setIfInBounds_toArray, List.set_cons_zero, List.set_cons_succ]
          refine wpAnyL_take (i := 11) (oi := _) (v := ?_) rfl (by kernel_rfl) (by kernel_rfl) (by kernel_rfl) (by kernel_rfl) (fun _ _ _ h => h) hHeld (Or.inl ⟨by rfl, ?_⟩) ?_
          rotate_left
          · intro w hSw
            (try dsimp only at hSw)
            go_simp
            all_goals with_reducible rfl
          try simp only [Act.put, List.setIfInBounds_toArray, List.set_cons_zero, List.set_cons_succ]
          refine wpAnyL_take (i := 12) (oi := _) (v := ?_) rfl (by kernel_rfl) (by kernel_rfl) (by kernel_rfl) (by kernel_rfl) (fun _ _ _ h => h) hHeld (Or.inl ⟨by rfl, ?_⟩) ?_
          rotate_left
          · intro w hSw
            (try dsimp only at hSw)
            go_simp
            all_goals with_reducible rfl
          try simp only [Act.put, List.setIfInBounds_toArray, List.set_cons_zero, List.set_cons_succ]
          refine wpAnyL_take (i := 13) (oi := _) (v := ?_) rfl (by kernel_rfl) (by kernel_rfl) (by kernel_rfl) (by kernel_rfl) (fun _ _ _ h => h) hHeld (Or.inl ⟨by rfl, ?_⟩) ?_
          rotate_left
          · intro w hSw
            (try dsimp only at hSw)
            go_simp
            all_goals with_reducible rfl
          try simp only [Act.put, List.setIfInBounds_toArray, List.set_cons_zero, List.set_cons_succ]
          refine wpAnyL_one (i := 14) (o := _) rfl (by kernel_rfl) (fun K hK => ?_)
          go_simp
          refine hK.out _ _ (fun _ => ?_) ?_
          · (refine ⟨?_, ?_, ?_, ?_⟩ <;> first | assumption | go_keep)
          clear hK K
          try simp only [Act.put, List.setIfInBounds_toArray, List.set_cons_zero, List.set_cons_succ]
          refine wpAnyL_one (i := 15) (o := _) rfl (by kernel_rfl) (fun K hK => ?_)
          (refine step_push_all _ edgeE (by decide) (by rfl) (.tmp 38) (.tmp 51) (by rfl) Try.underlying24 hi0 hz0 hz1 hz2 (by rfl) (v := v) (l := R) (by rfl) hob (by rfl) (Rd.one edgeE _ _ (crossE p.tasks a b) (by simp) rfl 1 (Nat.le_refl _) (Nat.lt_succ_self _)) hRl (by simp) (by decide) (by simp; omega) ?_; intro v5 w5 o5 g5 hat5; obtain ⟨A5, c5, rfl, -⟩ := id (Rd.of_own o5); have X5 := (X.below Hb.out).far g5 (fun e => hne.out e.symm); have D5 := (D.below Hb.out).far g5 (fun e => by have := ho.within _ e.symm; omega); have W5 := hWb.grown g5 hWb.size (fun g hg => by have := ho.within _ hg; omega); have p5 := (o1.below Hb.out).grown g5 ha1.out; have r5 := (o2.below Hb.out).grown g5 ha2.out; have cc0 := p5.nat hlt; have cc1 := r5.nat hjt; rw [Ha.out] at cc0; rw [HB.out] at cc1; obtain ⟨xx0, xx1, xx2, xx3, xx4, xxs⟩ := X5.cells; obtain ⟨yy0, yy1, yy2, yy3, yy4, yys⟩ := D5.cells; have xf := X5.free)
          refine hK.out _ _ (fun _ => ?_) ?_
          · (refine ⟨?_, ?_, ?_, ?_⟩ <;> first | assumption | go_keep)
          clear hK K
          try simp only [Act.put, List.setIfInBounds_toArray, List.set_cons_zero, List.set_cons_succ]
          refine wpAnyL_one (i := 16) (o := _) rfl (by kernel_rfl) (fun K hK => ?_)
          go_simp
          refine hK.out _ _ (fun _ => ?_) ?_
          · (refine ⟨?_, ?_, ?_, ?_⟩ <;> first | assumption | go_keep)
          clear hK K
          try simp only [Act.put, List.setIfInBounds_toArray, List.set_cons_zero, List.set_cons_succ]
          refine wpAnyL_one (i := 17) (o := _) rfl (by kernel_rfl) (fun K hK => ?_)
          go_simp
          refine hK.out _ _ (fun hne => absurd rfl hne) ?_
          clear hK K
          try simp only [Act.put, List.setIfInBounds_toArray, List.set_cons_zero, List.set_cons_succ]
          refine wpAnyL_done (by kernel_rfl) ?_ _
          go_wp2
          have Z5 := (Z.below Hb.out).far g5 (fun e => by have := ho.within _ e.symm; omega)
          have hne5 : Hid ((Value.slice A5 (R ++ [crossE p.tasks a b]).length c5).ownBlock ≠ some w1.heap.size) := by
            intro e
            rcases hat5 with h1 | h1
            · rw [h1] at e; exact hne.out e
            · rw [h1] at e; simp at e; omega
          have hb1 : Hid ((Value.slice (some ⟨g1, 0, none⟩) A.length c3).ownBlock = none ∨ (Value.slice (some ⟨g1, 0, none⟩) A.length c3).ownBlock ≠ (Value.slice A5 (R ++ [crossE p.tasks a b]).length c5).ownBlock) := by
            rcases hat5 with h1 | h1
            · rw [h1]; exact ha1.out
            · rw [h1]; refine .inr ?_; simp [Value.ownBlock]; omega
          have hb2 : Hid ((Value.slice (some ⟨g2, 0, none⟩) B.length c4).ownBlock = none ∨ (Value.slice (some ⟨g2, 0, none⟩) B.length c4).ownBlock ≠ (Value.slice A5 (R ++ [crossE p.tasks a b]).length c5).ownBlock) := by
            rcases hat5 with h1 | h1
            · rw [h1]; exact ha2.out
            · rw [h1]; refine .inr ?_; simp [Value.ownBlock]; omega
          rw [List.length_append, List.length_singleton] at o5 hne5 hb1 hb2
          have HR2 := Lib.hid (show J.edges ++ (K ++ crossRow p.tasks (B.take (j + 1)) a) = R ++ [crossE p.tasks a b] by rw [Sj.out, HRR.out.symm]; simp only [List.append_assoc])
          refine ⟨⟨j + 1, .slice A5 (R.length + 1) c5, by omega, by go_num, D5.other (by simp; omega) _, Z5.other (by simp; omega) _, ?_, ?_, hne5, p5.setOther (by simp [Value.ownBlock]; omega) _, r5.setOther (by simp [Value.ownBlock]; omega) _, hb1, hb2, W5.setCell (by simp; omega) _⟩, by simp [intOf]; omega⟩
          · exact X5.setEdges _ _
          · rw [HR2.out]
            exact o5.setOther hne5.out _
        · have hjI : ¬ (j : Int) < (B.length : Int) := by omega
          have hj' : j = B.length := by omega
          have hWF := hW
          subst hj'
          rw [List.take_length] at X ho
          go_wp2
          refine ⟨⟨k + 1, v, by omega, by go_num, D, Z, ?_, ?_, hne, o1, o2, ha1, ha2, hWF⟩, by simp [intOf]; omega⟩
          · rw [S0.out]; exact X
          · rw [S0.out]; exact ho
    · have hltI : ¬ (k : Int) < (A.length : Int) := by omega
      have hk' : k = A.length := by omega
      have hKl := crossK_len p.tasks hA12 hB12 A.length
      have HFM := Lib.hid (show crossK p.tasks A B A.length = M by rw [HMM.out]; unfold crossK; rw [List.take_length])
      subst hk'
      rw [HFM.out] at X ho hKl
      have hll : (joinP p q M).edges.length ≤ 2000000 := by
        rw [HJM.out]
        simp only [List.length_append]
        have := hJe.out
        omega
      have X : BoxAt w1.heap.size (joinP p q M) v wr := by rw [HJM.out]; exact X
      have ho : Ow edgeE 52 wr (w.heap.size + 3) v (joinP p q M).edges := by rw [HJM.out]; exact ho
      clear o1 o2 ha1 ha2 hne HJM
      generalize hJ2 : joinP p q M = J2 at *
      have HJ2 := Lib.hid hJ2
      clear hJ2
      obtain ⟨A5, c5, rfl, -⟩ := id (Rd.of_own ho)
      have hXl := X.lt
      obtain ⟨x0, x1, x2, x3, x4, xs⟩ := X.cells
      go_wp2_with fail
      clear x0 x1 x2 x3 x4 xs
      have W5 := hW
      refine (specPlanFault_any J2 _ _ hll (Rd.of_own ho)).mono ?_
      rintro e w7 ⟨rfl, b7⟩
      have o7 := ho.below b7
      have Z7 := Z.below b7
      have X7 := X.below b7
      have W7 := bnext W5 b7
      obtain ⟨z0, z1, z2, z3, z4, zs⟩ := Z7.cells
      have zf := Z7.free
      obtain ⟨x0, x1, x2, x3, x4, xs⟩ := X7.cells
      by_cases hj : planFault J2 = 0
      · have hjb : (planFault J2 != 0) = false := by simp [hj]
        have H := Lib.hid (show joined p q M = (J2, true) by rw [← HJ2.out]; exact joined_yes ⟨HF.out, HG.out, by rw [HJ2.out]; exact hj⟩)
        clear hj
        go_wp2
        refine bodyPost_ret (v := .tuple #[planV J2 (.slice A5 J2.edges.length c5), .bool true]) ?_ rfl ⟨.slice A5 J2.edges.length c5, by rw [H.out], ?_, ?_⟩
        · simp [planV, results, Try.results30, go_sem, *]
        · rw [H.out]
          refine Ow.more (base := w.heap.size + 3) ?_ (by omega)
          unfold Ow at o7 ⊢
          repeat (first | (with_reducible exact o7) | refine ownsRow_setCell_below ?_ (by simp <;> omega) _)
        · repeat (first | (with_reducible exact W7) | refine Below.setCell ?_ (by simp <;> omega) _)
      · have hjb : (planFault J2 != 0) = true := by simp [hj]
        have H := Lib.hid (joined_no (p := p) (q := q) (m := M) (fun x => hj (by rw [← HJ2.out]; exact x.2.2)))
        clear hj
        go_wp2
        refine bodyPost_ret (v := .tuple #[planV zeroPlan (.slice none 0 0), .bool false]) ?_ rfl ⟨.slice none 0 0, by rw [H.out], by rw [H.out]; exact Ow.nil _ _ _ _, ?_⟩
        · simp [planV, zeroPlan, results, Try.results30, go_sem, *]
        · repeat (first | (with_reducible exact W7) | refine Below.setCell ?_ (by simp <;> omega) _)
end Go.Proofs.Ytnaicippgocdfaa
end
section
namespace Go.Proofs.Ytnaicippgocdfaa
open Go.RowKit
set_option maxRecDepth 100000
set_option maxHeartbeats 2000000

def longUpto (e l : List Int) : Nat → Int
  | 0 => 0
  | k + 1 => max (longUpto e l k) (e.getD k 0 + l.getD k 0)
noncomputable def longestOf (p : Plan) (l : List Int) : Int := longUpto (earliestOf p l) l (earliestOf p l).length

theorem earFold_bd {l : List Int} (hl : ∀ x ∈ l, 1 ≤ x ∧ x ≤ 1000) (t : Nat) : ∀ (B : List Nat) (o : List Int) (c : Nat), Bd o c → Bd (B.foldl (earStep l t) o) (c + B.length)
  | [], _, _, h => h
  | b :: B, o, c, h => by
    have := earFold_bd hl t B _ _ (h.step hl t b)
    rw [List.foldl_cons, List.length_cons]
    exact this.more (by omega)
theorem earL_bd {es : List (Nat × Nat)} {T : Nat} {l : List Int} (hl : ∀ x ∈ l, 1 ≤ x ∧ x ≤ 1000) (ord : List Nat) : Bd (earL es T l ord) (T * ord.length) := by
  unfold earL
  suffices h : ∀ (ord : List Nat) (o : List Int) (c : Nat), Bd o c → Bd (ord.foldl (earTask es T l) o) (c + T * ord.length) by
    have := h ord (List.replicate T 0) 0 (fun x hx => by have := List.eq_of_mem_replicate hx; subst this; omega)
    simpa using this
  intro ord
  induction ord with
  | nil => intro o c h; simpa using h
  | cons t ord ih =>
    intro o c h
    rw [List.foldl_cons]
    refine (ih _ _ (earFold_bd hl t (beforeL es T t) o c h)).more ?_
    have := beforeL_len es T t
    rw [List.length_cons, Nat.mul_succ]
    omega
theorem earliestOf_bd (p : Plan) (l : List Int) : Bd (earliestOf p l) 144 := by
  unfold earliestOf
  split
  · rename_i hf
    obtain ⟨g1, g2, g3⟩ := weightsOk_all hf
    have h1 := manyOk_tasks (planFault_zero.1 g1).1
    have h2 := (orderOf_inv g1).len
    refine (earL_bd g3 _).more ?_
    rw [h2]
    exact Nat.le_trans (Nat.mul_le_mul (show p.tasks.toNat ≤ 12 by omega) (show p.tasks.toNat ≤ 12 by omega)) (by omega)
  · intro x hx; cases hx
theorem earliestOf_one {p : Plan} {l : List Int} (h : 0 < (earliestOf p l).length) : weightsOk p l = true ∧ (earliestOf p l).length = l.length := by
  cases hf : weightsOk p l
  · simp [earliestOf, hf] at h
  · obtain ⟨g1, g2, g3⟩ := weightsOk_all hf
    have h1 := manyOk_tasks (planFault_zero.1 g1).1
    refine ⟨rfl, ?_⟩
    unfold earliestOf
    rw [if_pos hf, earL_len]
    omega
theorem longUpto_bd {e l : List Int} (he : Bd e 144) (hl : ∀ x ∈ l, 1 ≤ x ∧ x ≤ 1000) : ∀ k, 0 ≤ longUpto e l k ∧ longUpto e l k ≤ 145000
  | 0 => by simp [longUpto]
  | k + 1 => by
    have := longUpto_bd he hl k
    have h1 := getD_bd he k
    have hw : 0 ≤ l.getD k 0 ∧ l.getD k 0 ≤ 1000 := by
      rw [List.getD_eq_getElem?_getD]
      cases hk : l[k]? with
      | none => simp
      | some y => have := hl y (List.mem_of_getElem? hk); simp; omega
    rw [longUpto]
    omega
theorem longUpto_succ {e l : List Int} {k : Nat} (h : k < e.length) (h' : k < l.length) : longUpto e l (k + 1) = max (longUpto e l k) (e[k] + l[k]) := by
  rw [longUpto]
  simp [List.getD_eq_getElem?_getD, h, h']

theorem implLongest_any (p : Plan) (ve v : Value) (l : List Int) (w : World) (hl : p.edges.length ≤ 2000000) (hl2 : l.length ≤ 2000000) (h : Rd edgeE w w.heap.size ve p.edges) (h2 : Rd intE w w.heap.size v l) :
    Calls Try.prog 31 #[planV p ve, v] w fun e w' => e = .returned (.int .i64 (longestOf p l)) ∧ Below w.heap.size w w' := by
  obtain ⟨A, c, rfl, -⟩ := id h2
  have hb0 := planBox_below 26 p ve w
  have hbd := Lib.hid (earliestOf_bd p l)
  have hone := Lib.hid (fun h => earliestOf_one (p := p) (l := l) h)
  have H := Lib.hid (show longestOf p l = longUpto (earliestOf p l) l (earliestOf p l).length from rfl)
  have hel := earliestOf_len p l
  unfold planV
  go_enter Try.func31, Try.ntmps31
  go_wp2_with fail
  refine (implEarliest_any p ve (.slice A l.length c) l _ hl hl2 ((h.below hb0).more hb0.size) ((h2.below hb0).more hb0.size)).mono ?_
  rintro e w1 ⟨u, rfl, o1, hb1⟩
  have hb := bnext hb0 hb1
  generalize earliestOf p l = E at *
  obtain ⟨A1, c1, rfl, -⟩ := id (Rd.of_own o1)
  clear hb0 hb1
  go_wp2
  go_loop [5, 12] (fun n i => ∃ k : Nat, k ≤ E.length ∧ i = .int .i64 k ∧ n = .int .i64 (longUpto E l k)) (fun _ i => E.length - (intOf i).toNat)
  case atStart => exact ⟨0, Nat.zero_le _, rfl, rfl⟩
  case round =>
    obtain ⟨k, hk, rfl, rfl⟩ := hrel
    by_cases hlt : k < E.length
    · have hltI : (k : Int) < (E.length : Int) := by omega
      obtain ⟨hok, hll⟩ := hone.out (by omega)
      obtain ⟨-, -, hw⟩ := weightsOk_all hok
      have Hll := Lib.hid hll
      have hkl : k < l.length := by omega
      have hklI : (k : Int) < (l.length : Int) := by omega
      have hs := Lib.hid (longUpto_succ (e := E) (l := l) hlt hkl)
      have hn := longUpto_bd hbd.out hw k
      have he := hbd.out _ (List.getElem_mem hlt)
      have hwk := hw _ (List.getElem_mem hkl)
      obtain ⟨g1, rfl, _, _⟩ := o1.some_ (by omega)
      have ce := o1.int hlt
      obtain ⟨bw, ow, rfl, hbw, cw⟩ := (h2.below hb).int hkl
      clear hw hll hok
      go_wp2
      exact ⟨⟨k + 1, by omega, by go_num, by rw [hs.out]⟩, by simp [intOf]; omega⟩
    · have hltI : ¬ (k : Int) < (E.length : Int) := by omega
      have hk' : k = E.length := by omega
      have hbF := hb
      subst hk'
      go_wp2
      go_ret
      exact ⟨ret_int (by rw [H.out]), hbF⟩
theorem specLongest_any (p : Plan) (ve v : Value) (l : List Int) (w : World) (hl : p.edges.length ≤ 2000000) (hl2 : l.length ≤ 2000000) (h : Rd edgeE w w.heap.size ve p.edges) (h2 : Rd intE w w.heap.size v l) :
    Calls Try.prog 13 #[planV p ve, v] w fun e w' => e = .returned (.int .i64 (longestOf p l)) ∧ Below w.heap.size w w' := by
  obtain ⟨A, c, rfl, -⟩ := id h2
  have hb0 := planBox_below 26 p ve w
  have hbd := Lib.hid (earliestOf_bd p l)
  have hone := Lib.hid (fun h => earliestOf_one (p := p) (l := l) h)
  have H := Lib.hid (show longestOf p l = longUpto (earliestOf p l) l (earliestOf p l).length from rfl)
  have hel := earliestOf_len p l
  unfold planV
  go_enter Try.func13, Try.ntmps13
  go_wp2_with fail
  refine (specEarliest_any p ve (.slice A l.length c) l _ hl hl2 ((h.below hb0).more hb0.size) ((h2.below hb0).more hb0.size)).mono ?_
  rintro e w1 ⟨u, rfl, o1, hb1⟩
  have hb := bnext hb0 hb1
  generalize earliestOf p l = E at *
  obtain ⟨A1, c1, rfl, -⟩ := id (Rd.of_own o1)
  have hb0s := hb0.size
  clear hb0 hb1
  go_wp2
  go_loopw [5, 7] (fun n i wr => ∃ k : Nat, k ≤ E.length ∧ i = .int .i64 k ∧ n = .int .i64 (longUpto E l k) ∧ Ow intE 3 wr w.heap.size (.slice A1 E.length c1) E ∧ Below w.heap.size w wr) (fun _ i _ => E.length - (intOf i).toNat)
  case atStart => exact ⟨0, Nat.zero_le _, rfl, rfl, o1.more hb0s, hb⟩
  case round =>
    clear o1 hb
    obtain ⟨k, hk, rfl, rfl, o1, hb⟩ := hrel
    by_cases hlt : k < E.length
    · have hltI : (k : Int) < (E.length : Int) := by omega
      obtain ⟨hok, hll⟩ := hone.out (by omega)
      obtain ⟨-, -, hw⟩ := weightsOk_all hok
      have Hll := Lib.hid hll
      have hkl : k < l.length := by omega
      have hklI : (k : Int) < (l.length : Int) := by omega
      have hs := Lib.hid (longUpto_succ (e := E) (l := l) hlt hkl)
      have hn := longUpto_bd hbd.out hw k
      have he := hbd.out _ (List.getElem_mem hlt)
      have hwk := hw _ (List.getElem_mem hkl)
      obtain ⟨g1, rfl, _, _⟩ := o1.some_ (by omega)
      have ce := o1.int hlt
      obtain ⟨bw, ow, rfl, hbw, cw⟩ := (h2.below hb).int hkl
      have Hcw : Hid (∀ W', Below w.heap.size w W' → W'.cell? ⟨bw, ow + k, none⟩ = some (.int .i64 l[k])) := fun W' hW' => by
        obtain ⟨b', o', ee, _, d0⟩ := (h2.below hW').int hkl
        simp only [Option.some.injEq, Addr.mk.injEq] at ee
        obtain ⟨rfl, rfl, -⟩ := ee
        exact d0
      have hwr : IntKind.i64.wrap (E[k] + l[k]) = E[k] + l[k] := IntWalk.i64_in _ (by omega)
      have hdr : Hid (∀ n, Below wr.heap.size wr (wr.drewN n)) := fun n => bdrewN (Below.refl _ _) n
      clear hw hll hok hn he hwk
      by_cases hgt : longUpto E l k < E[k] + l[k]
      · have hmax := Lib.hid (show max (longUpto E l k) (E[k] + l[k]) = E[k] + l[k] by omega)
        go_wp2
        go_quiet (fail)
        clear ce cw
        have o1 := o1.below (hdr.out nq)
        have hb := bnext hb (hdr.out nq)
        have ce := o1.int hlt
        have cw := Hcw.out _ hb
        generalize wr.drewN nq = w5 at *
        go_wp2
        go_quiet (fail)
        go_wp2
        exact ⟨⟨k + 1, by omega, by go_num, by rw [hs.out, hmax.out], o1.below (bdrewN (Below.refl _ _) _), bdrewN hb _⟩, by simp [intOf]; omega⟩
      · have hmax := Lib.hid (show max (longUpto E l k) (E[k] + l[k]) = longUpto E l k by omega)
        have hdec : decide (longUpto E l k < E[k] + l[k]) = false := by simpa using hgt
        go_wp2
        go_quiet (fail)
        go_wp2
        exact ⟨⟨k + 1, by omega, by go_num, by rw [hs.out, hmax.out], o1.below (hdr.out nq), bdrewN hb _⟩, by simp [intOf]; omega⟩
    · have hltI : ¬ (k : Int) < (E.length : Int) := by omega
      have hk' : k = E.length := by omega
      have hbF := hb
      subst hk'
      go_wp2
      go_ret
      exact ⟨ret_int (by rw [H.out]), hbF⟩
end Go.Proofs.Ytnaicippgocdfaa
end
section
namespace Go.Proofs.Ytnaicippgocdfaa
open Go.RowKit
set_option maxRecDepth 100000
set_option maxHeartbeats 3000000

def latEnd (L : Int) (o : List Int) (B : List Nat) : Int := B.foldl (fun e b => min e (o.getD b 0)) L
def latTask (es : List (Nat × Nat)) (T : Nat) (L : Int) (l : List Int) (t : Nat) (o : List Int) : List Int := o.set t (latEnd L o (behindL es T t) - l.getD t 0)
def latL (es : List (Nat × Nat)) (T : Nat) (L : Int) (l : List Int) (ord : List Nat) : List Int := ord.foldr (latTask es T L l) (List.replicate T 0)
noncomputable def latestOf (p : Plan) (l : List Int) : List Int := if weightsOk p l = true then latL (esOf p) p.tasks.toNat (longestOf p l) l (orderOf p) else []
def Ld (o : List Int) (c : Nat) : Prop := ∀ x ∈ o, -(1000 * (c : Int)) ≤ x ∧ x ≤ 145000
theorem latL_len (es : List (Nat × Nat)) (T : Nat) (L : Int) (l : List Int) : ∀ ord : List Nat, (latL es T L l ord).length = T
  | [] => by simp [latL]
  | t :: ord => by
    have := latL_len es T L l ord
    unfold latL at *
    rw [List.foldr_cons, latTask, List.length_set, this]
theorem latL_cons (es : List (Nat × Nat)) (T : Nat) (L : Int) (l : List Int) (ord : List Nat) {n : Nat} (h : n < ord.length) : latL es T L l (ord.drop n) = (latL es T L l (ord.drop (n + 1))).set ord[n] (latEnd L (latL es T L l (ord.drop (n + 1))) (behindL es T ord[n]) - l.getD ord[n] 0) := by
  rw [List.drop_eq_getElem_cons h]
  rfl
theorem getD_ld {o : List Int} {c : Nat} (h : Ld o c) (k : Nat) : -(1000 * (c : Int)) ≤ o.getD k 0 ∧ o.getD k 0 ≤ 145000 := by
  rw [List.getD_eq_getElem?_getD]
  cases hk : o[k]? with
  | none => simp; omega
  | some x => exact h x (List.mem_of_getElem? hk)
theorem latEnd_bd {L : Int} (hL : 0 ≤ L ∧ L ≤ 145000) {o : List Int} {c : Nat} (h : Ld o c) : ∀ (B : List Nat) (L' : Int), -(1000 * (c : Int)) ≤ L' ∧ L' ≤ 145000 → -(1000 * (c : Int)) ≤ latEnd L' o B ∧ latEnd L' o B ≤ 145000
  | [], L', h' => h'
  | b :: B, L', h' => by
    have := getD_ld h b
    have h2 := latEnd_bd hL h B (min L' (o.getD b 0)) (by omega)
    simpa [latEnd] using h2
theorem Ld.step {L : Int} (hL : 0 ≤ L ∧ L ≤ 145000) {o : List Int} {c : Nat} (h : Ld o c) {l : List Int} (hl : ∀ x ∈ l, 1 ≤ x ∧ x ≤ 1000) (B : List Nat) (t : Nat) : Ld (o.set t (latEnd L o B - l.getD t 0)) (c + 1) := by
  intro x hx
  have hw : 0 ≤ l.getD t 0 ∧ l.getD t 0 ≤ 1000 := by
    rw [List.getD_eq_getElem?_getD]
    cases hk : l[t]? with
    | none => simp
    | some y => have := hl y (List.mem_of_getElem? hk); simp; omega
  rcases List.mem_or_eq_of_mem_set hx with hx | rfl
  · have := h x hx; omega
  · have h1 := latEnd_bd hL h B L (by omega)
    omega
theorem latEnd_step {L : Int} {o : List Int} {B : List Nat} {j : Nat} (hj : j < B.length) (hb : B[j] < o.length) : latEnd L o (B.take (j + 1)) = min (latEnd L o (B.take j)) o[B[j]] := by
  unfold latEnd
  rw [earTake_step hj]
  simp [List.getD_eq_getElem?_getD, hb]
theorem latestOf_len (p : Plan) (l : List Int) : (latestOf p l).length ≤ 12 := by
  unfold latestOf
  split
  · rename_i hf
    have := manyOk_tasks (planFault_zero.1 (weightsOk_all hf).1).1
    rw [latL_len]
    omega
  · simp
theorem latL_ld {es : List (Nat × Nat)} {T : Nat} {L : Int} (hL : 0 ≤ L ∧ L ≤ 145000) {l : List Int} (hl : ∀ x ∈ l, 1 ≤ x ∧ x ≤ 1000) : ∀ ord : List Nat, Ld (latL es T L l ord) ord.length
  | [] => fun x hx => by have := List.eq_of_mem_replicate hx; subst this; simp
  | t :: ord => Ld.step hL (latL_ld hL hl ord) hl _ _
theorem latestOf_bd (p : Plan) (l : List Int) : Ld (latestOf p l) 12 := by
  unfold latestOf
  split
  · rename_i hf
    obtain ⟨g1, g2, g3⟩ := weightsOk_all hf
    have h1 := manyOk_tasks (planFault_zero.1 g1).1
    have h2 := (orderOf_inv g1).len
    have h3 := latL_ld (es := esOf p) (T := p.tasks.toNat) (longUpto_bd (earliestOf_bd p l) g3 (earliestOf p l).length) g3 (orderOf p)
    intro x hx
    have := h3 x hx
    omega
  · intro x hx; cases hx

theorem implLatest_any (p : Plan) (ve v : Value) (l : List Int) (w : World) (hl : p.edges.length ≤ 2000000) (hl2 : l.length ≤ 2000000) (h : Rd edgeE w w.heap.size ve p.edges) (h2 : Rd intE w w.heap.size v l) :
    Calls Try.prog 36 #[planV p ve, v] w fun e w' => ∃ u, e = .returned u ∧ Ow intE 3 w' w.heap.size u (latestOf p l) ∧ Below w.heap.size w w' := by
  obtain ⟨A, c, rfl, -⟩ := id h2
  have hb0 := planBox_below 26 p ve w
  have D0 := BoxAt.new 26 p ve w
  cases hf : weightsOk p l
  · have H := Lib.hid (show latestOf p l = [] by simp [latestOf, hf])
    have HF := Lib.hid hf
    clear hf
    unfold planV
    go_enter Try.func36, Try.ntmps36
    go_wp2_with fail
    refine (implWeightsOk_any p ve (.slice A l.length c) l _ hl hl2 ((h.below hb0).more hb0.size) ((h2.below hb0).more hb0.size)).mono ?_
    rintro e w1 ⟨rfl, hb1⟩
    rw [HF.out]
    have hb := bnext hb0 hb1
    go_wp2
    go_ret
    exact ⟨_, rfl, by rw [H.out]; exact Ow.nil _ _ _ _, hb⟩
  obtain ⟨g1, g2, g3⟩ := weightsOk_all hf
  have G := Lib.hid (planFault_zero.1 g1)
  have HF := Lib.hid hf
  have HP := Lib.hid g1
  have HW := Lib.hid g3
  obtain ⟨t1, t2⟩ := manyOk_tasks G.out.1
  obtain ⟨T, hT⟩ := Int.eq_ofNat_of_zero_le (show 0 ≤ p.tasks by omega)
  have HT := Lib.hid hT
  have HTn := Lib.hid (show p.tasks.toNat = T by omega)
  have hT12 : T ≤ 12 := by omega
  have HLl := Lib.hid (show l.length = T by omega)
  have H := Lib.hid (show latestOf p l = latL (esOf p) T (longestOf p l) l (orderOf p) by unfold latestOf; rw [if_pos hf, HTn.out])
  have hLg : Hid (0 ≤ longestOf p l ∧ longestOf p l ≤ 145000) := Lib.hid (longUpto_bd (earliestOf_bd p l) g3 _)
  have hO := Lib.hid (orderOf_inv g1)
  obtain ⟨j0, hj0, jz0, jz1, jz2⟩ := info_parts int_info
  have hmk : ∀ w : World, (Instr.makeSlice 27 (.int .i64 p.tasks) (.int .i64 p.tasks)).run Try.prog w = .ok (.slice (some ⟨w.heap.size, 0, none⟩) T T) (w.alloc (.cells (madeCells #[.int .i64 0] (T * 1)) 3)) := by
    intro w
    have := run_make (P := Try.prog) w 27 3 j0 _ Try.underlying27 hj0 jz0 .i64 .i64 T T (by omega) (by omega) (by rw [jz2]; omega) (by omega)
    rw [jz1] at this
    rw [hT]
    simpa [Value.cells] using this
  clear hf g1 g2 g3 hT
  unfold planV
  go_enter Try.func36, Try.ntmps36
  go_wp2_with fail
  refine (implWeightsOk_any p ve (.slice A l.length c) l _ hl hl2 ((h.below hb0).more hb0.size) ((h2.below hb0).more hb0.size)).mono ?_
  rintro e w1 ⟨rfl, hb1⟩
  rw [HF.out]
  have D := D0.below hb1
  have hb := bnext hb0 hb1
  obtain ⟨x0, x1, x2, x3, x4, xs⟩ := D.cells
  go_wp2_with fail
  clear x0 x1 x2 x3 x4 hmk D0 hb0 hb1
  have O1 := Ow.made intE 3 w1 0 T (by decide) (by simp [maxLen]; omega) (z := #[.int .i64 0]) rfl (m := T) (by simp [intE])
  have ha := (Below.refl w1.heap.size w1).alloc (Nat.le_refl _) (.cells (madeCells #[.int .i64 0] T) 3)
  have hsz1 : (w1.alloc (.cells (madeCells #[.int .i64 0] T) 3)).heap.size = w1.heap.size + 1 := by simp
  have Hsz1 := Lib.hid hsz1
  have D := D.below ha
  have hb := bnext hb ha
  clear ha hsz1
  refine (implOrder_any p ve _ hl ((h.below hb).more hb.size)).mono ?_
  rintro e w2 ⟨v2, rfl, o2, hb2⟩
  have o2 := o2.more (base' := w1.heap.size + 1) (by rw [Hsz1.out]; omega)
  have O := O1.below hb2
  have D := D.below hb2
  have hb := bnext hb hb2
  have hX := xs
  clear O1 xs hb2
  have hlen : (orderOf p).length = T := by rw [hO.out.len, HTn.out]
  have hlt0 : Hid (∀ x ∈ orderOf p, x < T) := fun x hx => by have := hO.out.lt x hx; rw [HTn.out] at this; exact this
  generalize orderOf p = ord at *
  generalize hLL : longestOf p l = L at *
  have HLL := Lib.hid hLL
  clear hLL
  obtain ⟨A2, c2, rfl, -⟩ := id (Rd.of_own o2)
  rw [hlen] at o2 ⊢
  have HO2 := Lib.hid hlen
  clear hlen
  have hsT : IntKind.i64.wrap ((T : Int) - 1) = (T : Int) - 1 := IntWalk.i64_in _ (by omega)
  go_wp2
  go_loopw [7] (fun i wr => ∃ n : Nat, n ≤ T ∧ i = .int .i64 ((n : Int) - 1) ∧ Hid (Ld (latL (esOf p) T L l (ord.drop n)) (T - n)) ∧ Ow intE 3 wr w1.heap.size (.slice (some ⟨w1.heap.size, 0, none⟩) T T) (latL (esOf p) T L l (ord.drop n)) ∧ Ow natE 3 wr (w1.heap.size + 1) (.slice A2 T c2) ord ∧ BoxAt w.heap.size p ve wr ∧ Below w.heap.size w wr) (fun i _ => (intOf i + 1).toNat)
  case atStart => exact ⟨T, Nat.le_refl _, rfl, by rw [List.drop_of_length_le (by rw [HO2.out]; exact Nat.le_refl _)]; exact fun x hx => by have := List.eq_of_mem_replicate hx; subst this; omega, by rw [List.drop_of_length_le (by rw [HO2.out]; exact Nat.le_refl _)]; exact O, o2, D, hb⟩
  case round =>
    clear O o2 D hb hsT
    obtain ⟨n, hn, rfl, hbd, ho, o2, D, hb⟩ := hrel
    cases n with
    | zero =>
      have hltI : ¬ ((0 : Nat) : Int) - 1 ≥ 0 := by omega
      have hbF := hb
      rw [List.drop_zero] at ho
      go_wp2
      go_ret
      exact ⟨_, rfl, by rw [H.out]; exact ho.more (by omega), hbF⟩
    | succ n =>
      have he1 : ((n + 1 : Nat) : Int) - 1 = (n : Int) := by omega
      rw [he1]
      clear he1
      have hnT : n < T := by omega
      have hge : (n : Int) ≥ 0 := by omega
      have hnI : (n : Int) < (T : Int) := by omega
      have hko : n < ord.length := by rw [HO2.out]; exact hnT
      have S0 := Lib.hid (latL_cons (esOf p) T L l ord hko)
      have hEl := latL_len (esOf p) T L l (ord.drop (n + 1))
      have htT : ord[n] < T := hlt0.out _ (List.getElem_mem hko)
      obtain ⟨g2, rfl, hg2, hg2'⟩ := o2.some_ (by omega)
      have ct := o2.nat hko
      generalize hE : latL (esOf p) T L l (ord.drop (n + 1)) = E at *
      have HE := Lib.hid hE
      clear hE
      generalize hkt : ord[n] = t at *
      have Hkt := Lib.hid hkt
      clear hkt
      obtain ⟨x0, x1, x2, x3, x4, xs⟩ := D.cells
      have hblk := ho.blk.2
      go_wp2_with fail
      clear x0 x1 x2 x3 x4 xs ct hblk
      refine (implLongest_any p ve (.slice A l.length c) l _ hl hl2 ((h.below hb).more hb.size) ((h2.below hb).more hb.size)).mono ?_
      rintro e w3 ⟨rfl, b3⟩
      rw [HLL.out]
      have ho := ho.below b3
      have o2 := o2.below b3
      have D := D.below b3
      have hb := bnext hb b3
      clear b3
      have hblk := ho.blk.2
      obtain ⟨x0, x1, x2, x3, x4, xs⟩ := D.cells
      go_wp2_with fail
      clear x0 x1 x2 x3 x4 xs
      refine (implBehind_any p ve t _ HP.out ((h.below hb).more hb.size)).mono ?_
      rintro e w4 ⟨v3, rfl, o3, b3⟩
      rw [HTn.out] at o3
      have o3 := o3.more (base' := w1.heap.size + 1) (by omega)
      have ho := ho.below b3
      have o2 := o2.below b3
      have D := D.below b3
      have hb := bnext hb b3
      have hbl := behindL_len (esOf p) T t
      have hbm : Hid (∀ x ∈ behindL (esOf p) T t, x < T) := fun x hx => by simp [behindL] at hx; exact hx.1
      have hst := Lib.hid (hbd.out.step hLg.out HW.out (behindL (esOf p) T t) t)
      generalize behindL (esOf p) T t = B at *
      obtain ⟨A3, c3, rfl, -⟩ := id (Rd.of_own o3)
      clear b3 hblk
      go_wp2
      go_loop [9, 39] (fun e i => ∃ j : Nat, j ≤ B.length ∧ i = .int .i64 j ∧ e = .int .i64 (latEnd L E (B.take j))) (fun _ i => B.length - (intOf i).toNat)
      case atStart => exact ⟨0, Nat.zero_le _, rfl, rfl⟩
      case round =>
        obtain ⟨j, hj, rfl, rfl⟩ := hrel
        by_cases hjt : j < B.length
        · have hjI : (j : Int) < (B.length : Int) := by omega
          have hbT : B[j] < T := hbm.out _ (List.getElem_mem hjt)
          have hbE : B[j] < E.length := by omega
          have Sj := Lib.hid (latEnd_step (L := L) (o := E) hjt hbE)
          generalize latEnd L E (B.take j) = m at *
          obtain ⟨g3, rfl, hg3, hg3'⟩ := o3.some_ (by omega)
          have cb := o3.nat hjt
          have cO := ho.int hbE
          generalize hbj : B[j] = b at *
          have hbI : (b : Int) < (T : Int) := by omega
          go_wp2
          exact ⟨⟨j + 1, by omega, by go_num, by rw [Sj.out]⟩, by simp [intOf]; omega⟩
        · have hjI : ¬ (j : Int) < (B.length : Int) := by omega
          have hj' : j = B.length := by omega
          subst hj'
          rw [List.take_length]
          have hen := latEnd_bd hLg.out hbd.out B L (by have := hLg.out; omega)
          have htl : t < l.length := by rw [HLl.out]; exact htT
          have htlI : (t : Int) < (l.length : Int) := by omega
          have htI : (t : Int) < (T : Int) := by omega
          have htO : t < E.length := by omega
          obtain ⟨bw, ow, rfl, hbw, cw⟩ := (h2.below hb).int htl
          have hwt := HW.out _ (List.getElem_mem htl)
          have hS2 := Lib.hid (show l.getD t 0 = l[t] by simp [List.getD_eq_getElem?_getD, htl])
          have hput := Lib.hid (Ow.put ho hEl t htT (latEnd L E B - l[t]))
          generalize latEnd L E B = m at *
          have hs : IntKind.i64.wrap (m - l[t]) = m - l[t] := IntWalk.i64_in _ (by omega)
          have cO := ho.int htO
          have hf := ho.free
          clear hwt hen
          go_wp2
          refine ⟨⟨n, by omega, rfl, by rw [S0.out, hS2.out] at *; exact fun x hx => by have := hst.out x hx; omega, ?_, o2.setOther (by simp [Value.ownBlock]; omega) _, D.other (by simp; omega) _, hb.setCell (by simp; omega) _⟩, by simp [intOf]⟩
          rw [S0.out, hS2.out]
          have := hput.out.1
          simp only [intE, Nat.mul_one] at this
          exact this
end Go.Proofs.Ytnaicippgocdfaa
end
section
namespace Go.Proofs.Ytnaicippgocdfaa
open Go.RowKit
set_option maxRecDepth 100000
set_option maxHeartbeats 2000000

noncomputable def leastEnd (p : Plan) (l : List Int) (many : Int) : Int := if weightsOk p l = true ∧ inB many 1 8 = true then max (longestOf p l) ((workOf p l + many - 1) / many) else 0
theorem leastEnd_no {p : Plan} {l : List Int} {many : Int} (h : ¬ (weightsOk p l = true ∧ inB many 1 8 = true)) : leastEnd p l many = 0 := by unfold leastEnd; rw [if_neg h]
theorem leastEnd_yes {p : Plan} {l : List Int} {many : Int} (h : weightsOk p l = true ∧ inB many 1 8 = true) : leastEnd p l many = max (longestOf p l) ((workOf p l + many - 1) / many) := by unfold leastEnd; rw [if_pos h]
theorem longestOf_bd {p : Plan} {l : List Int} (h : weightsOk p l = true) : 0 ≤ longestOf p l ∧ longestOf p l ≤ 145000 := longUpto_bd (earliestOf_bd p l) (weightsOk_all h).2.2 _
theorem workOf_bd {p : Plan} {l : List Int} (h : weightsOk p l = true) : 0 ≤ workOf p l ∧ workOf p l ≤ 12000 := by
  have h1 := sum_bound (weightsOk_all h).2.2
  have h2 := weightsOk_len h
  simp only [workOf, if_pos h]
  omega

theorem implLeast_any (p : Plan) (ve v : Value) (l : List Int) (many : Int) (w : World) (hl : p.edges.length ≤ 2000000) (hl2 : l.length ≤ 2000000) (h : Rd edgeE w w.heap.size ve p.edges) (h2 : Rd intE w w.heap.size v l) :
    Calls Try.prog 14 #[planV p ve, v, .int .i64 many] w fun e w' => e = .returned (.int .i64 (leastEnd p l many)) ∧ Below w.heap.size w w' := by
  have hb0 := planBox_below 26 p ve w
  have D0 := BoxAt.new 26 p ve w
  cases hf : weightsOk p l
  · have H := Lib.hid (leastEnd_no (p := p) (l := l) (many := many) (fun x => by rw [hf] at x; cases x.1))
    have HF := Lib.hid hf
    clear hf
    unfold planV
    go_enter Try.func14, Try.ntmps14
    go_wp2_with fail
    refine (implWeightsOk_any p ve v l _ hl hl2 ((h.below hb0).more hb0.size) ((h2.below hb0).more hb0.size)).mono ?_
    rintro e w1 ⟨rfl, hb1⟩
    rw [HF.out]
    go_wp2
    go_ret
    exact ⟨ret_int H.out.symm, bnext hb0 hb1⟩
  cases hm : inB many 1 8
  · have H := Lib.hid (leastEnd_no (p := p) (l := l) (many := many) (fun x => by rw [hm] at x; cases x.2))
    have HF := Lib.hid hf
    clear hf
    unfold planV
    go_enter Try.func14, Try.ntmps14
    go_wp2_with fail
    refine (implWeightsOk_any p ve v l _ hl hl2 ((h.below hb0).more hb0.size) ((h2.below hb0).more hb0.size)).mono ?_
    rintro e w1 ⟨rfl, hb1⟩
    rw [HF.out]
    have hb := bnext hb0 hb1
    go_wp2_with (go_at_call 49; refine (within_any _ _ _ _).mono ?_; rintro e w' ⟨rfl, rfl⟩)
    go_ret
    exact ⟨ret_int H.out.symm, hb⟩
  have H := Lib.hid (leastEnd_yes ⟨hf, hm⟩)
  have HF := Lib.hid hf
  obtain ⟨m1, m2⟩ := inB_iff.1 hm
  obtain ⟨l1, l2⟩ := longestOf_bd hf
  obtain ⟨k1, k2⟩ := workOf_bd hf
  clear hf
  unfold planV
  go_enter Try.func14, Try.ntmps14
  go_wp2_with fail
  refine (implWeightsOk_any p ve v l _ hl hl2 ((h.below hb0).more hb0.size) ((h2.below hb0).more hb0.size)).mono ?_
  rintro e w1 ⟨rfl, hb1⟩
  rw [HF.out]
  have hb := bnext hb0 hb1
  have D := D0.below hb1
  clear hb0 hb1 D0
  obtain ⟨x0, x1, x2, x3, x4, xs⟩ := D.cells
  generalize hL : longestOf p l = L at *
  have HL := Lib.hid hL
  generalize hK : workOf p l = K at *
  have HK := Lib.hid hK
  clear hL hK
  have hs1 : IntKind.i64.wrap (K + many) = K + many := IntWalk.i64_in _ (by omega)
  have hs2 : IntKind.i64.wrap (K + many - 1) = K + many - 1 := IntWalk.i64_in _ (by omega)
  have hq : 0 ≤ (K + many - 1) / many ∧ (K + many - 1) / many ≤ 20000 := by
    refine ⟨Int.ediv_nonneg (by omega) (by omega), ?_⟩
    have := Int.ediv_le_self many (a := K + many - 1) (by omega)
    omega
  obtain ⟨q1, q2⟩ := hq
  go_wp2_with (go_at_call 49; refine (within_any _ _ _ _).mono ?_; rintro e w' ⟨rfl, rfl⟩)
  have hlc := later_cell w1
  refine wp_region_pure (by kernel_rfl) (by kernel_rfl) ?_
  repeat (go_big_quiet_step ((first
    | (go_at_call 31; rename_i x; have h1 := implLongest_any p ve v l x.1 hl hl2 ((h.below (bnext hb x.2)).more (bnext hb x.2).size) ((h2.below (bnext hb x.2)).more (bnext hb x.2).size); rw [HL.out] at h1; unfold planV at h1; with_reducible exact pure_of h1)
    | (go_at_call 44; rename_i x; have h1 := implWorkOf_any p ve v l x.1 hl hl2 ((h.below (bnext hb x.2)).more (bnext hb x.2).size) ((h2.below (bnext hb x.2)).more (bnext hb x.2).size); rw [HK.out] at h1; unfold planV at h1; with_reducible exact pure_of h1))))
  refine wpQuiet_nil ?_
  rintro _ ⟨⟨w3, hb3⟩, rfl⟩
  clear hlc
  go_wp2
  go_ret
  exact ⟨ret_int H.out.symm, bnext hb hb3⟩
theorem specLeast_any (p : Plan) (ve v : Value) (l : List Int) (many : Int) (w : World) (hl : p.edges.length ≤ 2000000) (hl2 : l.length ≤ 2000000) (h : Rd edgeE w w.heap.size ve p.edges) (h2 : Rd intE w w.heap.size v l) :
    Calls Try.prog 16 #[planV p ve, v, .int .i64 many] w fun e w' => e = .returned (.int .i64 (leastEnd p l many)) ∧ Below w.heap.size w w' := by
  have hb0 := planBox_below 26 p ve w
  have D0 := BoxAt.new 26 p ve w
  cases hf : weightsOk p l
  · have H := Lib.hid (leastEnd_no (p := p) (l := l) (many := many) (fun x => by rw [hf] at x; cases x.1))
    have HF := Lib.hid hf
    clear hf
    unfold planV
    go_enter Try.func16, Try.ntmps16
    go_wp2_with fail
    refine (specWeightsOk_any p ve v l _ hl hl2 ((h.below hb0).more hb0.size) ((h2.below hb0).more hb0.size)).mono ?_
    rintro e w1 ⟨rfl, hb1⟩
    rw [HF.out]
    go_wp2
    go_ret
    exact ⟨ret_int H.out.symm, bnext hb0 hb1⟩
  cases hm : inB many 1 8
  · have H := Lib.hid (leastEnd_no (p := p) (l := l) (many := many) (fun x => by rw [hm] at x; cases x.2))
    have HF := Lib.hid hf
    clear hf
    unfold planV
    go_enter Try.func16, Try.ntmps16
    go_wp2_with fail
    refine (specWeightsOk_any p ve v l _ hl hl2 ((h.below hb0).more hb0.size) ((h2.below hb0).more hb0.size)).mono ?_
    rintro e w1 ⟨rfl, hb1⟩
    rw [HF.out]
    have hb := bnext hb0 hb1
    go_wp2_with (go_at_call 52; refine (l01In_any _ _ _ _).mono ?_; rintro e w' ⟨rfl, rfl⟩)
    go_ret
    exact ⟨ret_int H.out.symm, hb⟩
  have H := Lib.hid (leastEnd_yes ⟨hf, hm⟩)
  have HF := Lib.hid hf
  obtain ⟨m1, m2⟩ := inB_iff.1 hm
  obtain ⟨l1, l2⟩ := longestOf_bd hf
  obtain ⟨k1, k2⟩ := workOf_bd hf
  clear hf
  unfold planV
  go_enter Try.func16, Try.ntmps16
  go_wp2_with fail
  refine (specWeightsOk_any p ve v l _ hl hl2 ((h.below hb0).more hb0.size) ((h2.below hb0).more hb0.size)).mono ?_
  rintro e w1 ⟨rfl, hb1⟩
  rw [HF.out]
  have hb := bnext hb0 hb1
  have D := D0.below hb1
  clear hb0 hb1 D0
  obtain ⟨x0, x1, x2, x3, x4, xs⟩ := D.cells
  generalize hL : longestOf p l = L at *
  have HL := Lib.hid hL
  generalize hK : workOf p l = K at *
  have HK := Lib.hid hK
  clear hL hK
  have hs1 : IntKind.i64.wrap (K + many) = K + many := IntWalk.i64_in _ (by omega)
  have hs2 : IntKind.i64.wrap (K + many - 1) = K + many - 1 := IntWalk.i64_in _ (by omega)
  have hq : 0 ≤ (K + many - 1) / many ∧ (K + many - 1) / many ≤ 20000 := by
    refine ⟨Int.ediv_nonneg (by omega) (by omega), ?_⟩
    have := Int.ediv_le_self many (a := K + many - 1) (by omega)
    omega
  obtain ⟨q1, q2⟩ := hq
  go_wp2_with (go_at_call 52; refine (l01In_any _ _ _ _).mono ?_; rintro e w' ⟨rfl, rfl⟩)
  clear x0 x1 x2 x3 x4 xs
  refine (specWorkOf_any p ve v l _ hl hl2 ((h.below hb).more hb.size) ((h2.below hb).more hb.size)).mono ?_
  rintro e w2 ⟨rfl, hb2⟩
  rw [HK.out]
  have D := D.below hb2
  have hb := bnext hb hb2
  obtain ⟨x0, x1, x2, x3, x4, xs⟩ := D.cells
  go_wp2_with fail
  clear x0 x1 x2 x3 x4 xs
  refine (specLongest_any p ve v l _ hl hl2 ((h.below hb).more hb.size) ((h2.below hb).more hb.size)).mono ?_
  rintro e w3 ⟨rfl, hb3⟩
  rw [HL.out]
  have D := D.below hb3
  have hb := bnext hb hb3
  obtain ⟨x0, x1, x2, x3, x4, xs⟩ := D.cells
  by_cases hgt : (K + many - 1) / many < L
  · have hmax := Lib.hid (show max L ((K + many - 1) / many) = L by omega)
    go_wp2_with fail
    clear x0 x1 x2 x3 x4 xs
    refine (specLongest_any p ve v l _ hl hl2 ((h.below hb).more hb.size) ((h2.below hb).more hb.size)).mono ?_
    rintro e w4 ⟨rfl, hb4⟩
    rw [HL.out]
    have hb := bnext hb hb4
    go_wp2
    go_ret
    exact ⟨ret_int (by rw [H.out, hmax.out]), hb⟩
  · have hmax := Lib.hid (show max L ((K + many - 1) / many) = (K + many - 1) / many by omega)
    go_wp2
    go_ret
    exact ⟨ret_int (by rw [H.out, hmax.out]), hb⟩
end Go.Proofs.Ytnaicippgocdfaa
end
section
namespace Go.Proofs.Ytnaicippgocdfaa
open Go.RowKit
set_option maxRecDepth 100000
set_option maxHeartbeats 3000000

theorem specLatest_any (p : Plan) (ve v : Value) (l : List Int) (w : World) (hl : p.edges.length ≤ 2000000) (hl2 : l.length ≤ 2000000) (h : Rd edgeE w w.heap.size ve p.edges) (h2 : Rd intE w w.heap.size v l) :
    Calls Try.prog 40 #[planV p ve, v] w fun e w' => ∃ u, e = .returned u ∧ Ow intE 3 w' w.heap.size u (latestOf p l) ∧ Below w.heap.size w w' := by
  obtain ⟨A, c, rfl, -⟩ := id h2
  have hb0 := planBox_below 26 p ve w
  have D0 := BoxAt.new 26 p ve w
  cases hf : weightsOk p l
  · have H := Lib.hid (show latestOf p l = [] by simp [latestOf, hf])
    have HF := Lib.hid hf
    clear hf
    unfold planV
    go_enter Try.func40, Try.ntmps40
    go_wp2_with fail
    refine (specWeightsOk_any p ve (.slice A l.length c) l _ hl hl2 ((h.below hb0).more hb0.size) ((h2.below hb0).more hb0.size)).mono ?_
    rintro e w1 ⟨rfl, hb1⟩
    rw [HF.out]
    have hb := bnext hb0 hb1
    go_wp2
    go_ret
    exact ⟨_, rfl, by rw [H.out]; exact (Ow.empty intE 3 w1 rfl).more hb.size, hb.alloc hb.size _⟩
  obtain ⟨g1, g2, g3⟩ := weightsOk_all hf
  have G := Lib.hid (planFault_zero.1 g1)
  have HF := Lib.hid hf
  have HP := Lib.hid g1
  have HW := Lib.hid g3
  obtain ⟨t1, t2⟩ := manyOk_tasks G.out.1
  obtain ⟨T, hT⟩ := Int.eq_ofNat_of_zero_le (show 0 ≤ p.tasks by omega)
  have HT := Lib.hid hT
  have HTn := Lib.hid (show p.tasks.toNat = T by omega)
  have hT12 : T ≤ 12 := by omega
  have HLl := Lib.hid (show l.length = T by omega)
  have H := Lib.hid (show latestOf p l = latL (esOf p) T (longestOf p l) l (orderOf p) by unfold latestOf; rw [if_pos hf, HTn.out])
  have hLg : Hid (0 ≤ longestOf p l ∧ longestOf p l ≤ 145000) := Lib.hid (longUpto_bd (earliestOf_bd p l) g3 _)
  have hO := Lib.hid (orderOf_inv g1)
  obtain ⟨j0, hj0, jz0, jz1, jz2⟩ := info_parts int_info
  have hmk : ∀ w : World, (Instr.makeSlice 27 (.int .i64 p.tasks) (.int .i64 p.tasks)).run Try.prog w = .ok (.slice (some ⟨w.heap.size, 0, none⟩) T T) (w.alloc (.cells (madeCells #[.int .i64 0] (T * 1)) 3)) := by
    intro w
    have := run_make (P := Try.prog) w 27 3 j0 _ Try.underlying27 hj0 jz0 .i64 .i64 T T (by omega) (by omega) (by rw [jz2]; omega) (by omega)
    rw [jz1] at this
    rw [hT]
    simpa [Value.cells] using this
  clear hf g1 g2 g3 hT
  unfold planV
  go_enter Try.func40, Try.ntmps40
  go_wp2_with fail
  refine (specWeightsOk_any p ve (.slice A l.length c) l _ hl hl2 ((h.below hb0).more hb0.size) ((h2.below hb0).more hb0.size)).mono ?_
  rintro e w1 ⟨rfl, hb1⟩
  rw [HF.out]
  have D := D0.below hb1
  have hb := bnext hb0 hb1
  obtain ⟨x0, x1, x2, x3, x4, xs⟩ := D.cells
  go_wp2_with fail
  clear x0 x1 x2 x3 x4 hmk D0 hb0 hb1
  have O1 := Ow.made intE 3 w1 0 T (by decide) (by simp [maxLen]; omega) (z := #[.int .i64 0]) rfl (m := T) (by simp [intE])
  have ha := (Below.refl w1.heap.size w1).alloc (Nat.le_refl _) (.cells (madeCells #[.int .i64 0] T) 3)
  have hsz1 : (w1.alloc (.cells (madeCells #[.int .i64 0] T) 3)).heap.size = w1.heap.size + 1 := by simp
  have Hsz1 := Lib.hid hsz1
  have D := D.below ha
  have hb := bnext hb ha
  clear ha hsz1
  refine (specOrder_any p ve _ hl ((h.below hb).more hb.size)).mono ?_
  rintro e w2 ⟨v2, rfl, o2, hb2⟩
  have o2 := o2.more (base' := w1.heap.size + 1) (by rw [Hsz1.out]; omega)
  have O := O1.below hb2
  have D := D.below hb2
  have hb := bnext hb hb2
  have hX := xs
  clear O1 xs hb2
  have hlen : (orderOf p).length = T := by rw [hO.out.len, HTn.out]
  have hlt0 : Hid (∀ x ∈ orderOf p, x < T) := fun x hx => by have := hO.out.lt x hx; rw [HTn.out] at this; exact this
  generalize orderOf p = ord at *
  generalize hLL : longestOf p l = L at *
  have HLL := Lib.hid hLL
  clear hLL
  obtain ⟨A2, c2, rfl, -⟩ := id (Rd.of_own o2)
  rw [hlen] at o2 ⊢
  have HO2 := Lib.hid hlen
  clear hlen
  have hsT : IntKind.i64.wrap ((T : Int) - 1) = (T : Int) - 1 := IntWalk.i64_in _ (by omega)
  go_wp2
  go_loopw [7] (fun i wr => ∃ n : Nat, n ≤ T ∧ i = .int .i64 ((n : Int) - 1) ∧ Hid (Ld (latL (esOf p) T L l (ord.drop n)) (T - n)) ∧ Ow intE 3 wr w1.heap.size (.slice (some ⟨w1.heap.size, 0, none⟩) T T) (latL (esOf p) T L l (ord.drop n)) ∧ Ow natE 3 wr (w1.heap.size + 1) (.slice A2 T c2) ord ∧ BoxAt w.heap.size p ve wr ∧ Below w.heap.size w wr) (fun i _ => (intOf i + 1).toNat)
  case atStart => exact ⟨T, Nat.le_refl _, rfl, by rw [List.drop_of_length_le (by rw [HO2.out]; exact Nat.le_refl _)]; exact fun x hx => by have := List.eq_of_mem_replicate hx; subst this; omega, by rw [List.drop_of_length_le (by rw [HO2.out]; exact Nat.le_refl _)]; exact O, o2, D, hb⟩
  case round =>
    clear O o2 D hb hsT
    obtain ⟨n, hn, rfl, hbd, ho, o2, D, hb⟩ := hrel
    cases n with
    | zero =>
      have hltI : ¬ ((0 : Nat) : Int) - 1 ≥ 0 := by omega
      have hbF := hb
      rw [List.drop_zero] at ho
      go_wp2
      go_ret
      exact ⟨_, rfl, by rw [H.out]; exact ho.more (by omega), hbF⟩
    | succ n =>
      have he1 : ((n + 1 : Nat) : Int) - 1 = (n : Int) := by omega
      rw [he1]
      clear he1
      have hnT : n < T := by omega
      have hge : (n : Int) ≥ 0 := by omega
      have hnI : (n : Int) < (T : Int) := by omega
      have hko : n < ord.length := by rw [HO2.out]; exact hnT
      have S0 := Lib.hid (latL_cons (esOf p) T L l ord hko)
      have hEl := latL_len (esOf p) T L l (ord.drop (n + 1))
      have htT : ord[n] < T := hlt0.out _ (List.getElem_mem hko)
      obtain ⟨g2, rfl, hg2, hg2'⟩ := o2.some_ (by omega)
      have ct := o2.nat hko
      generalize hE : latL (esOf p) T L l (ord.drop (n + 1)) = E at *
      have HE := Lib.hid hE
      clear hE
      generalize hkt : ord[n] = t at *
      have Hkt := Lib.hid hkt
      clear hkt
      obtain ⟨x0, x1, x2, x3, x4, xs⟩ := D.cells
      have hblk := ho.blk.2
      go_wp2_with fail
      clear x0 x1 x2 x3 x4 xs ct hblk
      refine (specLongest_any p ve (.slice A l.length c) l _ hl hl2 ((h.below hb).more hb.size) ((h2.below hb).more hb.size)).mono ?_
      rintro e w3 ⟨rfl, b3⟩
      rw [HLL.out]
      have ho := ho.below b3
      have o2 := o2.below b3
      have D := D.below b3
      have hb := bnext hb b3
      clear b3
      have hblk := ho.blk.2
      obtain ⟨x0, x1, x2, x3, x4, xs⟩ := D.cells
      go_wp2_with fail
      clear x0 x1 x2 x3 x4 xs
      refine (specBehind_any p ve t _ G.out.1 G.out.2.1 G.out.2.2.1 ((h.below hb).more hb.size)).mono ?_
      rintro e w4 ⟨v3, rfl, o3, b3⟩
      rw [HTn.out] at o3
      have o3 := o3.more (base' := w1.heap.size + 1) (by omega)
      have ho := ho.below b3
      have o2 := o2.below b3
      have D := D.below b3
      have hb := bnext hb b3
      have hbl := behindL_len (esOf p) T t
      have hbm : Hid (∀ x ∈ behindL (esOf p) T t, x < T) := fun x hx => by simp [behindL] at hx; exact hx.1
      have hst := Lib.hid (hbd.out.step hLg.out HW.out (behindL (esOf p) T t) t)
      generalize behindL (esOf p) T t = B at *
      obtain ⟨A3, c3, rfl, -⟩ := id (Rd.of_own o3)
      clear b3 hblk
      go_wp2
      go_loopw [9, 11] (fun e i wr => ∃ j : Nat, j ≤ B.length ∧ i = .int .i64 j ∧ e = .int .i64 (latEnd L E (B.take j)) ∧ Ow intE 3 wr w1.heap.size (.slice (some ⟨w1.heap.size, 0, none⟩) T T) E ∧ Ow natE 3 wr (w1.heap.size + 1) (.slice (some ⟨g2, 0, none⟩) T c2) ord ∧ Ow natE 3 wr (w1.heap.size + 1) (.slice A3 B.length c3) B ∧ BoxAt w.heap.size p ve wr ∧ Below w.heap.size w wr) (fun _ i _ => B.length - (intOf i).toNat)
      case atStart => exact ⟨0, Nat.zero_le _, rfl, rfl, ho, o2, o3, D, hb⟩
      case round =>
        clear ho o2 o3 D hb
        obtain ⟨j, hj, rfl, rfl, ho, o2, o3, D, hb⟩ := hrel
        by_cases hjt : j < B.length
        · have hjI : (j : Int) < (B.length : Int) := by omega
          have hbT : B[j] < T := hbm.out _ (List.getElem_mem hjt)
          have hbE : B[j] < E.length := by omega
          have Sj := Lib.hid (latEnd_step (L := L) (o := E) hjt hbE)
          generalize latEnd L E (B.take j) = m at *
          obtain ⟨g3, rfl, hg3, hg3'⟩ := o3.some_ (by omega)
          have cb := o3.nat hjt
          have cO := ho.int hbE
          generalize hbj : B[j] = b at *
          have Hbj := Lib.hid hbj
          clear hbj
          have hbI : (b : Int) < (T : Int) := by omega
          by_cases hgt : E[b] < m
          · have hmin := Lib.hid (show min m E[b] = E[b] by omega)
            go_wp2
            exact ⟨⟨j + 1, by omega, by go_num, by rw [Sj.out, hmin.out], ho, o2, o3, D, hb⟩, by simp [intOf]; omega⟩
          · have hmin := Lib.hid (show min m E[b] = m by omega)
            have hdec : decide (E[b] < m) = false := by simpa using hgt
            go_wp2
            exact ⟨⟨j + 1, by omega, by go_num, by rw [Sj.out, hmin.out], ho, o2, o3, D, hb⟩, by simp [intOf]; omega⟩
        · have hjI : ¬ (j : Int) < (B.length : Int) := by omega
          have hj' : j = B.length := by omega
          subst hj'
          rw [List.take_length]
          have hen := latEnd_bd hLg.out hbd.out B L (by have := hLg.out; omega)
          have htl : t < l.length := by rw [HLl.out]; exact htT
          have htlI : (t : Int) < (l.length : Int) := by omega
          have htI : (t : Int) < (T : Int) := by omega
          have htO : t < E.length := by omega
          obtain ⟨bw, ow, rfl, hbw, cw⟩ := (h2.below hb).int htl
          have hwt := HW.out _ (List.getElem_mem htl)
          have hS2 := Lib.hid (show l.getD t 0 = l[t] by simp [List.getD_eq_getElem?_getD, htl])
          have hput := Lib.hid (Ow.put ho hEl t htT (latEnd L E B - l[t]))
          generalize latEnd L E B = m at *
          have hs : IntKind.i64.wrap (m - l[t]) = m - l[t] := IntWalk.i64_in _ (by omega)
          have cO := ho.int htO
          have hf := ho.free
          clear hwt hen
          go_wp2
          refine ⟨⟨n, by omega, rfl, by rw [S0.out, hS2.out] at *; exact fun x hx => by have := hst.out x hx; omega, ?_, o2.setOther (by simp [Value.ownBlock]; omega) _, D.other (by simp; omega) _, hb.setCell (by simp; omega) _⟩, by simp [intOf]⟩
          rw [S0.out, hS2.out]
          have := hput.out.1
          simp only [intE, Nat.mul_one] at this
          exact this
end Go.Proofs.Ytnaicippgocdfaa
end
section
namespace Go.Proofs.Ytnaicippgocdfaa
open Go.RowKit
set_option maxRecDepth 100000
set_option maxHeartbeats 2000000

def slackL (E L : List Int) (k : Nat) : List Int := (List.range k).map fun j => L.getD j 0 - E.getD j 0
noncomputable def slackOf (p : Plan) (l : List Int) : List Int := slackL (earliestOf p l) (latestOf p l) (latestOf p l).length
theorem slackL_len (E L : List Int) (k : Nat) : (slackL E L k).length = k := by simp [slackL]
theorem slackL_succ {E L : List Int} {k : Nat} (hE : k < E.length) (hL : k < L.length) : slackL E L (k + 1) = slackL E L k ++ [L[k] - E[k]] := by
  unfold slackL
  rw [List.range_succ, List.map_append]
  simp [List.getD_eq_getElem?_getD, hE, hL]
theorem slackOf_len (p : Plan) (l : List Int) : (slackOf p l).length ≤ 12 := by
  unfold slackOf
  rw [slackL_len]
  exact latestOf_len p l
theorem both_len (p : Plan) (l : List Int) : (earliestOf p l).length = (latestOf p l).length := by
  unfold earliestOf latestOf
  split
  · rw [earL_len, latL_len]
  · rfl
/-- the slacks so far, the latest starts from there on -/
def slackMix (E L : List Int) (k : Nat) : List Int := slackL E L k ++ L.drop k
theorem slackMix_len (E L : List Int) {k : Nat} (h : k ≤ L.length) : (slackMix E L k).length = L.length := by
  unfold slackMix
  rw [List.length_append, slackL_len, List.length_drop]
  omega
theorem slackMix_get {E L : List Int} {k : Nat} (h : k < L.length) : (slackMix E L k)[k]? = some L[k] := by
  unfold slackMix
  rw [List.getElem?_append_right (by rw [slackL_len]; exact Nat.le_refl _), slackL_len, Nat.sub_self, List.getElem?_drop]
  simp
theorem slackMix_succ {E L : List Int} {k : Nat} (hE : k < E.length) (hL : k < L.length) : slackMix E L (k + 1) = (slackMix E L k).set k (L[k] - E[k]) := by
  unfold slackMix
  rw [slackL_succ hE hL, List.set_append_right _ _ (by rw [slackL_len]; exact Nat.le_refl _), slackL_len, Nat.sub_self, List.drop_eq_getElem_cons hL, List.set_cons_zero, List.append_assoc]
  rfl

theorem implSlack_any (p : Plan) (ve v : Value) (l : List Int) (w : World) (hl : p.edges.length ≤ 2000000) (hl2 : l.length ≤ 2000000) (h : Rd edgeE w w.heap.size ve p.edges) (h2 : Rd intE w w.heap.size v l) :
    Calls Try.prog 37 #[planV p ve, v] w fun e w' => ∃ u, e = .returned u ∧ Ow intE 3 w' w.heap.size u (slackOf p l) ∧ Below w.heap.size w w' := by
  have hb0 := planBox_below 26 p ve w
  have D0 := BoxAt.new 26 p ve w
  have H := Lib.hid (show slackOf p l = slackL (earliestOf p l) (latestOf p l) (latestOf p l).length from rfl)
  have hEb := Lib.hid (earliestOf_bd p l)
  have hLb := Lib.hid (latestOf_bd p l)
  have hLen := both_len p l
  have hL12 := latestOf_len p l
  obtain ⟨j0, hj0, jz0, jz1, jz2⟩ := info_parts int_info
  unfold planV
  go_enter Try.func37, Try.ntmps37
  go_wp2_with fail
  refine (implEarliest_any p ve v l _ hl hl2 ((h.below hb0).more hb0.size) ((h2.below hb0).more hb0.size)).mono ?_
  rintro e w1 ⟨u1, rfl, o1, hb1⟩
  have D := D0.below hb1
  have hb := bnext hb0 hb1
  clear hb0 hb1 D0
  obtain ⟨x0, x1, x2, x3, x4, xs⟩ := D.cells
  go_wp2_with fail
  clear x0 x1 x2 x3 x4 xs
  refine (implLatest_any p ve v l _ hl hl2 ((h.below hb).more hb.size) ((h2.below hb).more hb.size)).mono ?_
  rintro e w2 ⟨u2, rfl, o2, hb2⟩
  have o1 := o1.below hb2
  have hb := bnext hb hb2
  have hsz := hb.size
  clear hb2 D
  generalize earliestOf p l = E at *
  generalize latestOf p l = L at *
  obtain ⟨A1, c1, rfl, -⟩ := id (Rd.of_own o1)
  obtain ⟨A2, c2, rfl, -⟩ := id (Rd.of_own o2)
  have O0 := Ow.nil intE 3 w2 w2.heap.size
  go_wp2
  go_loopw [6, 16] (fun vl i wr => ∃ k : Nat, k ≤ L.length ∧ i = .int .i64 k ∧ Ow intE 3 wr w2.heap.size vl (slackL E L k) ∧ Below w2.heap.size w2 wr) (fun _ i _ => L.length - (intOf i).toNat)
  case atStart => exact ⟨0, Nat.zero_le _, rfl, O0, Below.refl _ _⟩
  case round =>
    clear O0
    obtain ⟨k, hk, rfl, ho, hb2⟩ := hrel
    have o1 := o1.below hb2
    have o2 := o2.below hb2
    have hsz2 := hb2.size
    by_cases hlt : k < L.length
    · have hltI : (k : Int) < (L.length : Int) := by omega
      have hkE : k < E.length := by omega
      have hkEI : (k : Int) < (E.length : Int) := by omega
      have hs := Lib.hid (slackL_succ hkE hlt)
      have hsl := slackL_len E L k
      have he := hEb.out _ (List.getElem_mem hkE)
      have hla := hLb.out _ (List.getElem_mem hlt)
      have hwr : IntKind.i64.wrap (L[k] - E[k]) = L[k] - E[k] := IntWalk.i64_in _ (by omega)
      obtain ⟨g1, rfl, _, _⟩ := o1.some_ (by omega)
      obtain ⟨g2, rfl, _, _⟩ := o2.some_ (by omega)
      have ce := o1.int hkE
      have cl := o2.int hlt
      clear he hla
      have ha : Hid (∀ w : World, Below w.heap.size w (w.alloc (.cells #[.int .i64 (L[k] - E[k])] 3))) := fun w => (Below.refl _ _).alloc (Nat.le_refl _) _
      go_wp2_with (at_builtin; refine wpList_push_all _ intE (by decide) rfl (.tmp 21) (.tmp 28) rfl Try.underlying27 hj0 jz0 jz1 jz2 rfl (l := slackL E L k) rfl (ho.below (ha.out _)) rfl (Rd.one intE _ _ (L[k] - E[k]) rfl rfl 1 (Nat.le_refl _) (Nat.lt_succ_self _)) (by rw [hsl]; omega) (by simp) (by decide) (by simp; omega) ?_; intro v5 w5 o5 g5 _)
      have hb' := bnext hb2 (ha.out _)
      have W5 := hb'.grown g5 hb'.size (fun g hg => by have := ho.within _ hg; omega)
      exact ⟨⟨k + 1, by omega, by go_num, by rw [hs.out]; exact o5, W5⟩, by simp [intOf]; omega⟩
    · have hltI : ¬ (k : Int) < (L.length : Int) := by omega
      have hk' : k = L.length := by omega
      have hbF := hb
      have hb2F := hb2
      subst hk'
      go_wp2
      go_ret
      exact ⟨_, rfl, by rw [H.out]; exact ho.more hsz, bnext hbF hb2F⟩

theorem specSlack_any (p : Plan) (ve v : Value) (l : List Int) (w : World) (hl : p.edges.length ≤ 2000000) (hl2 : l.length ≤ 2000000) (h : Rd edgeE w w.heap.size ve p.edges) (h2 : Rd intE w w.heap.size v l) :
    Calls Try.prog 41 #[planV p ve, v] w fun e w' => ∃ u, e = .returned u ∧ Ow intE 3 w' w.heap.size u (slackOf p l) ∧ Below w.heap.size w w' := by
  have hb0 := planBox_below 26 p ve w
  have D0 := BoxAt.new 26 p ve w
  have H := Lib.hid (show slackOf p l = slackL (earliestOf p l) (latestOf p l) (latestOf p l).length from rfl)
  have hEb := Lib.hid (earliestOf_bd p l)
  have hLb := Lib.hid (latestOf_bd p l)
  have hLen := both_len p l
  have hL12 := latestOf_len p l
  unfold planV
  go_enter Try.func41, Try.ntmps41
  go_wp2_with fail
  refine (specEarliest_any p ve v l _ hl hl2 ((h.below hb0).more hb0.size) ((h2.below hb0).more hb0.size)).mono ?_
  rintro e w1 ⟨u1, rfl, o1, hb1⟩
  have D := D0.below hb1
  have hb := bnext hb0 hb1
  clear hb0 hb1 D0
  obtain ⟨x0, x1, x2, x3, x4, xs⟩ := D.cells
  go_wp2_with fail
  clear x0 x1 x2 x3 x4 xs
  refine (specLatest_any p ve v l _ hl hl2 ((h.below hb).more hb.size) ((h2.below hb).more hb.size)).mono ?_
  rintro e w2 ⟨u2, rfl, o2, hb2⟩
  have q1 := o1.within
  have o1 := o1.below hb2
  have hsz := hb.size
  have hb := bnext hb hb2
  clear hb2 D
  generalize earliestOf p l = E at *
  generalize latestOf p l = L at *
  obtain ⟨A1, c1, rfl, -⟩ := id (Rd.of_own o1)
  obtain ⟨A2, c2, rfl, -⟩ := id (Rd.of_own o2)
  go_wp2
  go_loopw [7] (fun i wr => ∃ k : Nat, k ≤ L.length ∧ i = .int .i64 k ∧ Ow intE 3 wr w1.heap.size (.slice A2 L.length c2) (slackMix E L k) ∧ Ow intE 3 wr (w.heap.size + 1) (.slice A1 E.length c1) E ∧ Below w.heap.size w wr) (fun i _ => L.length - (intOf i).toNat)
  case atStart => exact ⟨0, Nat.zero_le _, rfl, o2, o1.more (by rw [planBox_size]; exact Nat.le_refl _), hb⟩
  case round =>
    clear o1 o2 hb
    obtain ⟨k, hk, rfl, o2, o1, hb⟩ := hrel
    by_cases hlt : k < L.length
    · have hltI : (k : Int) < (L.length : Int) := by omega
      have hkE : k < E.length := by omega
      have hkEI : (k : Int) < (E.length : Int) := by omega
      have hs := Lib.hid (slackMix_succ hkE hlt)
      have hsl := slackMix_len E L hk
      have hg := slackMix_get (E := E) hlt
      generalize slackMix E L k = M at *
      have he := hEb.out _ (List.getElem_mem hkE)
      have hla := hLb.out _ (List.getElem_mem hlt)
      have hkM : k < M.length := by omega
      have hMk : M[k] = L[k] := by rw [List.getElem?_eq_getElem hkM] at hg; exact Option.some.inj hg
      have hwr : IntKind.i64.wrap (L[k] - E[k]) = L[k] - E[k] := IntWalk.i64_in _ (by omega)
      obtain ⟨g1, rfl, _, _⟩ := o1.some_ (by omega)
      obtain ⟨g2, rfl, hg2, _⟩ := o2.some_ (by omega)
      have q2 := q1 g1 rfl
      have ce := o1.int hkE
      have cl := o2.int hkM
      rw [hMk] at cl
      have hput := Lib.hid (Ow.put o2 hsl k hlt (L[k] - E[k]))
      have hf := o2.free
      clear he hla hg hMk
      go_wp2
      go_still_tail 12, (by kernel_rfl)
      change wpList _ _ _ _ _ wr.drew
      go_wp2
      have hdr : ∀ w : World, Below w.heap.size w w.drew := fun w => (Below.refl _ _).drew
      refine ⟨⟨k + 1, by omega, by go_num, ?_, (o1.setOther (by simp [Value.ownBlock]; omega) _).below (hdr _), (hb.setCell (by simp; omega) _).drew⟩, by simp [intOf]; omega⟩
      rw [hs.out]
      have := hput.out.1
      simp only [intE, Nat.mul_one] at this
      exact this.below (hdr _)
    · have hltI : ¬ (k : Int) < (L.length : Int) := by omega
      have hk' : k = L.length := by omega
      have hbF := hb
      have H2 := Lib.hid (show slackMix E L L.length = slackL E L L.length by unfold slackMix; rw [List.drop_length, List.append_nil])
      subst hk'
      go_wp2
      go_ret
      exact ⟨_, rfl, by rw [H.out, ← H2.out]; exact o2.more hsz, hbF⟩
end Go.Proofs.Ytnaicippgocdfaa
end
section
namespace Go.Proofs.Ytnaicippgocdfaa
open Go.RowKit
set_option maxRecDepth 100000
set_option maxHeartbeats 2000000

def tightL (S : List Int) : Nat → List Int
  | 0 => []
  | k + 1 => tightL S k ++ if S.getD k 0 = 0 then [(k : Int)] else []
noncomputable def tightOf (p : Plan) (l : List Int) : List Int := tightL (slackOf p l) (slackOf p l).length
theorem tightL_len (S : List Int) : ∀ k, (tightL S k).length ≤ k
  | 0 => Nat.le_refl _
  | k + 1 => by
    have := tightL_len S k
    rw [tightL, List.length_append]
    split <;> simp <;> omega
theorem tightL_yes {S : List Int} {k : Nat} (h : k < S.length) (h0 : S[k] = 0) : tightL S (k + 1) = tightL S k ++ [(k : Int)] := by
  rw [tightL, if_pos (by simp [List.getD_eq_getElem?_getD, h, h0])]
theorem tightL_no {S : List Int} {k : Nat} (h : k < S.length) (h0 : ¬ S[k] = 0) : tightL S (k + 1) = tightL S k := by
  rw [tightL, if_neg (by simpa [List.getD_eq_getElem?_getD, h] using h0), List.append_nil]
theorem tightOf_len (p : Plan) (l : List Int) : (tightOf p l).length ≤ 12 := Nat.le_trans (tightL_len _ _) (slackOf_len p l)

theorem implTight_any (p : Plan) (ve v : Value) (l : List Int) (w : World) (hl : p.edges.length ≤ 2000000) (hl2 : l.length ≤ 2000000) (h : Rd edgeE w w.heap.size ve p.edges) (h2 : Rd intE w w.heap.size v l) :
    Calls Try.prog 42 #[planV p ve, v] w fun e w' => ∃ u, e = .returned u ∧ Ow intE 3 w' w.heap.size u (tightOf p l) ∧ Below w.heap.size w w' := by
  have hb0 := planBox_below 26 p ve w
  have D0 := BoxAt.new 26 p ve w
  have H := Lib.hid (show tightOf p l = tightL (slackOf p l) (slackOf p l).length from rfl)
  have hL12 := slackOf_len p l
  obtain ⟨j0, hj0, jz0, jz1, jz2⟩ := info_parts int_info
  unfold planV
  go_enter Try.func42, Try.ntmps42
  go_wp2_with fail
  refine (implSlack_any p ve v l _ hl hl2 ((h.below hb0).more hb0.size) ((h2.below hb0).more hb0.size)).mono ?_
  rintro e w2 ⟨u2, rfl, o2, hb1⟩
  have hb := bnext hb0 hb1
  have hsz := hb.size
  clear hb0 hb1 D0
  generalize slackOf p l = L at *
  obtain ⟨A2, c2, rfl, -⟩ := id (Rd.of_own o2)
  have O0 := Ow.nil intE 3 w2 w2.heap.size
  go_wp2
  go_loopw [5, 12] (fun vl i wr => ∃ k : Nat, k ≤ L.length ∧ i = .int .i64 k ∧ Ow intE 3 wr w2.heap.size vl (tightL L k) ∧ Below w2.heap.size w2 wr) (fun _ i _ => L.length - (intOf i).toNat)
  case atStart => exact ⟨0, Nat.zero_le _, rfl, O0, Below.refl _ _⟩
  case round =>
    clear O0
    obtain ⟨k, hk, rfl, ho, hb2⟩ := hrel
    have o2 := o2.below hb2
    have hsz2 := hb2.size
    by_cases hlt : k < L.length
    · have hltI : (k : Int) < (L.length : Int) := by omega
      have hsl := tightL_len L k
      obtain ⟨g2, rfl, _, _⟩ := o2.some_ (by omega)
      have cl := o2.int hlt
      by_cases h0 : L[k] = 0
      · have hs := Lib.hid (tightL_yes hlt h0)
        have hbq : (L[k] == 0) = true := by simpa using h0
        have ha : Hid (∀ w : World, Below w.heap.size w (w.alloc (.cells #[.int .i64 (k : Int)] 3))) := fun w => (Below.refl _ _).alloc (Nat.le_refl _) _
        clear h0
        go_wp2_with (at_builtin; refine wpList_push_all _ intE (by decide) rfl (.tmp 19) (.tmp 21) rfl Try.underlying27 hj0 jz0 jz1 jz2 rfl (l := tightL L k) rfl (ho.below (ha.out _)) rfl (Rd.one intE _ _ (k : Int) rfl rfl 1 (Nat.le_refl _) (Nat.lt_succ_self _)) (by omega) (by simp) (by decide) (by simp; omega) ?_; intro v5 w5 o5 g5 _)
        have hb' := bnext hb2 (ha.out _)
        have W5 := hb'.grown g5 hb'.size (fun g hg => by have := ho.within _ hg; omega)
        exact ⟨⟨k + 1, by omega, by go_num, by rw [hs.out]; exact o5, W5⟩, by simp [intOf]; omega⟩
      · have hs := Lib.hid (tightL_no hlt h0)
        have hbq : (L[k] == 0) = false := by simpa using h0
        clear h0
        go_wp2
        exact ⟨⟨k + 1, by omega, by go_num, by rw [hs.out]; exact ho, hb2⟩, by simp [intOf]; omega⟩
    · have hltI : ¬ (k : Int) < (L.length : Int) := by omega
      have hk' : k = L.length := by omega
      have hbF := hb
      have hb2F := hb2
      subst hk'
      go_wp2
      go_ret
      exact ⟨_, rfl, by rw [H.out]; exact ho.more hsz, bnext hbF hb2F⟩

end Go.Proofs.Ytnaicippgocdfaa
end
section
namespace Go.Proofs.Ytnaicippgocdfaa
open Go.RowKit
set_option linter.unusedVariables false

theorem order_all {es : List (Nat × Nat)} {T : Nat} {o : List Nat} (ho : OrderInv es T T o) {t : Nat} (ht : t < T) : t ∈ o := by
  refine Classical.byContradiction fun hn => ?_
  have := Pg.nodup_le T (t :: o) (List.nodup_cons.2 ⟨hn, ho.nodup⟩) (by
    intro x hx
    rcases List.mem_cons.1 hx with rfl | hx
    · exact ht
    · exact ho.lt x hx)
  simp only [List.length_cons, ho.len] at this
  omega
theorem beforeL_iff {es : List (Nat × Nat)} {T t s : Nat} (h1 : ∀ e ∈ es, e.1 < T) : s ∈ beforeL es T t ↔ (s, t) ∈ es := by
  unfold beforeL
  simp only [List.mem_filter, List.mem_range, decide_eq_true_eq]
  exact ⟨fun h => h.2, fun h => ⟨h1 _ h, h⟩⟩
theorem behindL_iff {es : List (Nat × Nat)} {T t s : Nat} (h2 : ∀ e ∈ es, e.2 < T) : s ∈ behindL es T t ↔ (t, s) ∈ es := by
  unfold behindL
  simp only [List.mem_filter, List.mem_range, decide_eq_true_eq]
  exact ⟨fun h => h.2, fun h => ⟨h2 _ h, h⟩⟩

theorem earFold_get {l : List Int} {t : Nat} : ∀ (B : List Nat) (S : List Int), t < S.length → t ∉ B →
    (∀ x, x ≠ t → (B.foldl (earStep l t) S).getD x 0 = S.getD x 0) ∧ S.getD t 0 ≤ (B.foldl (earStep l t) S).getD t 0 ∧ (∀ b ∈ B, S.getD b 0 + l.getD b 0 ≤ (B.foldl (earStep l t) S).getD t 0) ∧
      ((B.foldl (earStep l t) S).getD t 0 = S.getD t 0 ∨ ∃ b ∈ B, (B.foldl (earStep l t) S).getD t 0 = S.getD b 0 + l.getD b 0)
  | [], S, _, _ => ⟨fun _ _ => rfl, Int.le_refl _, fun b hb => absurd hb (by simp), .inl rfl⟩
  | b :: B, S, ht, hn => by
    have hnb : t ≠ b := fun e => hn (by rw [e]; exact List.mem_cons_self)
    have hnB : t ∉ B := fun e => hn (List.mem_cons_of_mem _ e)
    have hS : ∀ x, (earStep l t S b).getD x 0 = if t = x then max (S.getD t 0) (S.getD b 0 + l.getD b 0) else S.getD x 0 := fun x => setD _ _ _ _ _ ht
    obtain ⟨a1, a2, a3, a4⟩ := earFold_get (l := l) (t := t) B (earStep l t S b) (by rw [earStep_len]; exact ht) hnB
    rw [List.foldl_cons]
    rw [hS, if_pos rfl] at a2
    have key : ∀ c ∈ B, (earStep l t S b).getD c 0 = S.getD c 0 := fun c hc => by rw [hS, if_neg (by rintro rfl; exact hnB hc)]
    refine ⟨fun x hx => by rw [a1 x hx, hS, if_neg (Ne.symm hx)], by omega, ?_, ?_⟩
    · intro c hc
      rcases List.mem_cons.1 hc with rfl | hc
      · omega
      · have := a3 c hc
        rw [key c hc] at this
        exact this
    · rcases a4 with a4 | ⟨c, hc, a4⟩
      · rw [hS, if_pos rfl] at a4
        rcases Int.le_total (S.getD t 0) (S.getD b 0 + l.getD b 0) with hle | hle
        · exact .inr ⟨b, List.mem_cons_self, by rw [a4, Int.max_eq_right hle]⟩
        · exact .inl (by rw [a4, Int.max_eq_left hle])
      · exact .inr ⟨c, List.mem_cons_of_mem _ hc, by rw [a4, key c hc]⟩

section
variable {es : List (Nat × Nat)} {T : Nat} {l o : List Int} {ord : List Nat}

def earPre (es : List (Nat × Nat)) (T : Nat) (l : List Int) (ord : List Nat) (i : Nat) : List Int := (ord.take i).foldl (earTask es T l) (List.replicate T 0)
theorem earPre_len (es : List (Nat × Nat)) (T : Nat) (l : List Int) (ord : List Nat) (i : Nat) : (earPre es T l ord i).length = T := earL_len es T l (ord.take i)
structure EarInv (es : List (Nat × Nat)) (T : Nat) (l : List Int) (ord : List Nat) (i : Nat) (S : List Int) : Prop where
  rest : ∀ t, t ∉ ord.take i → S.getD t 0 = 0
  nn : ∀ t, 0 ≤ S.getD t 0
  le : ∀ j (h : j < ord.length), j < i → ∀ a, (a, ord[j]) ∈ es → S.getD a 0 + l.getD a 0 ≤ S.getD ord[j] 0
  eq : ∀ j (h : j < ord.length), j < i → S.getD ord[j] 0 = 0 ∨ ∃ a, (a, ord[j]) ∈ es ∧ S.getD ord[j] 0 = S.getD a 0 + l.getD a 0
theorem earPre_inv (h1 : ∀ e ∈ es, e.1 < T) (hac : ∀ t, t < T → ¬ Pg.Reach es t t) (ho : OrderInv es T T ord) : ∀ i, i ≤ T → EarInv es T l ord i (earPre es T l ord i)
  | 0, _ => by
    have hz : ∀ t, (earPre es T l ord 0).getD t 0 = 0 := fun t => by
      show (List.replicate T (0 : Int)).getD t 0 = 0
      rw [List.getD_eq_getElem?_getD, List.getElem?_replicate]
      split <;> rfl
    exact ⟨fun t _ => hz t, fun t => by rw [hz]; exact Int.le_refl _, fun j _ h => absurd h (by omega), fun j _ h => absurd h (by omega)⟩
  | i + 1, hi => by
    have ih := earPre_inv h1 hac ho i (by omega)
    have hio : i < ord.length := by rw [ho.len]; omega
    have hlt := ho.lt _ (List.getElem_mem hio)
    have hpre : earPre es T l ord (i + 1) = earTask es T l (earPre es T l ord i) ord[i] := by
      unfold earPre
      rw [take_snoc ord i hio, List.foldl_append]
      rfl
    have hself : ord[i] ∉ beforeL es T ord[i] := fun h => hac _ hlt (Pg.Reach.one ((beforeL_iff h1).1 h))
    obtain ⟨a1, a2, a3, a4⟩ := earFold_get (l := l) (beforeL es T ord[i]) (earPre es T l ord i) (by rw [earPre_len]; exact hlt) hself
    have hnin : ord[i] ∉ ord.take i := fun h => by
      obtain ⟨j, hj, he⟩ := List.mem_take_iff_getElem.1 h
      have := List.pairwise_iff_getElem.1 ho.nodup j i (by omega) hio (by omega)
      exact this he
    have hz := ih.rest _ hnin
    rw [hpre]
    change EarInv es T l ord (i + 1) ((beforeL es T ord[i]).foldl (earStep l ord[i]) (earPre es T l ord i))
    generalize (beforeL es T ord[i]).foldl (earStep l ord[i]) (earPre es T l ord i) = R at *
    have hold : ∀ j (h : j < ord.length), j < i → R.getD ord[j] 0 = (earPre es T l ord i).getD ord[j] 0 := fun j h hji => a1 _ (fun e => hnin (by rw [← e]; exact List.mem_take_iff_getElem.2 ⟨j, by omega, rfl⟩))
    have hpred : ∀ j (h : j < ord.length), j ≤ i → ∀ a, (a, ord[j]) ∈ es → R.getD a 0 = (earPre es T l ord i).getD a 0 := by
      intro j h hji a ha
      have hm := ho.closed j h a ha
      refine a1 _ (fun e => ?_)
      rw [e] at hm
      obtain ⟨k, hk, he⟩ := List.mem_take_iff_getElem.1 hm
      exact hnin (List.mem_take_iff_getElem.2 ⟨k, by omega, he⟩)
    refine ⟨?_, ?_, ?_, ?_⟩
    · intro t ht
      rw [take_snoc ord i hio] at ht
      simp only [List.mem_append, List.mem_singleton, not_or] at ht
      rw [a1 t ht.2]
      exact ih.rest t ht.1
    · intro t
      by_cases e : t = ord[i]
      · rw [e]; omega
      · rw [a1 t e]; exact ih.nn t
    · intro j h hji a ha
      rw [hpred j h (by omega) a ha]
      by_cases e : j = i
      · subst e
        exact a3 a ((beforeL_iff h1).2 ha)
      · rw [hold j h (by omega)]
        exact ih.le j h (by omega) a ha
    · intro j h hji
      by_cases e : j = i
      · subst e
        rcases a4 with a4 | ⟨b, hb, a4⟩
        · exact .inl (by rw [a4, hz])
        · exact .inr ⟨b, (beforeL_iff h1).1 hb, by rw [a4, hpred j h (by omega) b ((beforeL_iff h1).1 hb)]⟩
      · rw [hold j h (by omega)]
        rcases ih.eq j h (by omega) with h0 | ⟨a, ha, h0⟩
        · exact .inl h0
        · exact .inr ⟨a, ha, by rw [h0, hpred j h (by omega) a ha]⟩
end

/-- the facts on the earliest and the latest times of a plan that is right -/
structure Times (es : List (Nat × Nat)) (T : Nat) (l E D : List Int) (L : Int) : Prop where
  elen : E.length = T
  enn : ∀ t, 0 ≤ E.getD t 0
  ele : ∀ e ∈ es, E.getD e.1 0 + l.getD e.1 0 ≤ E.getD e.2 0
  eeq : ∀ t, t < T → E.getD t 0 = 0 ∨ ∃ a, (a, t) ∈ es ∧ E.getD t 0 = E.getD a 0 + l.getD a 0
  elong : ∀ t, t < T → E.getD t 0 + l.getD t 0 ≤ L
  emax : ∃ t, t < T ∧ E.getD t 0 + l.getD t 0 = L
  dlen : D.length = T
  dle : ∀ e ∈ es, D.getD e.1 0 + l.getD e.1 0 ≤ D.getD e.2 0
  dlong : ∀ t, t < T → D.getD t 0 + l.getD t 0 ≤ L
  ed : ∀ t, t < T → E.getD t 0 ≤ D.getD t 0
  lwork : L ≤ l.sum

theorem longUpto_is {E l : List Int} (hE : ∀ t, 0 ≤ E.getD t 0) : ∀ k, (∀ t, t < k → E.getD t 0 + l.getD t 0 ≤ longUpto E l k) ∧ (longUpto E l k = 0 ∨ ∃ t, t < k ∧ E.getD t 0 + l.getD t 0 = longUpto E l k) ∧ 0 ≤ longUpto E l k
  | 0 => ⟨fun t h => absurd h (by omega), .inl rfl, Int.le_refl _⟩
  | k + 1 => by
    obtain ⟨a1, a2, a3⟩ := longUpto_is (l := l) hE k
    have hd : longUpto E l (k + 1) = max (longUpto E l k) (E.getD k 0 + l.getD k 0) := rfl
    rw [hd]
    refine ⟨?_, ?_, by omega⟩
    · intro t ht
      by_cases e : t = k
      · subst e; omega
      · have := a1 t (by omega); omega
    · rcases Int.le_total (longUpto E l k) (E.getD k 0 + l.getD k 0) with hle | hle
      · exact .inr ⟨k, by omega, by rw [Int.max_eq_right hle]⟩
      · rw [Int.max_eq_left hle]
        rcases a2 with a2 | ⟨t, ht, a2⟩
        · exact .inl a2
        · exact .inr ⟨t, by omega, a2⟩

theorem latEnd_is {o : List Int} : ∀ (B : List Nat) (L : Int), latEnd L o B ≤ L ∧ (∀ b ∈ B, latEnd L o B ≤ o.getD b 0) ∧ (latEnd L o B = L ∨ ∃ b ∈ B, latEnd L o B = o.getD b 0)
  | [], L => ⟨Int.le_refl _, fun b hb => absurd hb (by simp), .inl rfl⟩
  | b :: B, L => by
    obtain ⟨a1, a2, a3⟩ := latEnd_is (o := o) B (min L (o.getD b 0))
    have hd : latEnd L o (b :: B) = latEnd (min L (o.getD b 0)) o B := rfl
    rw [hd]
    refine ⟨by omega, ?_, ?_⟩
    · intro c hc
      rcases List.mem_cons.1 hc with rfl | hc
      · omega
      · exact a2 c hc
    · rcases a3 with a3 | ⟨c, hc, a3⟩
      · rcases Int.le_total L (o.getD b 0) with hle | hle
        · exact .inl (by rw [a3, Int.min_eq_left hle])
        · exact .inr ⟨b, List.mem_cons_self, by rw [a3, Int.min_eq_right hle]⟩
      · exact .inr ⟨c, List.mem_cons_of_mem _ hc, a3⟩
theorem latEnd_same {o o' : List Int} : ∀ (B : List Nat) (L : Int), (∀ b ∈ B, o'.getD b 0 = o.getD b 0) → latEnd L o' B = latEnd L o B
  | [], L, _ => rfl
  | b :: B, L, h => by
    show latEnd (min L (o'.getD b 0)) o' B = latEnd (min L (o.getD b 0)) o B
    rw [h b List.mem_cons_self]
    exact latEnd_same B _ fun c hc => h c (List.mem_cons_of_mem _ hc)

section
variable {es : List (Nat × Nat)} {T : Nat} {l : List Int} {ord : List Nat} {L : Int}
theorem order_next (ho : OrderInv es T T ord) {i : Nat} (hi : i < ord.length) {s : Nat} (hs : (ord[i], s) ∈ es) (hsT : s < T) : ∃ k, ∃ hk : k < ord.length, i < k ∧ ord[k] = s := by
  obtain ⟨k, hk, rfl⟩ := List.getElem_of_mem (order_all ho hsT)
  have hm := ho.closed k hk _ hs
  obtain ⟨j, hj, he⟩ := List.mem_take_iff_getElem.1 hm
  refine ⟨k, hk, ?_, rfl⟩
  rcases Nat.lt_trichotomy i j with h | h | h
  · omega
  · omega
  · exact absurd he (List.pairwise_iff_getElem.1 ho.nodup j i (by omega) hi h)
theorem lat_inv (h2 : ∀ e ∈ es, e.2 < T) (ho : OrderInv es T T ord) : ∀ n, n ≤ T → ∀ j (h : j < ord.length), T - n ≤ j → (latL es T L l (ord.drop (T - n))).getD ord[j] 0 = latEnd L (latL es T L l (ord.drop (T - n))) (behindL es T ord[j]) - l.getD ord[j] 0
  | 0, _ => fun j h hj => absurd h (by rw [ho.len]; omega)
  | n + 1, hn => by
    intro j h hj
    have hi : T - (n + 1) < ord.length := by rw [ho.len]; omega
    have hsucc : T - (n + 1) + 1 = T - n := by omega
    have hc := latL_cons es T L l ord hi
    rw [hsucc] at hc
    have ih := lat_inv h2 ho n (by omega)
    rw [hc]
    generalize hD : latL es T L l (ord.drop (T - n)) = D at *
    have hDl : D.length = T := by rw [← hD, latL_len]
    have hne : ∀ k (hk : k < ord.length), T - (n + 1) < k → ord[T - (n + 1)] ≠ ord[k] := fun k hk hlt => List.pairwise_iff_getElem.1 ho.nodup _ k hi hk hlt
    have hsame : ∀ i (hi' : i < ord.length), T - (n + 1) ≤ i → ∀ b ∈ behindL es T ord[i], (D.set ord[T - (n + 1)] (latEnd L D (behindL es T ord[T - (n + 1)]) - l.getD ord[T - (n + 1)] 0)).getD b 0 = D.getD b 0 := by
      intro i hi' hle b hb
      obtain ⟨k, hk, hik, rfl⟩ := order_next ho hi' ((behindL_iff h2).1 hb) (h2 _ ((behindL_iff h2).1 hb))
      rw [setD _ _ _ _ _ (by rw [hDl]; exact ho.lt _ (List.getElem_mem hi)), if_neg (hne k hk (by omega))]
    by_cases e : j = T - (n + 1)
    · subst e
      rw [latEnd_same _ _ (hsame _ hi (Nat.le_refl _)), setD _ _ _ _ _ (by rw [hDl]; exact ho.lt _ (List.getElem_mem hi)), if_pos rfl]
    · rw [latEnd_same _ _ (hsame j h hj), setD _ _ _ _ _ (by rw [hDl]; exact ho.lt _ (List.getElem_mem hi)), if_neg (hne j h (by omega))]
      exact ih j h (by omega)

/-- sums over the first tasks of the order -/
def ordSum (l : List Int) (ord : List Nat) (i : Nat) : Int := ((ord.take i).map fun t => l.getD t 0).sum
theorem ordSum_succ (l : List Int) {ord : List Nat} {i : Nat} (h : i < ord.length) : ordSum l ord (i + 1) = ordSum l ord i + l.getD ord[i] 0 := by
  unfold ordSum
  rw [take_snoc ord i h, List.map_append, List.sum_append, List.map_singleton, List.sum_singleton]
theorem ordSum_mono (hl : ∀ x ∈ l, 1 ≤ x ∧ x ≤ 1000) {i : Nat} : ∀ n, i + n ≤ ord.length → ordSum l ord i ≤ ordSum l ord (i + n)
  | 0, _ => Int.le_refl _
  | n + 1, h => by
    have := ordSum_mono hl (i := i) n (by omega)
    rw [← Nat.add_assoc, ordSum_succ l (show i + n < ord.length by omega)]
    have h2 : 0 ≤ l.getD ord[i + n] 0 := by
      rw [List.getD_eq_getElem?_getD]
      cases hk : l[ord[i + n]]? with
      | none => simp
      | some y => have := hl y (List.mem_of_getElem? hk); simp; omega
    omega
theorem sum_range (l : List Int) : ((List.range l.length).map fun t => l.getD t 0) = l := by
  apply List.ext_getElem (by simp)
  intro i h1 h2
  simp [List.getD_eq_getElem?_getD, h2]
theorem perm_sum {a b : List Int} (h : a.Perm b) : a.sum = b.sum := by
  induction h with
  | nil => rfl
  | cons x _ ih => simp [ih]
  | swap x y l => simp only [List.sum_cons]; omega
  | trans _ _ h1 h2 => rw [h1, h2]
theorem ordSum_all (ho : OrderInv es T T ord) (hl : l.length = T) : ordSum l ord T = l.sum := by
  have hp : ord.Perm (List.range T) := by
    refine (List.perm_ext_iff_of_nodup ho.nodup List.nodup_range).2 fun t => ?_
    exact ⟨fun h => List.mem_range.2 (ho.lt t h), fun h => order_all ho (List.mem_range.1 h)⟩
  unfold ordSum
  rw [List.take_of_length_le (by rw [ho.len]; omega)]
  have h1 := perm_sum (hp.map fun t => l.getD t 0)
  rw [h1, ← hl, sum_range]
end

theorem times_of {p : Plan} {l : List Int} (hf : weightsOk p l = true) : Times (esOf p) p.tasks.toNat l (earliestOf p l) (latestOf p l) (longestOf p l) := by
  obtain ⟨g1, g2, g3⟩ := weightsOk_all hf
  obtain ⟨q1, q2, q3, q4⟩ := planFault_zero.1 g1
  have hT := manyOk_tasks q1
  obtain ⟨h1, h2⟩ := esOf_lt q2
  have ho := orderOf_inv g1
  have hac := plan_ac g1
  have hlen : l.length = p.tasks.toNat := by omega
  have he : earliestOf p l = earPre (esOf p) p.tasks.toNat l (orderOf p) p.tasks.toNat := by
    unfold earliestOf earPre
    rw [if_pos hf, List.take_of_length_le (by rw [ho.len]; exact Nat.le_refl _)]
    rfl
  have hd : latestOf p l = latL (esOf p) p.tasks.toNat (longestOf p l) l (orderOf p) := by
    unfold latestOf
    rw [if_pos hf]
  have hEi := earPre_inv (l := l) h1 hac ho _ (Nat.le_refl _)
  rw [← he] at hEi
  have hel : (earliestOf p l).length = p.tasks.toNat := by rw [he, earPre_len]
  obtain ⟨u1, u2, u3⟩ := longUpto_is (l := l) hEi.nn (earliestOf p l).length
  have hL : longestOf p l = longUpto (earliestOf p l) l p.tasks.toNat := by unfold longestOf; rw [hel]
  rw [hel] at u1 u2
  rw [← hL] at u1 u2
  have hDi := lat_inv (l := l) (L := longestOf p l) h2 ho p.tasks.toNat (Nat.le_refl _)
  rw [Nat.sub_self, List.drop_zero, ← hd] at hDi
  have hw : ∀ t, t < p.tasks.toNat → 1 ≤ l.getD t 0 := fun t ht => (g3 _ (getD_mem (by omega) 0)).1
  have eeq : ∀ t, t < p.tasks.toNat → (earliestOf p l).getD t 0 = 0 ∨ ∃ a, (a, t) ∈ esOf p ∧ (earliestOf p l).getD t 0 = (earliestOf p l).getD a 0 + l.getD a 0 := by
    intro t ht
    obtain ⟨j, hj, rfl⟩ := List.getElem_of_mem (order_all ho ht)
    exact hEi.eq j hj (by rw [← ho.len]; exact hj)
  have ele : ∀ e ∈ esOf p, (earliestOf p l).getD e.1 0 + l.getD e.1 0 ≤ (earliestOf p l).getD e.2 0 := by
    rintro ⟨a, b⟩ hab
    obtain ⟨j, hj, hjb⟩ := List.getElem_of_mem (order_all ho (h2 _ hab))
    simp only at hjb ⊢
    subst hjb
    exact hEi.le j hj (by rw [← ho.len]; exact hj) a hab
  have hDat : ∀ t, t < p.tasks.toNat → (latestOf p l).getD t 0 = latEnd (longestOf p l) (latestOf p l) (behindL (esOf p) p.tasks.toNat t) - l.getD t 0 := by
    intro t ht
    obtain ⟨j, hj, rfl⟩ := List.getElem_of_mem (order_all ho ht)
    exact hDi j hj (Nat.zero_le _)
  refine ⟨hel, hEi.nn, ele, eeq, u1, ?_, by rw [hd, latL_len], ?_, ?_, ?_, ?_⟩
  · rcases u2 with u2 | u2
    · have h3 := u1 0 (by omega)
      have h4 := hEi.nn 0
      have h5 := hw 0 (by omega)
      omega
    · exact u2
  · rintro ⟨a, b⟩ hab
    have h3 := hDat a (h1 _ hab)
    have h4 := (latEnd_is (o := latestOf p l) (behindL (esOf p) p.tasks.toNat a) (longestOf p l)).2.1 b ((behindL_iff h2).2 hab)
    simp only
    omega
  · intro t ht
    have h3 := hDat t ht
    have h4 := (latEnd_is (o := latestOf p l) (behindL (esOf p) p.tasks.toNat t) (longestOf p l)).1
    omega
  · -- from the order's end on
    have key : ∀ n j (h : j < (orderOf p).length), p.tasks.toNat - n ≤ j → (earliestOf p l).getD (orderOf p)[j] 0 ≤ (latestOf p l).getD (orderOf p)[j] 0 := by
      intro n
      induction n with
      | zero => intro j h hj; exact absurd h (by rw [ho.len]; omega)
      | succ n ih =>
        intro j h hj
        have hjT := ho.lt _ (List.getElem_mem h)
        rw [hDat _ hjT]
        rcases (latEnd_is (o := latestOf p l) (behindL (esOf p) p.tasks.toNat (orderOf p)[j]) (longestOf p l)).2.2 with h3 | ⟨b, hb, h3⟩
        · have := u1 _ hjT
          omega
        · have hes := (behindL_iff h2).1 hb
          obtain ⟨k, hk, hjk, rfl⟩ := order_next ho h hes (h2 _ hes)
          have h4 := ih k hk (by omega)
          have h5 := ele _ hes
          simp only at h5
          omega
    intro t ht
    obtain ⟨j, hj, rfl⟩ := List.getElem_of_mem (order_all ho ht)
    exact key p.tasks.toNat j hj (by omega)
  · have key : ∀ j (h : j < (orderOf p).length), (earliestOf p l).getD (orderOf p)[j] 0 ≤ ordSum l (orderOf p) j := by
      intro j
      induction j using Nat.strongRecOn with
      | _ j ih =>
        intro h
        have hjT := ho.lt _ (List.getElem_mem h)
        have h0 : 0 ≤ ordSum l (orderOf p) j := by
          have := ordSum_mono (ord := orderOf p) (i := 0) g3 j (by omega)
          rw [Nat.zero_add] at this
          simpa [ordSum] using this
        rcases eeq _ hjT with h3 | ⟨a, ha, h3⟩
        · omega
        · have hm := ho.closed j h a ha
          obtain ⟨k, hk, hka⟩ := List.mem_take_iff_getElem.1 hm
          subst hka
          have h4 := ih k (by omega) (by omega)
          have h5 := ordSum_succ l (ord := orderOf p) (i := k) (by omega)
          have h6 := ordSum_mono (ord := orderOf p) (i := k + 1) g3 (j - (k + 1)) (by omega)
          rw [show k + 1 + (j - (k + 1)) = j from by omega] at h6
          omega
    have hall := ordSum_all ho hlen
    rcases u2 with u2 | ⟨t, ht, u2⟩
    · rw [u2]
      have := ordSum_mono (ord := orderOf p) (i := 0) g3 p.tasks.toNat (by rw [ho.len]; omega)
      rw [Nat.zero_add, hall] at this
      simpa [ordSum] using this
    · obtain ⟨j, hj, rfl⟩ := List.getElem_of_mem (order_all ho ht)
      have h4 := key j hj
      have hj' : j < p.tasks.toNat := by have := ho.len; omega
      have h5 := ordSum_succ l (ord := orderOf p) (i := j) hj
      have h6 := ordSum_mono (ord := orderOf p) (i := j + 1) g3 (p.tasks.toNat - (j + 1)) (by rw [ho.len]; omega)
      rw [show j + 1 + (p.tasks.toNat - (j + 1)) = p.tasks.toNat from by omega, hall] at h6
      omega
end Go.Proofs.Ytnaicippgocdfaa
end
section
namespace Go.Proofs.Ytnaicippgocdfaa
open Go.RowKit
set_option maxRecDepth 100000
set_option maxHeartbeats 2000000
set_option linter.unusedVariables false

/-! a drawn plan is right -/
structure Drawn (T : Int) (n : Nat) (es : List Edge) : Prop where
  len : es.length ≤ n
  nodup : es.Nodup
  up : ∀ e ∈ es, 0 ≤ e.fr ∧ e.fr < e.to ∧ e.to < T
theorem Drawn.add {T : Int} {n : Nat} {es : List Edge} (h : Drawn T n es) {e : Edge} (he : 0 ≤ e.fr ∧ e.fr < e.to ∧ e.to < T) : Drawn T (n + 1) (addE es e) := by
  unfold addE
  split
  · exact ⟨by have := h.len; omega, h.nodup, h.up⟩
  · rename_i hn
    refine ⟨by have := h.len; simp; omega, nodup_snoc.2 ⟨h.nodup, hn⟩, fun x hx => ?_⟩
    rcases List.mem_append.1 hx with hx | hx
    · exact h.up x hx
    · rw [List.mem_singleton.1 hx]; exact he
theorem planGo_drawn (code : List UInt8) (T : Int) : ∀ (f i : Nat) (es : List Edge) (c : Cur) (n : Nat), Drawn T n es → Drawn T (n + f) (planGo code T f i es c).1
  | 0, i, es, c, n, h => h
  | f + 1, i, es, c, n, h => by
    rw [planGo]
    split
    · rename_i hg
      have h1 := curBelow_bd code (n := T - 1) (curBelow code 9 c).2 (by omega)
      have h2 : 1 ≤ newTo code T c ∧ newTo code T c < T := by unfold newTo; omega
      have h3 := curBelow_bd code (n := newTo code T c) (curBelow code (T - 1) (curBelow code 9 c).2).2 (by omega)
      have := planGo_drawn code T f (i + 1) _ (newC code T c) (n + 1) (h.add (e := newE code T c) (by unfold newE; simp only; omega))
      rw [show n + (f + 1) = n + 1 + f by omega]
      exact this
    · exact ⟨by have := h.len; simp only; omega, h.nodup, h.up⟩
theorem reach_lt_of {es : List (Nat × Nat)} (h : ∀ e ∈ es, e.1 < e.2) {a b : Nat} (hr : Pg.Reach es a b) : a < b := by
  obtain ⟨l, hne, hw⟩ := hr
  induction hw with
  | nil a => exact absurd rfl hne
  | @cons a c b l h1 h2 ih =>
    have h3 := h _ h1
    by_cases hl : l = []
    · subst hl
      cases h2
      exact h3
    · have := ih hl
      simp only at h3
      omega
theorem curPlan_ok (code : List UInt8) (c : Cur) : planFault (curPlan code c).1 = 0 := by
  have b1 := curBelow_bd code (n := 4) c (by omega)
  have b2 := curBelow_bd code (n := 3) (curBelow code 4 c).2 (by omega)
  have b3 := curBelow_bd code (n := 4) (curBelow code 3 (curBelow code 4 c).2).2 (by omega)
  have b4 := curBelow_bd code (n := 6) (curBelow code 4 (curBelow code 3 (curBelow code 4 c).2).2).2 (by omega)
  unfold curPlan
  simp only
  generalize curBelow code 4 c = r1 at *
  generalize curBelow code 3 r1.2 = r2 at *
  generalize curBelow code 4 r2.2 = r3 at *
  generalize curBelow code 6 r3.2 = r4 at *
  generalize curOnce code 10 r4.2 = r5 at *
  have hT : 1 ≤ planT r5.1 r4.1 ∧ planT r5.1 r4.1 ≤ 12 := by unfold planT; split <;> omega
  generalize planT r5.1 r4.1 = T at *
  have h := planGo_drawn code T 10 0 [] r5.2 0 ⟨by simp, by simp, by simp⟩
  generalize (planGo code T 10 0 [] r5.2).1 = es at *
  refine planFault_zero.2 ⟨?_, fun e he => ?_, h.nodup, ?_⟩
  · have := h.len
    simp only [manyOk, Bool.and_eq_true, decide_eq_true_eq, inB_iff]
    omega
  · have := h.up e he
    simp only [edgeIn, Bool.and_eq_true, inB_iff]
    omega
  · rintro ⟨t, ht, hr⟩
    have : t < t := reach_lt_of (fun e he => by
      simp only [esOf, esL, List.mem_map] at he
      obtain ⟨x, hx, rfl⟩ := he
      have := h.up x hx
      simp only
      omega) hr
    omega

/-! drawn weights -/
def curWeights (code : List UInt8) : Nat → Cur → List Int × Cur
  | 0, c => ([], c)
  | k + 1, c => ((curWeights code k c).1 ++ [1 + (curBelow code 9 (curWeights code k c).2).1], (curBelow code 9 (curWeights code k c).2).2)
theorem curWeights_len (code : List UInt8) (c : Cur) : ∀ k, (curWeights code k c).1.length = k
  | 0 => rfl
  | k + 1 => by rw [curWeights]; simp [curWeights_len code c k]
theorem curWeights_bd (code : List UInt8) (c : Cur) : ∀ k, ∀ x ∈ (curWeights code k c).1, 1 ≤ x ∧ x ≤ 1000
  | 0 => by simp [curWeights]
  | k + 1 => by
    intro x hx
    rw [curWeights] at hx
    have hb := curBelow_bd code (n := 9) (curWeights code k c).2 (by omega)
    rcases List.mem_append.1 hx with hx | hx
    · exact curWeights_bd code c k x hx
    · rw [List.mem_singleton.1 hx]; omega
theorem weights_any (b : Nat) (v : Value) (code : List UInt8) (c : Cur) (p : Plan) (ve : Value) (w : World) (hT : 1 ≤ p.tasks ∧ p.tasks ≤ 12) (h : Drw b v code c w) :
    Calls Try.prog 47 #[.pointer (some ⟨b, 0, none⟩), planV p ve] w fun e w' => ∃ u, e = .returned u ∧ Ow intE 3 w' w.heap.size u (curWeights code p.tasks.toNat c).1 ∧ Drw b v code (curWeights code p.tasks.toNat c).2 w' ∧ Chg [b] w w' := by
  have hb := h.box.lt
  obtain ⟨i0, hi0, hz0, hz1, hz2⟩ := info_parts int_info
  have hb0 := planBox_below 26 p ve w
  have k0 := h.below hb0
  have P0 := BoxAt.new 26 p ve w
  have C0 := (Chg.refl [b] w).belowNew hb0
  have s0 := planBox_size 26 p ve w
  unfold planV
  go_enter Try.func47, Try.ntmps47
  go_wp2
  have ha : Below (planBox 26 p ve w).heap.size (planBox 26 p ve w) ((planBox 26 p ve w).alloc (.cells #[] 3)) := (Below.refl _ _).alloc (Nat.le_refl _) _
  have O0 := Ow.empty intE 3 (planBox 26 p ve w) (g := w.heap.size + 1) (by rw [planBox_size])
  have k1 := k0.below ha
  have P1 := P0.below ha
  have C1 := C0.belowNew ha
  have hz : ((planBox 26 p ve w).alloc (.cells #[] 3)).heap.size = w.heap.size + 2 := by simp [planBox]
  unfold planBox at O0 k1 P1 C1 hz
  clear ha k0 P0 C0 hb0 s0
  generalize ((w.alloc (.cells #[.int .i64 p.prio, .int .i64 p.most, .int .i64 p.wait, .int .i64 p.tasks, ve] 26)).alloc (.cells #[] 3)) = w1 at *
  go_loopw [5, 6] (fun u i wr => ∃ k : Nat, k ≤ p.tasks.toNat ∧ i = .int .i64 k ∧ Drw b v code (curWeights code k c).2 wr ∧ Ow intE 3 wr (w.heap.size + 1) u (curWeights code k c).1 ∧ BoxAt w.heap.size p ve wr ∧ Chg [b] w wr ∧ w.heap.size + 2 ≤ wr.heap.size) (fun _ i _ => p.tasks.toNat - (intOf i).toNat)
  case atStart => exact ⟨0, Nat.zero_le _, rfl, k1, O0, P1, C1, by omega⟩
  case round =>
    clear k1 O0 P1 C1 hz
    obtain ⟨k, hk, rfl, K, O, P, C, hsz⟩ := hrel
    have hlen := curWeights_len code c k
    have HL := Lib.hid hlen
    clear hlen
    obtain ⟨p0, p1, p2, p3, p4, ps⟩ := P.cells
    by_cases hlt : k < p.tasks.toNat
    · have i1 : (k : Int) < p.tasks := by omega
      have i2 : (k : Int) < 12 := by omega
      obtain ⟨A, cap, rfl, -⟩ := id (Rd.of_own O)
      rw [HL.out] at O ⊢
      go_wp2_with fail
      refine (below_any 9 b v code _ _ (by omega) K).mono ?_
      rintro e w2 ⟨rfl, k2, c2⟩
      have Bq := curBelow_bd code (n := 9) (curWeights code k c).2 (by omega)
      have e1 : curWeights code (k + 1) c = ((curWeights code k c).1 ++ [1 + (curBelow code 9 (curWeights code k c).2).1], (curBelow code 9 (curWeights code k c).2).2) := rfl
      have E1 := Lib.hid e1
      clear e1
      generalize curBelow code 9 (curWeights code k c).2 = q at *
      have O2 := O.chg c2 (by omega)
      have P2 := P.chg c2 (by simp; omega)
      have C2 := C.trans c2
      have z2 := c2.size
      have z3 : (curWeights code k c).1.length ≤ 3000000 := by rw [HL.out]; omega
      have z3 := Lib.hid z3
      clear K O P C c2 p0 p1 p2 p3 p4 ps
      have hax : Below w2.heap.size w2 (w2.alloc (.cells #[.int .i64 (1 + q.1)] 3)) := (Below.refl _ _).alloc (Nat.le_refl _) _
      go_wp2_with (at_builtin; refine wpList_push_all _ intE (by decide) rfl (.tmp 18) (.tmp 22) rfl Try.underlying27 hi0 hz0 hz1 hz2 rfl (v := .slice A k cap) (l := (curWeights code k c).1) rfl (O2.below hax) rfl (Rd.one intE _ _ (1 + q.1) rfl rfl 1 (Nat.le_refl _) (Nat.lt_succ_self _)) z3.out (by simp) (by decide) (by simp; omega) ?_; intro v5 w5 o5 g5 f5)
      have hb5 : ∀ g, (Value.slice A k cap).ownBlock = some g → w.heap.size + 1 ≤ g := fun g hg => (O2.within g hg).1
      refine ⟨⟨k + 1, by omega, by go_num, ?_, ?_, (P2.below hax).far g5 (fun e => by have := hb5 _ e.symm; omega), (C2.belowNew hax).grownNew g5 (fun g hg => by have := hb5 g hg; omega), by have := g5.size; simp at this; omega⟩, by simp [intOf]; omega⟩
      · rw [E1.out]; exact (k2.below hax).grownNew g5 (fun g hg => by have := hb5 g hg; omega)
      · rw [E1.out]; exact o5
    · have hke : k = p.tasks.toNat := by omega
      by_cases h12 : (k : Int) < p.tasks
      · omega
      · go_wp2
        go_ret
        subst hke
        exact ⟨_, rfl, O.more (by omega), K, C⟩

/-! DrawPlans, DrawWork -/
def TwoPlans (c : Plan × Cur) (d : Plan × Cur) (w : World) (e : Ending) (w' : World) : Prop :=
  ∃ u u', e = .returned (.tuple #[planV c.1 u, planV d.1 u']) ∧ Ow edgeE 52 w' w.heap.size u c.1.edges ∧ Ow edgeE 52 w' w.heap.size u' d.1.edges ∧ Below w.heap.size w w'
theorem drawPlans_any (v : Value) (code : List UInt8) (w : World) (hs : code.length ≤ 1048576) (h : Rd byteE w w.heap.size v code) :
    Calls Try.prog 17 #[v] w (TwoPlans (curPlan code (curNew code)) (curPlan code (curPlan code (curNew code)).2) w) := by
  go_enter Try.func17, Try.ntmps17
  go_wp2_with fail
  obtain ⟨W, hW, Z0, Z1, B0, hz⟩ : ∃ W, W = (w.alloc (.cells #[.int .i64 0, .int .i64 0, .int .i64 0, .int .i64 0, .slice none 0 0] 26)).alloc (.cells #[.int .i64 0, .int .i64 0, .int .i64 0, .int .i64 0, .slice none 0 0] 26) ∧
      BoxAt w.heap.size ⟨0, 0, 0, 0, []⟩ (.slice none 0 0) W ∧ BoxAt (w.heap.size + 1) ⟨0, 0, 0, 0, []⟩ (.slice none 0 0) W ∧ Below w.heap.size w W ∧ W.heap.size = w.heap.size + 2 := by
    refine ⟨_, rfl, ?_, ?_, ?_, by simp⟩
    · exact (BoxAt.new' 26 ⟨0, 0, 0, 0, []⟩ (.slice none 0 0) w rfl).below ((Below.refl _ _).alloc (Nat.le_refl _) _)
    · exact BoxAt.new' 26 ⟨0, 0, 0, 0, []⟩ (.slice none 0 0) _ (by simp)
    · exact bnext ((Below.refl _ _).alloc (Nat.le_refl _) _) ((Below.refl _ _).alloc (Nat.le_refl _) _)
  rw [← hW]
  have HW := Lib.hid hW
  clear hW
  refine (new_any v code W hs ((h.below B0).more B0.size)).mono ?_
  rintro e w1 ⟨g, rfl, hg, k1, b1⟩
  have HG := Lib.hid hg
  have hgz : g = w.heap.size + 2 := by omega
  have HZ := Lib.hid hgz
  clear hgz hg
  have Y0 := Z0.below b1
  have Y1 := Z1.below b1
  have C1 := Chg.of_below [g] (bnext B0 b1)
  have g1 : w.heap.size + 2 ≤ g := by rw [HZ.out]; omega
  clear Z0 Z1 B0 hz b1
  go_wp2_with fail
  refine (drawPlan_any g v code _ w1 k1).mono ?_
  rintro e w2 ⟨u1, rfl, o2, k2, c2⟩
  have X0 := Y0.chg c2 (by simp; omega)
  have X1 := Y1.chg c2 (by simp; omega)
  have C2 := C1.trans c2
  have l2 : g < w1.heap.size := k1.box.lt
  go_wp2_with fail
  refine (drawPlan_any g v code _ w2 k2).mono ?_
  rintro e w3 ⟨u2, rfl, o3, k3, c3⟩
  have l3 := c2.size
  have V0 := X0.chg c3 (by simp; omega)
  have V1 := X1.chg c3 (by simp; omega)
  have C3 := C2.trans c3
  have o2' := o2.chg c3 l2
  clear X0 X1 Y0 Y1 C1 C2 c2 c3 k1 k2 o2
  obtain ⟨A1, e1, rfl, -⟩ := id (Rd.of_own o2')
  obtain ⟨A2, e2, rfl, -⟩ := id (Rd.of_own o3)
  obtain ⟨x0, x1, x2, x3, x4, xs⟩ := V0.cells
  obtain ⟨y0, y1, y2, y3, y4, ys⟩ := V1.cells
  have xf := V0.free
  have yf := V1.free
  generalize curPlan code (curNew code) = P1 at *
  generalize curPlan code P1.2 = P2 at *
  go_wp2
  have hfin : TwoPlans P1 P2 w (.returned (.tuple #[planV P1.1 (.slice A1 P1.1.edges.length e1), planV P2.1 (.slice A2 P2.1.edges.length e2)])) ((((((((((w3.setCell ⟨w.heap.size, 0, none⟩ (.int .i64 P1.1.prio)).setCell ⟨w.heap.size, 1, none⟩ (.int .i64 P1.1.most)).setCell ⟨w.heap.size, 2, none⟩ (.int .i64 P1.1.wait)).setCell ⟨w.heap.size, 3, none⟩ (.int .i64 P1.1.tasks)).setCell ⟨w.heap.size, 4, none⟩ (.slice A1 P1.1.edges.length e1)).setCell ⟨w.heap.size + 1, 0, none⟩ (.int .i64 P2.1.prio)).setCell ⟨w.heap.size + 1, 1, none⟩ (.int .i64 P2.1.most)).setCell ⟨w.heap.size + 1, 2, none⟩ (.int .i64 P2.1.wait)).setCell ⟨w.heap.size + 1, 3, none⟩ (.int .i64 P2.1.tasks)).setCell ⟨w.heap.size + 1, 4, none⟩ (.slice A2 P2.1.edges.length e2)) := by
    refine ⟨_, _, rfl, Ow.more (base := w1.heap.size) ?_ (by omega), Ow.more (base := w2.heap.size) ?_ (by omega), ?_⟩
    · repeat (first | (with_reducible exact o2') | refine Ow.setLow ?_ (by first | (show w.heap.size < _; omega) | (show w.heap.size + 1 < _; omega)) _)
    · repeat (first | (with_reducible exact o3) | refine Ow.setLow ?_ (by first | (show w.heap.size < _; omega) | (show w.heap.size + 1 < _; omega)) _)
    · have hB : Below w.heap.size w w3 := C3.below (Nat.le_refl _) (fun x hx => by simp at hx; omega)
      repeat (first | (with_reducible exact hB) | refine Below.setCell ?_ (by simp <;> omega) _)
  refine bodyPost_ret (v := .tuple #[planV P1.1 (.slice A1 P1.1.edges.length e1), planV P2.1 (.slice A2 P2.1.edges.length e2)]) ?_ rfl hfin
  simp [planV, results, Try.results17, go_sem, *]

def drawnWork (code : List UInt8) : (Plan × Cur) × (List Int × Cur) := (curPlan code (curNew code), curWeights code (curPlan code (curNew code)).1.tasks.toNat (curPlan code (curNew code)).2)
def WorkP (code : List UInt8) (w : World) (e : Ending) (w' : World) : Prop :=
  ∃ u u', e = .returned (.tuple #[planV (drawnWork code).1.1 u, u', .int .i64 (1 + (curBelow code 4 (drawnWork code).2.2).1)]) ∧ Ow edgeE 52 w' w.heap.size u (drawnWork code).1.1.edges ∧ Ow intE 3 w' w.heap.size u' (drawnWork code).2.1 ∧ Below w.heap.size w w'
theorem drawWork_any (v : Value) (code : List UInt8) (w : World) (hs : code.length ≤ 1048576) (h : Rd byteE w w.heap.size v code) :
    Calls Try.prog 7 #[v] w (WorkP code w) := by
  go_enter Try.func7, Try.ntmps7
  go_wp2_with fail
  obtain ⟨W, hW, Z0, B0, hz⟩ : ∃ W, W = (w.alloc (.cells #[.int .i64 0, .int .i64 0, .int .i64 0, .int .i64 0, .slice none 0 0] 26)) ∧
      BoxAt w.heap.size ⟨0, 0, 0, 0, []⟩ (.slice none 0 0) W ∧ Below w.heap.size w W ∧ W.heap.size = w.heap.size + 1 := by
    refine ⟨_, rfl, ?_, ?_, by simp⟩
    · exact BoxAt.new' 26 ⟨0, 0, 0, 0, []⟩ (.slice none 0 0) w rfl
    · exact (Below.refl _ _).alloc (Nat.le_refl _) _
  rw [← hW]
  have HW := Lib.hid hW
  clear hW
  refine (new_any v code W hs ((h.below B0).more B0.size)).mono ?_
  rintro e w1 ⟨g, rfl, hg, k1, b1⟩
  have hgz : g = w.heap.size + 1 := by omega
  have HZ := Lib.hid hgz
  clear hgz hg
  have Y0 := Z0.below b1
  have C1 := Chg.of_below [g] (bnext B0 b1)
  have g1 : w.heap.size + 1 ≤ g := by rw [HZ.out]; omega
  clear Z0 B0 hz b1
  go_wp2_with fail
  refine (drawPlan_any g v code _ w1 k1).mono ?_
  rintro e w2 ⟨u1, rfl, o2, k2, c2⟩
  have X0 := Y0.chg c2 (by simp; omega)
  have C2 := C1.trans c2
  have l2 : g < w1.heap.size := k1.box.lt
  have l3 := c2.size
  have hok := curPlan_ok code (curNew code)
  have HT := manyOk_tasks (planFault_zero.1 hok).1
  have hD : ∀ W e, (∃ u u', e = Ending.returned (.tuple #[planV (curPlan code (curNew code)).1 u, u', .int .i64 (1 + (curBelow code 4 (curWeights code (curPlan code (curNew code)).1.tasks.toNat (curPlan code (curNew code)).2).2).1)]) ∧ Ow edgeE 52 W w.heap.size u (curPlan code (curNew code)).1.edges ∧ Ow intE 3 W w.heap.size u' (curWeights code (curPlan code (curNew code)).1.tasks.toNat (curPlan code (curNew code)).2).1 ∧ Below w.heap.size w W) → WorkP code w e W := fun _ _ h => h
  have HD := Lib.hid hD
  clear hD hok
  generalize curPlan code (curNew code) = P1 at *
  obtain ⟨A1, e1, rfl, -⟩ := id (Rd.of_own o2)
  have ha : Below w2.heap.size w2 (w2.alloc (.cells #[.int .i64 P1.1.prio, .int .i64 P1.1.most, .int .i64 P1.1.wait, .int .i64 P1.1.tasks, .slice A1 P1.1.edges.length e1] 26)) := (Below.refl _ _).alloc (Nat.le_refl _) _
  have P2 := BoxAt.new' 26 P1.1 (.slice A1 P1.1.edges.length e1) w2 rfl
  have V0 := X0.below ha
  have C3 := C2.belowNew ha
  have o3 := o2.below ha
  have k3 := k2.below ha
  have hpb : g < w2.heap.size := k2.box.lt
  obtain ⟨pb, hpb2⟩ : ∃ pb, pb = w2.heap.size := ⟨_, rfl⟩
  go_wp2_with fail
  rw [← hpb2] at P2 hpb ⊢
  have l4 : w1.heap.size ≤ pb := by omega
  clear X0 C2 o2 k2 Y0 C1 k1 c2 hpb2 l3
  generalize (w2.alloc (.cells #[.int .i64 P1.1.prio, .int .i64 P1.1.most, .int .i64 P1.1.wait, .int .i64 P1.1.tasks, .slice A1 P1.1.edges.length e1] 26)) = w3 at *
  obtain ⟨x0, x1, x2, x3, x4, xs⟩ := V0.cells
  obtain ⟨y0, y1, y2, y3, y4, ys⟩ := P2.cells
  have xf := V0.free
  have hne : ¬ pb = w.heap.size := by omega
  go_region_held3 (fun w' => w'.cell? ⟨pb, 0, none⟩ = some (.int .i64 P1.1.prio) ∧ w'.cell? ⟨pb, 1, none⟩ = some (.int .i64 P1.1.most) ∧ w'.cell? ⟨pb, 2, none⟩ = some (.int .i64 P1.1.wait) ∧ w'.cell? ⟨pb, 3, none⟩ = some (.int .i64 P1.1.tasks) ∧ w'.cell? ⟨pb, 4, none⟩ = some (.slice A1 P1.1.edges.length e1)) (first | (refine ⟨?_, ?_, ?_, ?_, ?_⟩ <;> (rw [setBox_cell _ _ _ _ _ hne]; assumption)) | go_keep)
    (first
      | (go_at_call 47; (with_reducible refine (weights_any g v code P1.2 P1.1 _ _ HT (k3.below (Below.refl _ _).drew)).mono ?_); rintro e w4 ⟨u4, rfl, o4, k4, c4⟩; have P4 := (P2.below (Below.refl _ _).drew).chg c4 (by simp; omega); obtain ⟨Y0, Y1, Y2, Y3, Y4, Ys⟩ := P4.cells)
      | (go_at_call 48; (with_reducible refine (below_any 4 g v code _ _ (by omega) k4).mono ?_); rintro e w5 ⟨rfl, k5, c5⟩; have P5 := P4.chg c5 (by simp; omega); obtain ⟨q0, q1, q2, q3, q4, qs⟩ := P5.cells; have V5 := ((V0.below (Below.refl _ _).drew).chg c4 (by simp; omega)).chg c5 (by simp; omega); obtain ⟨v0, v1, v2, v3, v4, vs⟩ := V5.cells; have vf := V5.free))
  go_wp2
  refine bodyPost_ret (v := .tuple #[planV P1.1 (.slice A1 P1.1.edges.length e1), u4, .int .i64 (1 + (curBelow code 4 (curWeights code P1.1.tasks.toNat P1.2).2).1)]) ?_ rfl (HD.out _ _ ⟨_, _, rfl, Ow.more (base := w1.heap.size) ?_ (by omega), Ow.more (base := w3.heap.size) ?_ (by omega), ?_⟩)
  · have hb4 := curBelow_bd code (n := 4) (curWeights code P1.1.tasks.toNat P1.2).2 (by omega)
    have hw4 : IntKind.i64.wrap (1 + (curBelow code 4 (curWeights code P1.1.tasks.toNat P1.2).2).1) = 1 + (curBelow code 4 (curWeights code P1.1.tasks.toNat P1.2).2).1 := IntWalk.i64_in _ (by omega)
    simp [planV, results, Try.results7, go_sem, *]
  · have o5 := ((o3.below (Below.refl _ _).drew).chg c4 l2).chg c5 l2
    repeat (first | (with_reducible exact o5) | refine Ow.setLow ?_ (by show w.heap.size < _; omega) _)
  · have l5 : g < w3.heap.size := k3.box.lt
    have o5 : Ow intE 3 w5 w3.heap.size u4 (curWeights code P1.1.tasks.toNat P1.2).1 := o4.chg c5 l5
    repeat (first | (with_reducible exact o5) | refine Ow.setLow ?_ (by show w.heap.size < _; have := xs; omega) _)
  · have hB : Below w.heap.size w w5 := (((C3.belowNew (Below.refl _ _).drew).trans c4).trans c5).below (Nat.le_refl _) (fun x hx => by simp at hx; omega)
    repeat (first | (with_reducible exact hB) | refine Below.setCell ?_ (by simp <;> omega) _)
end Go.Proofs.Ytnaicippgocdfaa
end
