/-
  Behind of the reference.
-/
import Derived.Test.YtoccmpijfggmkaaBh
import Derived.Test.YtoccmpijfggmkaaBs
namespace Go.Proofs.Ytoccmpijfggmkaa
open Go.RowKit
set_option maxRecDepth 100000
set_option maxHeartbeats 3000000
set_option linter.unusedSimpArgs false

theorem Way.more {es es' : List (Nat × Nat)} (hs : ∀ e ∈ es, e ∈ es') : ∀ {a : Nat} {l : List Nat} {b : Nat}, Pg.Way es a l b → Pg.Way es' a l b := by
  intro a l b h
  induction h with
  | nil a => exact .nil a
  | cons h _ ih => exact .cons (hs _ h) ih
theorem planFault_sub {p q : Plan} {m : List Edge} (h : planFault (joinP p q m) = 0) : planFault (joinP p q []) = 0 := by
  obtain ⟨h1, h2, h3, h4⟩ := planFault_zero.1 h
  have he : (joinP p q m).edges = (joinP p q []).edges ++ m := by simp [joinP]
  refine planFault_zero.2 ⟨?_, ?_, ?_, ?_⟩
  · have hlen : (joinP p q []).edges.length ≤ (joinP p q m).edges.length := by rw [he, List.length_append]; omega
    unfold manyOk at h1 ⊢
    simp only [Bool.and_eq_true, decide_eq_true_eq] at h1 ⊢
    obtain ⟨⟨⟨⟨a1, a2⟩, a3⟩, a4⟩, a5⟩ := h1
    exact ⟨⟨⟨⟨a1, by omega⟩, a3⟩, a4⟩, a5⟩
  · intro e hx
    exact h2 e (by rw [he]; exact List.mem_append_left _ hx)
  · rw [he] at h3
    exact (List.nodup_append.1 h3).1
  · rintro ⟨t, ht, l, hl, hw⟩
    refine h4 ⟨t, ht, l, hl, Way.more (fun e hx => ?_) hw⟩
    unfold esOf esL at hx ⊢
    rw [he, List.map_append]
    exact List.mem_append_left _ hx

theorem specJBehind_any (p : Plan) (ve : Value) (q : Plan) (vf : Value) (w : World) (hl : p.edges.length ≤ 2000000) (hl' : q.edges.length ≤ 2000000) (h : Rd edgeE w w.heap.size ve p.edges) (h' : Rd edgeE w w.heap.size vf q.edges) :
    Calls Try.prog 79 #[planV p ve, planV q vf] w (JoinPost (joined p q (moreL p q)) w) := by
  obtain ⟨W, hWe, D, E, Z, hW, hsz⟩ := threeBox_at p ve q vf w
  unfold twoBox planBox at hWe
  have HWe := Lib.hid hWe
  have Hsz := Lib.hid hsz
  clear hWe hsz
  by_cases hj : planFault p = 0 ∧ planFault q = 0 ∧ planFault (joinP p q []) = 0
  case neg =>
    have H0 := Lib.hid (joined_no hj)
    have H := Lib.hid (joined_no (p := p) (q := q) (m := moreL p q) (fun x => hj ⟨x.1, x.2.1, planFault_sub x.2.2⟩))
    clear hj
    unfold planV
    go_enter Try.func79, Try.ntmps79
    go_wp2_with fail
    rw [← HWe.out]
    refine (specBeside_any p ve q vf _ hl hl' ((h.below hW).more hW.size) ((h'.below hW).more hW.size)).mono ?_
    rintro e w1 ⟨v1, rfl, o1, b1⟩
    obtain ⟨A1, c1, rfl, -⟩ := id (Rd.of_own o1)
    rw [H0.out] at o1 ⊢
    have hZl := Z.lt
    obtain ⟨z0, z1, z2, z3, z4, zs⟩ := (Z.below b1).cells
    have zf := (Z.below b1).free
    have hW := bnext hW b1
    go_wp2
    refine bodyPost_ret (v := .tuple #[planV zeroPlan (.slice none 0 0), .bool false]) ?_ rfl ⟨.slice none 0 0, by rw [H.out], by rw [H.out]; exact Ow.nil _ _ _ _, ?_⟩
    · simp [planV, zeroPlan, results, Try.results79, go_sem, *]
    · repeat (first | (with_reducible exact hW) | refine Below.setCell ?_ (by simp <;> omega) _ | refine Below.alloc ?_ (by simp <;> omega) _)
  obtain ⟨hf, hg, hjz⟩ := hj
  have H0 := Lib.hid (joined_yes (m := []) ⟨hf, hg, hjz⟩)
  obtain ⟨t1, t2⟩ := manyOk_tasks (planFault_zero.1 hf).1
  have hJe := Lib.hid (manyOk_edges (planFault_zero.1 hjz).1)
  have HF := Lib.hid hf
  have HG := Lib.hid hg
  have HMM := Lib.hid (show moreL p q = crossL p.tasks (sinksOf p) (sourcesOf q) from rfl)
  have HJM := Lib.hid (show joinP p q (moreL p q) = { joinP p q [] with edges := (joinP p q []).edges ++ moreL p q } by simp [joinP])
  have hA12 := sinksOf_len p
  have hB12 := sourcesOf_len q
  have hBlt := Lib.hid (sourcesOf_lt q)
  clear hf hg hjz
  obtain ⟨i0, hi0, hz0, hz1, hz2⟩ := info_parts edge_info
  unfold planV
  go_enter Try.func79, Try.ntmps79
  go_wp2_with fail
  rw [← HWe.out]
  refine (specBeside_any p ve q vf _ hl hl' ((h.below hW).more hW.size) ((h'.below hW).more hW.size)).mono ?_
  rintro e w1 ⟨v1, rfl, o1, b1⟩
  obtain ⟨A1, c1, rfl, -⟩ := id (Rd.of_own o1)
  rw [H0.out] at o1 ⊢
  dsimp only at o1 ⊢
  have hZl := Z.lt
  have hW := bnext hW b1
  have D := D.below b1
  have E := E.below b1
  have Z := Z.below b1
  have o1 := o1.more (base' := w.heap.size + 3) (by have := Hsz.out; omega)
  have hw13 : w.heap.size + 3 ≤ w1.heap.size := by have := Hsz.out; have := b1.size; omega
  clear b1
  generalize hJ : joinP p q [] = J at *
  have HJ := Lib.hid hJ
  clear hJ
  obtain ⟨y0, y1, y2, y3, y4, ys⟩ := D.cells
  go_wp2_with fail
  clear y0 y1 y2 y3 y4 ys
  generalize hw2 : w1.alloc (.cells #[.int .i64 J.prio, .int .i64 J.most, .int .i64 J.wait, .int .i64 J.tasks, .slice A1 J.edges.length c1] 47) = w2
  have b2 : Below w1.heap.size w1 w2 := by rw [← hw2]; exact (Below.refl _ _).alloc (Nat.le_refl _) _
  have X : BoxAt w1.heap.size J (.slice A1 J.edges.length c1) w2 := by rw [← hw2]; exact BoxAt.new' 47 J _ w1 rfl
  clear hw2
  have q1 := o1.within
  have o1 := o1.below b2
  have D := D.below b2
  have E := E.below b2
  have Z := Z.below b2
  have hs2 := b2.size
  have hX1 := X.lt
  have hW := bnext hW b2
  have hne : Hid ((Value.slice A1 J.edges.length c1).ownBlock ≠ some w1.heap.size) := fun e => by have := q1 _ e; omega
  clear b2
  refine (specSinks_any p ve _ hl ((h.below hW).more hW.size)).mono ?_
  rintro e w3 ⟨v3, rfl, o3, b3⟩
  have q3 := o3.within
  have D := D.below b3
  have E := E.below b3
  have Z := Z.below b3
  have X := X.below b3
  have o1 := o1.below b3
  have hs3 := b3.size
  have hW := bnext hW b3
  clear b3
  obtain ⟨y0, y1, y2, y3, y4, ys⟩ := E.cells
  go_wp2_with fail
  clear y0 y1 y2 y3 y4 ys
  refine (specSources_any q vf _ hl' ((h'.below hW).more hW.size)).mono ?_
  rintro e w4 ⟨v4, rfl, o4, b4⟩
  have q4 := o4.within
  have D := D.below b4
  have Z := Z.below b4
  have X := X.below b4
  have o1 := o1.below b4
  have o3 := o3.below b4
  have hs4 := b4.size
  have hW := bnext hW b4
  clear b4 E
  generalize sinksOf p = A at *
  generalize sourcesOf q = B at *
  generalize moreL p q = M at *
  have ha1 : Hid (v3.ownBlock = none ∨ v3.ownBlock ≠ (Value.slice A1 J.edges.length c1).ownBlock) := q3.apart q1 (.inr (by omega))
  have ha2 : Hid (v4.ownBlock = none ∨ v4.ownBlock ≠ (Value.slice A1 J.edges.length c1).ownBlock) := q4.apart q1 (.inr (by omega))
  obtain ⟨A3, c3, rfl, -⟩ := id (Rd.of_own o3)
  obtain ⟨A4, c4, rfl, -⟩ := id (Rd.of_own o4)
  have o3 := o3.more (base' := w2.heap.size) (by omega)
  have o4 := o4.more (base' := w2.heap.size) (by omega)
  clear q1 q3 q4
  go_wp2
  go_loopw [10] (fun i wr => ∃ (k : Nat) (v : Value), k ≤ A.length ∧ i = .int .i64 k ∧ BoxAt w.heap.size p ve wr ∧ BoxAt (w.heap.size + 2) zeroPlan (.slice none 0 0) wr ∧ BoxAt w1.heap.size { J with edges := J.edges ++ crossK p.tasks A B k } v wr ∧ Ow edgeE 91 wr (w.heap.size + 3) v (J.edges ++ crossK p.tasks A B k) ∧ Hid (v.ownBlock ≠ some w1.heap.size) ∧ Ow natE 3 wr w2.heap.size (.slice A3 A.length c3) A ∧ Ow natE 3 wr w2.heap.size (.slice A4 B.length c4) B ∧ Hid ((Value.slice A3 A.length c3).ownBlock = none ∨ (Value.slice A3 A.length c3).ownBlock ≠ v.ownBlock) ∧ Hid ((Value.slice A4 B.length c4).ownBlock = none ∨ (Value.slice A4 B.length c4).ownBlock ≠ v.ownBlock) ∧ Below w.heap.size w wr) (fun i _ => A.length - (intOf i).toNat)
  case atStart =>
    refine ⟨0, _, Nat.zero_le _, rfl, D, Z, ?_, ?_, hne, o3, o4, ha1, ha2, hW⟩
    · exact ⟨X.cells, X.free⟩
    · simpa [crossK, crossL] using o1
  case round =>
    clear D Z X o1 hne o3 o4 ha1 ha2 hW
    obtain ⟨k, v, hk, rfl, D, Z, X, ho, hne, o1, o2, ha1, ha2, hW⟩ := hrel
    by_cases hlt : k < A.length
    · have hltI : (k : Int) < (A.length : Int) := by omega
      have S0 := Lib.hid (crossK_succ p.tasks A B hlt)
      have hKl := crossK_len p.tasks hA12 hB12 k
      generalize hKK : crossK p.tasks A B k = K at *
      have HKK := Lib.hid hKK
      clear hKK
      go_wp2
      go_loopw [11] (fun i wr => ∃ (j : Nat) (v : Value), j ≤ B.length ∧ i = .int .i64 j ∧ BoxAt w.heap.size p ve wr ∧ BoxAt (w.heap.size + 2) zeroPlan (.slice none 0 0) wr ∧ BoxAt w1.heap.size { J with edges := J.edges ++ (K ++ crossRow p.tasks (B.take j) A[k]) } v wr ∧ Ow edgeE 91 wr (w.heap.size + 3) v (J.edges ++ (K ++ crossRow p.tasks (B.take j) A[k])) ∧ Hid (v.ownBlock ≠ some w1.heap.size) ∧ Ow natE 3 wr w2.heap.size (.slice A3 A.length c3) A ∧ Ow natE 3 wr w2.heap.size (.slice A4 B.length c4) B ∧ Hid ((Value.slice A3 A.length c3).ownBlock = none ∨ (Value.slice A3 A.length c3).ownBlock ≠ v.ownBlock) ∧ Hid ((Value.slice A4 B.length c4).ownBlock = none ∨ (Value.slice A4 B.length c4).ownBlock ≠ v.ownBlock) ∧ Below w.heap.size w wr) (fun i _ => B.length - (intOf i).toNat)
      case atStart =>
        refine ⟨0, _, Nat.zero_le _, rfl, D, Z, ?_, ?_, hne, o1, o2, ha1, ha2, hW⟩
        · simpa [crossRow] using X
        · simpa [crossRow] using ho
      case round =>
        clear D Z X ho hne o1 o2 ha1 ha2 hW
        obtain ⟨j, v, hj, rfl, D, Z, X, ho, hne, o1, o2, ha1, ha2, hW⟩ := hrel
        by_cases hjt : j < B.length
        · have hjI : (j : Int) < (B.length : Int) := by omega
          have Sj := Lib.hid (crossRow_succ p.tasks B A[k] hjt)
          have hbl := hBlt.out _ (List.getElem_mem hjt)
          obtain ⟨g1, rfl, hg1, hg1'⟩ := o1.some_ (by omega)
          obtain ⟨g2, rfl, hg2, hg2'⟩ := o2.some_ (by omega)
          have ca := o1.nat hlt
          have cb := o2.nat hjt
          generalize hAk : A[k] = a at *
          generalize hBj : B[j] = b at *
          have Ha := Lib.hid hAk
          have HB := Lib.hid hBj
          clear hAk hBj
          have hwr : IntKind.i64.wrap ((b : Int) + p.tasks) = (b : Int) + p.tasks := IntWalk.i64_in _ (by omega)
          have hRl : (J.edges ++ (K ++ crossRow p.tasks (B.take j) a)).length ≤ 3000000 := by
            rw [List.length_append, List.length_append]
            unfold crossRow
            have := List.length_take_le' j B
            have := hJe.out
            simp only [List.length_map]
            omega
          generalize hRR : J.edges ++ (K ++ crossRow p.tasks (B.take j) a) = R at *
          have HRR := Lib.hid hRR
          clear hRR
          have Hal : Hid (∀ w : World, Below w.heap.size w (w.alloc (.cells #[.int .i64 (a : Int), .int .i64 ((b : Int) + p.tasks)] 91))) := fun w => (Below.refl _ _).alloc (Nat.le_refl _) _
          obtain ⟨x0, x1, x2, x3, x4, xs⟩ := X.cells
          obtain ⟨y0, y1, y2, y3, y4, ys⟩ := D.cells
          go_wp2
          have hXl := X.lt
          have hdr : Below wr.heap.size wr wr.drew := (Below.refl _ _).drew
          have Hb := Lib.hid (hdr.trans ((Hal.out wr.drew).mono hdr.size))
          clear hdr
          have hob := ho.below Hb.out
          have hWb := bnext hW Hb.out
          refine wp_region_last (fun w' => w'.cell? ⟨w1.heap.size, 4, none⟩ = some v ∧ w'.cell? ⟨g1, k, none⟩ = some (.int .i64 (a : Int)) ∧ w'.cell? ⟨g2, j, none⟩ = some (.int .i64 (b : Int)) ∧ w'.cell? ⟨w.heap.size, 3, none⟩ = some (.int .i64 p.tasks)) 17 (by kernel_rfl) ?_ (fun hHeld => ?_)
          · (refine ⟨?_, ?_, ?_, ?_⟩ <;> first | assumption | go_keep)
          refine wpAnyL_take (i := 0) (oi := _) (v := ?_) rfl (by kernel_rfl) (by kernel_rfl) (by kernel_rfl) (by kernel_rfl) (fun _ _ _ h => h) hHeld (Or.inl ⟨by rfl, ?_⟩) ?_
          rotate_left
          · intro w hSw
            (try dsimp only at hSw)
            go_simp
            all_goals with_reducible rfl
          try simp only [Act.put, List.setIfInBounds_toArray, List.set_cons_zero, List.set_cons_succ]
          refine wpAnyL_take (i := 1) (oi := _) (v := ?_) rfl (by kernel_rfl) (by kernel_rfl) (by kernel_rfl) (by kernel_rfl) (fun _ _ _ h => h) hHeld (Or.inl ⟨by rfl, ?_⟩) ?_
          rotate_left
          · intro w hSw
            (try dsimp only at hSw)
            go_simp
            all_goals with_reducible rfl
          try simp only [Act.put, List.setIfInBounds_toArray, List.set_cons_zero, List.set_cons_succ]
          refine wpAnyL_take (i := 2) (oi := _) (v := ?_) rfl (by kernel_rfl) (by kernel_rfl) (by kernel_rfl) (by kernel_rfl) (fun _ _ _ h => h) hHeld (Or.inl ⟨by rfl, ?_⟩) ?_
          rotate_left
          · intro w hSw
            (try dsimp only at hSw)
            go_simp
            all_goals with_reducible rfl
          try simp only [Act.put, List.setIfInBounds_toArray, List.set_cons_zero, List.set_cons_succ]
          refine wpAnyL_take (i := 3) (oi := _) (v := ?_) rfl (by kernel_rfl) (by kernel_rfl) (by kernel_rfl) (by kernel_rfl) (fun _ _ _ h => h) hHeld (Or.inl ⟨by rfl, ?_⟩) ?_
          rotate_left
          · intro w hSw
            (try dsimp only at hSw)
            go_simp
            all_goals with_reducible rfl
          try simp only [Act.put, List.setIfInBounds_toArray, List.set_cons_zero, List.set_cons_succ]
          refine wpAnyL_take (i := 4) (oi := _) (v := ?_) rfl (by kernel_rfl) (by kernel_rfl) (by kernel_rfl) (by kernel_rfl) (fun _ _ _ h => h) hHeld (Or.inl ⟨by rfl, ?_⟩) ?_
          rotate_left
          · intro w hSw
            (try dsimp only at hSw)
            go_simp
            all_goals with_reducible rfl
          try simp only [Act.put, List.setIfInBounds_toArray, List.set_cons_zero, List.set_cons_succ]
          refine wpAnyL_take (i := 5) (oi := _) (v := ?_) rfl (by kernel_rfl) (by kernel_rfl) (by kernel_rfl) (by kernel_rfl) (fun _ _ _ h => h) hHeld (Or.inl ⟨by rfl, ?_⟩) ?_
          rotate_left
          · intro w hSw
            (try dsimp only at hSw)
            go_simp
            all_goals with_reducible rfl
          try simp only [Act.put, List.setIfInBounds_toArray, List.set_cons_zero, List.set_cons_succ]
          refine wpAnyL_take (i := 6) (oi := _) (v := ?_) rfl (by kernel_rfl) (by kernel_rfl) (by kernel_rfl) (by kernel_rfl) (fun _ _ _ h => h) hHeld (Or.inl ⟨by rfl, ?_⟩) ?_
          rotate_left
          · intro w hSw
            (try dsimp only at hSw)
            go_simp
            all_goals with_reducible rfl
          try simp only [Act.put, List.setIfInBounds_toArray, List.set_cons_zero, List.set_cons_succ]
          refine wpAnyL_take (i := 7) (oi := _) (v := ?_) rfl (by kernel_rfl) (by kernel_rfl) (by kernel_rfl) (by kernel_rfl) (fun _ _ _ h => h) hHeld (Or.inl ⟨by rfl, ?_⟩) ?_
          rotate_left
          · intro w hSw
            (try dsimp only at hSw)
            go_simp
            all_goals with_reducible rfl
          try simp only [Act.put, List.setIfInBounds_toArray, List.set_cons_zero, List.set_cons_succ]
          refine wpAnyL_take (i := 8) (oi := _) (v := ?_) rfl (by kernel_rfl) (by kernel_rfl) (by kernel_rfl) (by kernel_rfl) (fun _ _ _ h => h) hHeld (Or.inl ⟨by rfl, ?_⟩) ?_
          rotate_left
          · intro w hSw
            (try dsimp only at hSw)
            go_simp
            all_goals with_reducible rfl
          try simp only [Act.put, List.setIfInBounds_toArray, List.set_cons_zero, List.set_cons_succ]
          refine wpAnyL_take (i := 9) (oi := _) (v := ?_) rfl (by kernel_rfl) (by kernel_rfl) (by kernel_rfl) (by kernel_rfl) (fun _ _ _ h => h) hHeld (Or.inl ⟨by rfl, ?_⟩) ?_
          rotate_left
          · intro w hSw
            (try dsimp only at hSw)
            go_simp
            all_goals with_reducible rfl
          try simp only [Act.put, List.setIfInBounds_toArray, List.set_cons_zero, List.set_cons_succ]
          refine wpAnyL_take (i := 10) (oi := _) (v := ?_) rfl (by kernel_rfl) (by kernel_rfl) (by kernel_rfl) (by kernel_rfl) (fun _ _ _ h => h) hHeld (Or.inl ⟨by rfl, ?_⟩) ?_
          rotate_left
          · intro w hSw
            (try dsimp only at hSw)
            go_simp
            all_goals with_reducible rfl
          try simp only [Act.put, List.setIfInBounds_toArray, List.set_cons_zero, List.set_cons_succ]
          refine wpAnyL_take (i := 11) (oi := _) (v := ?_) rfl (by kernel_rfl) (by kernel_rfl) (by kernel_rfl) (by kernel_rfl) (fun _ _ _ h => h) hHeld (Or.inl ⟨by rfl, ?_⟩) ?_
          rotate_left
          · intro w hSw
            (try dsimp only at hSw)
            go_simp
            all_goals with_reducible rfl
          try simp only [Act.put, List.setIfInBounds_toArray, List.set_cons_zero, List.set_cons_succ]
          refine wpAnyL_take (i := 12) (oi := _) (v := ?_) rfl (by kernel_rfl) (by kernel_rfl) (by kernel_rfl) (by kernel_rfl) (fun _ _ _ h => h) hHeld (Or.inl ⟨by rfl, ?_⟩) ?_
          rotate_left
          · intro w hSw
            (try dsimp only at hSw)
            go_simp
            all_goals with_reducible rfl
          try simp only [Act.put, List.setIfInBounds_toArray, List.set_cons_zero, List.set_cons_succ]
          refine wpAnyL_take (i := 13) (oi := _) (v := ?_) rfl (by kernel_rfl) (by kernel_rfl) (by kernel_rfl) (by kernel_rfl) (fun _ _ _ h => h) hHeld (Or.inl ⟨by rfl, ?_⟩) ?_
          rotate_left
          · intro w hSw
            (try dsimp only at hSw)
            go_simp
            all_goals with_reducible rfl
          try simp only [Act.put, List.setIfInBounds_toArray, List.set_cons_zero, List.set_cons_succ]
          refine wpAnyL_one (i := 14) (o := _) rfl (by kernel_rfl) (fun K hK => ?_)
          go_simp
          refine hK.out _ _ (fun _ => ?_) ?_
          · (refine ⟨?_, ?_, ?_, ?_⟩ <;> first | assumption | go_keep)
          clear hK K
          try simp only [Act.put, List.setIfInBounds_toArray, List.set_cons_zero, List.set_cons_succ]
          refine wpAnyL_one (i := 15) (o := _) rfl (by kernel_rfl) (fun K hK => ?_)
          (refine step_push_all _ edgeE (by decide) (by rfl) (.tmp 38) (.tmp 51) (by rfl) Try.underlying45 hi0 hz0 hz1 hz2 (by rfl) (v := v) (l := R) (by rfl) hob (by rfl) (Rd.one edgeE _ _ (crossE p.tasks a b) (by simp) rfl 1 (Nat.le_refl _) (Nat.lt_succ_self _)) hRl (by simp) (by decide) (by simp; omega) ?_; intro v5 w5 o5 g5 hat5; obtain ⟨A5, c5, rfl, -⟩ := id (Rd.of_own o5); have X5 := (X.below Hb.out).far g5 (fun e => hne.out e.symm); have D5 := (D.below Hb.out).far g5 (fun e => by have := ho.within _ e.symm; omega); have W5 := hWb.grown g5 hWb.size (fun g hg => by have := ho.within _ hg; omega); have p5 := (o1.below Hb.out).grown g5 ha1.out; have r5 := (o2.below Hb.out).grown g5 ha2.out; have cc0 := p5.nat hlt; have cc1 := r5.nat hjt; rw [Ha.out] at cc0; rw [HB.out] at cc1; obtain ⟨xx0, xx1, xx2, xx3, xx4, xxs⟩ := X5.cells; obtain ⟨yy0, yy1, yy2, yy3, yy4, yys⟩ := D5.cells; have xf := X5.free)
          refine hK.out _ _ (fun _ => ?_) ?_
          · (refine ⟨?_, ?_, ?_, ?_⟩ <;> first | assumption | go_keep)
          clear hK K
          try simp only [Act.put, List.setIfInBounds_toArray, List.set_cons_zero, List.set_cons_succ]
          refine wpAnyL_one (i := 16) (o := _) rfl (by kernel_rfl) (fun K hK => ?_)
          go_simp
          refine hK.out _ _ (fun _ => ?_) ?_
          · (refine ⟨?_, ?_, ?_, ?_⟩ <;> first | assumption | go_keep)
          clear hK K
          try simp only [Act.put, List.setIfInBounds_toArray, List.set_cons_zero, List.set_cons_succ]
          refine wpAnyL_one (i := 17) (o := _) rfl (by kernel_rfl) (fun K hK => ?_)
          go_simp
          refine hK.out _ _ (fun hne => absurd rfl hne) ?_
          clear hK K
          try simp only [Act.put, List.setIfInBounds_toArray, List.set_cons_zero, List.set_cons_succ]
          refine wpAnyL_done (by kernel_rfl) ?_ _
          go_wp2
          have Z5 := (Z.below Hb.out).far g5 (fun e => by have := ho.within _ e.symm; omega)
          have hne5 : Hid ((Value.slice A5 (R ++ [crossE p.tasks a b]).length c5).ownBlock ≠ some w1.heap.size) := by
            intro e
            rcases hat5 with h1 | h1
            · rw [h1] at e; exact hne.out e
            · rw [h1] at e; simp at e; omega
          have hb1 : Hid ((Value.slice (some ⟨g1, 0, none⟩) A.length c3).ownBlock = none ∨ (Value.slice (some ⟨g1, 0, none⟩) A.length c3).ownBlock ≠ (Value.slice A5 (R ++ [crossE p.tasks a b]).length c5).ownBlock) := by
            rcases hat5 with h1 | h1
            · rw [h1]; exact ha1.out
            · rw [h1]; refine .inr ?_; simp [Value.ownBlock]; omega
          have hb2 : Hid ((Value.slice (some ⟨g2, 0, none⟩) B.length c4).ownBlock = none ∨ (Value.slice (some ⟨g2, 0, none⟩) B.length c4).ownBlock ≠ (Value.slice A5 (R ++ [crossE p.tasks a b]).length c5).ownBlock) := by
            rcases hat5 with h1 | h1
            · rw [h1]; exact ha2.out
            · rw [h1]; refine .inr ?_; simp [Value.ownBlock]; omega
          rw [List.length_append, List.length_singleton] at o5 hne5 hb1 hb2
          have HR2 := Lib.hid (show J.edges ++ (K ++ crossRow p.tasks (B.take (j + 1)) a) = R ++ [crossE p.tasks a b] by rw [Sj.out, HRR.out.symm]; simp only [List.append_assoc])
          refine ⟨⟨j + 1, .slice A5 (R.length + 1) c5, by omega, by go_num, D5.other (by simp; omega) _, Z5.other (by simp; omega) _, ?_, ?_, hne5, p5.setOther (by simp [Value.ownBlock]; omega) _, r5.setOther (by simp [Value.ownBlock]; omega) _, hb1, hb2, W5.setCell (by simp; omega) _⟩, by simp [intOf]; omega⟩
          · exact X5.setEdges _ _
          · rw [HR2.out]
            exact o5.setOther hne5.out _
        · have hjI : ¬ (j : Int) < (B.length : Int) := by omega
          have hj' : j = B.length := by omega
          have hWF := hW
          subst hj'
          rw [List.take_length] at X ho
          go_wp2
          refine ⟨⟨k + 1, v, by omega, by go_num, D, Z, ?_, ?_, hne, o1, o2, ha1, ha2, hWF⟩, by simp [intOf]; omega⟩
          · rw [S0.out]; exact X
          · rw [S0.out]; exact ho
    · have hltI : ¬ (k : Int) < (A.length : Int) := by omega
      have hk' : k = A.length := by omega
      have hKl := crossK_len p.tasks hA12 hB12 A.length
      have HFM := Lib.hid (show crossK p.tasks A B A.length = M by rw [HMM.out]; unfold crossK; rw [List.take_length])
      subst hk'
      rw [HFM.out] at X ho hKl
      have hll : (joinP p q M).edges.length ≤ 2000000 := by
        rw [HJM.out]
        simp only [List.length_append]
        have := hJe.out
        omega
      have X : BoxAt w1.heap.size (joinP p q M) v wr := by rw [HJM.out]; exact X
      have ho : Ow edgeE 91 wr (w.heap.size + 3) v (joinP p q M).edges := by rw [HJM.out]; exact ho
      clear o1 o2 ha1 ha2 hne HJM
      generalize hJ2 : joinP p q M = J2 at *
      have HJ2 := Lib.hid hJ2
      clear hJ2
      obtain ⟨A5, c5, rfl, -⟩ := id (Rd.of_own ho)
      have hXl := X.lt
      obtain ⟨x0, x1, x2, x3, x4, xs⟩ := X.cells
      go_wp2_with fail
      clear x0 x1 x2 x3 x4 xs
      have W5 := hW
      refine (specPlanFault_any J2 _ _ hll (Rd.of_own ho)).mono ?_
      rintro e w7 ⟨rfl, b7⟩
      have o7 := ho.below b7
      have Z7 := Z.below b7
      have X7 := X.below b7
      have W7 := bnext W5 b7
      obtain ⟨z0, z1, z2, z3, z4, zs⟩ := Z7.cells
      have zf := Z7.free
      obtain ⟨x0, x1, x2, x3, x4, xs⟩ := X7.cells
      by_cases hj : planFault J2 = 0
      · have hjb : (planFault J2 != 0) = false := by simp [hj]
        have H := Lib.hid (show joined p q M = (J2, true) by rw [← HJ2.out]; exact joined_yes ⟨HF.out, HG.out, by rw [HJ2.out]; exact hj⟩)
        clear hj
        go_wp2
        refine bodyPost_ret (v := .tuple #[planV J2 (.slice A5 J2.edges.length c5), .bool true]) ?_ rfl ⟨.slice A5 J2.edges.length c5, by rw [H.out], ?_, ?_⟩
        · simp [planV, results, Try.results79, go_sem, *]
        · rw [H.out]
          refine Ow.more (base := w.heap.size + 3) ?_ (by omega)
          unfold Ow at o7 ⊢
          repeat (first | (with_reducible exact o7) | refine ownsRow_setCell_below ?_ (by simp <;> omega) _)
        · repeat (first | (with_reducible exact W7) | refine Below.setCell ?_ (by simp <;> omega) _)
      · have hjb : (planFault J2 != 0) = true := by simp [hj]
        have H := Lib.hid (joined_no (p := p) (q := q) (m := M) (fun x => hj (by rw [← HJ2.out]; exact x.2.2)))
        clear hj
        go_wp2
        refine bodyPost_ret (v := .tuple #[planV zeroPlan (.slice none 0 0), .bool false]) ?_ rfl ⟨.slice none 0 0, by rw [H.out], by rw [H.out]; exact Ow.nil _ _ _ _, ?_⟩
        · simp [planV, zeroPlan, results, Try.results79, go_sem, *]
        · repeat (first | (with_reducible exact W7) | refine Below.setCell ?_ (by simp <;> omega) _)
end Go.Proofs.Ytoccmpijfggmkaa
