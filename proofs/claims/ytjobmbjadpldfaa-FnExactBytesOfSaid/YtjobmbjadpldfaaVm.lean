/-
  NoteText of both.
-/
import Derived.Test.YtjobmbjadpldfaaVl
import Derived.Deep.RegionHeld3
namespace Go.Proofs.Ytjobmbjadpldfaa
open Go.RowKit
set_option maxRecDepth 100000
set_option maxHeartbeats 2000000
set_option linter.unusedVariables false
set_option linter.unusedSimpArgs false

/-- operation i of a region that draws its order is taken first: it is wanted -/
theorem takeY {P : Program} {md : Region.Mode} {Q : Exit → Act → World → Prop} {S : World → Prop} {l : List Oper} (i : Nat) {oi : Oper} {v : Value} {fuel : Nat} {listed : Array Bool} {a : Act} {w : World} (hi : l[i]? = some oi)
    (hs : Region.noSelect l.toArray = true) (hf : Region.free md l.toArray listed i = true) (hr : (Region.ready md l.toArray listed).contains i = true) (hQ : ∀ c a w, Q (.panic c) (a.put oi.dst v) w → Q (.panic c) a w)
    (hw : Region.wanted oi (yielded l.toArray a.tmps) = true) (hy : ∀ w, S w → (execOp a.eval oi).run P w = .ok (.value v) w) (hS : S w)
    (h : wpAnyH P md l.toArray Q S fuel (listed.setIfInBounds i true) (a.put oi.dst v) w) : wpAnyH P md l.toArray Q S (fuel + 1) listed a w :=
  wpAnyH_take (by rw [List.getElem?_toArray]; exact hi) hs hf hr hQ (.inl ⟨hw, hy⟩) hS h
/-- .. and it is not wanted -/
theorem takeN {P : Program} {md : Region.Mode} {Q : Exit → Act → World → Prop} {S : World → Prop} {l : List Oper} (i : Nat) {oi : Oper} {fuel : Nat} {listed : Array Bool} {a : Act} {w : World} (hi : l[i]? = some oi)
    (hs : Region.noSelect l.toArray = true) (hf : Region.free md l.toArray listed i = true) (hr : (Region.ready md l.toArray listed).contains i = true) (hQ : ∀ c a w, Q (.panic c) (a.put oi.dst undef) w → Q (.panic c) a w)
    (hw : Region.wanted oi (yielded l.toArray a.tmps) = false) (hS : S w)
    (h : wpAnyH P md l.toArray Q S fuel (listed.setIfInBounds i true) (a.put oi.dst undef) w) : wpAnyH P md l.toArray Q S (fuel + 1) listed a w :=
  wpAnyH_take (by rw [List.getElem?_toArray]; exact hi) hs hf hr hQ (.inr ⟨hw, rfl⟩) hS h
/-- operation i comes up alone -/
theorem readyC {P : Program} {md : Region.Mode} {Q : Exit → Act → World → Prop} {S : World → Prop} {l : List Oper} (i : Nat) {o : Oper} {fuel : Nat} {listed : Array Bool} {a : Act} {w : World} (ho : l[i]? = some o)
    (hr : Region.ready md l.toArray listed = [i]) (hw : Region.wanted o (yielded l.toArray a.tmps) = true)
    (h : ∀ K' : Act → World → Prop, Shut (∀ a w, S w → (S w → wpAnyH P md l.toArray Q S fuel (listed.setIfInBounds i true) a w) → K' a w) → Oper.wp P o a w K' Q) : wpAnyH P md l.toArray Q S (fuel + 1) listed a w :=
  wpAnyH_ready hr (by simp) (AllReadyH.cons (o := o) (by rw [List.getElem?_toArray]; exact ho) (fun K hK => by rw [if_pos hw]; exact h K hK) AllReadyH.nil)
/-- two operations come up -/
theorem readyC2 {P : Program} {md : Region.Mode} {Q : Exit → Act → World → Prop} {S : World → Prop} {l : List Oper} (i j : Nat) {oi oj : Oper} {fuel : Nat} {listed : Array Bool} {a : Act} {w : World} (hi : l[i]? = some oi) (hj : l[j]? = some oj)
    (hr : Region.ready md l.toArray listed = [i, j]) (wi : Region.wanted oi (yielded l.toArray a.tmps) = true) (wj : Region.wanted oj (yielded l.toArray a.tmps) = true)
    (h1 : ∀ K' : Act → World → Prop, Shut (∀ a w, S w → (S w → wpAnyH P md l.toArray Q S fuel (listed.setIfInBounds i true) a w) → K' a w) → Oper.wp P oi a w K' Q)
    (h2 : ∀ K' : Act → World → Prop, Shut (∀ a w, S w → (S w → wpAnyH P md l.toArray Q S fuel (listed.setIfInBounds j true) a w) → K' a w) → Oper.wp P oj a w K' Q) : wpAnyH P md l.toArray Q S (fuel + 1) listed a w :=
  wpAnyH_ready hr (by simp) (AllReadyH.cons (o := oi) (by rw [List.getElem?_toArray]; exact hi) (fun K hK => by rw [if_pos wi]; exact h1 K hK) (AllReadyH.cons (o := oj) (by rw [List.getElem?_toArray]; exact hj) (fun K hK => by rw [if_pos wj]; exact h2 K hK) AllReadyH.nil))

/-- a note as bytes -/
def noteText (x : Note) : List UInt8 :=
  if deedOk x.deed = true ∧ inB x.seq 1 1000000000 = true ∧ (varsOf (x.seq :: x.deed.kind :: numbersOf x.deed)).length ≤ 400 then varsOf (x.seq :: x.deed.kind :: numbersOf x.deed) else []
theorem deedOk_len {d : Deed} (h : deedOk d = true) : d.plan.edges.length ≤ 31 := by
  by_cases hl : d.plan.edges.length ≤ 31
  · exact hl
  · rw [okLong d hl] at h; cases h
theorem noteText_len (x : Note) : (noteText x).length ≤ 400 := by
  unfold noteText
  split
  · rename_i h; exact h.2.2
  · simp

theorem implNoteText_any (x : Note) (s : Sl) (w : World) (hc : cntNote x ≤ 2000000) (h : noteD.rd w w.heap.size x s) :
    Calls Try.prog 38 #[noteW x s] w (StrPost (noteText x) w) := by
  have HR : Hid (∀ W, Below w.heap.size w W → deedD.rd W W.heap.size x.deed s) := fun W hW => noteD.rd_more (noteD.rd_below h hW) hW.size
  have CD := Lib.hid (fun W hW => implDeedOk_any x.deed s W hc (HR.out W hW))
  have CN := Lib.hid (fun W (hl : x.deed.plan.edges.length ≤ 31) hW => implNumbers_any x.deed s W (by omega) (HR.out W hW))
  obtain ⟨A, n, c⟩ := s
  clear h HR
  have X := DBox.new 76 [.int .i64 x.seq, .int .i64 x.deed.kind, .int .i64 x.deed.run, .int .i64 x.deed.plan.prio, .int .i64 x.deed.plan.most, .int .i64 x.deed.plan.wait, .int .i64 x.deed.plan.tasks, .slice A n c, .int .i64 x.deed.task, .int .i64 x.deed.try_, .int .i64 x.deed.worker, .int .i64 x.deed.draw] w (b := w.heap.size) rfl
  have B0 : Below w.heap.size w (w.alloc (.cells #[.int .i64 x.seq, .int .i64 x.deed.kind, .int .i64 x.deed.run, .int .i64 x.deed.plan.prio, .int .i64 x.deed.plan.most, .int .i64 x.deed.plan.wait, .int .i64 x.deed.plan.tasks, .slice A n c, .int .i64 x.deed.task, .int .i64 x.deed.try_, .int .i64 x.deed.worker, .int .i64 x.deed.draw] 76)) := by repeat (first | exact Below.refl _ _ | refine Below.alloc ?_ (by simp <;> omega) _)
  cases a0 : deedOk x.deed
  case false =>
    have H := Lib.hid (show noteText x = [] by unfold noteText; rw [if_neg (by simp [a0])])
    go_enter Try.func38, Try.ntmps38
    go_wp2_with (go_at_call 60; refine (CD.out _ B0).mono ?_; rintro e w1 ⟨rfl, b1⟩; rw [a0])
    go_ret
    exact ⟨by rw [H.out]; rfl, bnext B0 b1⟩
  have hl := deedOk_len a0
  have CN := Lib.hid (fun W hW => CN.out W hl hW)
  cases a1 : inB x.seq 1 1000000000
  case false =>
    have H := Lib.hid (show noteText x = [] by unfold noteText; rw [if_neg (by simp [a1])])
    go_enter Try.func38, Try.ntmps38
    go_wp2_with fail
    refine (CD.out _ B0).mono ?_
    rintro e w1 ⟨rfl, b1⟩
    rw [a0]
    replace B0 := bnext B0 b1
    replace X := X.below b1
    have X_0 := X.cell 0 _ rfl
    have X_1 := X.cell 1 _ rfl
    have X_2 := X.cell 2 _ rfl
    have X_3 := X.cell 3 _ rfl
    have X_4 := X.cell 4 _ rfl
    have X_5 := X.cell 5 _ rfl
    have X_6 := X.cell 6 _ rfl
    have X_7 := X.cell 7 _ rfl
    have X_8 := X.cell 8 _ rfl
    have X_9 := X.cell 9 _ rfl
    have X_10 := X.cell 10 _ rfl
    have X_11 := X.cell 11 _ rfl
    have X_l := X.lt
    clear b1
    go_wp2_with (go_at_call 61; refine (within_any _ _ _ _).mono ?_; rintro e w5 ⟨rfl, rfl⟩; rw [a1])
    go_ret
    exact ⟨by rw [H.out]; rfl, B0⟩
  go_enter Try.func38, Try.ntmps38
  go_wp2_with fail
  refine (CD.out _ B0).mono ?_
  rintro e w1 ⟨rfl, b1⟩
  rw [a0]
  replace B0 := bnext B0 b1
  replace X := X.below b1
  have X_0 := X.cell 0 _ rfl
  have X_1 := X.cell 1 _ rfl
  have X_2 := X.cell 2 _ rfl
  have X_3 := X.cell 3 _ rfl
  have X_4 := X.cell 4 _ rfl
  have X_5 := X.cell 5 _ rfl
  have X_6 := X.cell 6 _ rfl
  have X_7 := X.cell 7 _ rfl
  have X_8 := X.cell 8 _ rfl
  have X_9 := X.cell 9 _ rfl
  have X_10 := X.cell 10 _ rfl
  have X_11 := X.cell 11 _ rfl
  have X_l := X.lt
  clear b1
  go_wp2_with (go_at_call 61; refine (within_any _ _ _ _).mono ?_; rintro e w5 ⟨rfl, rfl⟩; rw [a1])
  obtain ⟨i0, hi0, hz0, hz1, hz2⟩ := info_parts int_infoV
  have LN := numbersOf_len x.deed
  clear X_0 X_1 X_2 X_3 X_4 X_5 X_6 X_7 X_8 X_9 X_10 X_11 X_l
  refine Go.wp_region_noPanic ?_
  refine wp_region_held_drew (S := fun w' => DBox w.heap.size [.int .i64 x.seq, .int .i64 x.deed.kind, .int .i64 x.deed.run, .int .i64 x.deed.plan.prio, .int .i64 x.deed.plan.most, .int .i64 x.deed.plan.wait, .int .i64 x.deed.plan.tasks, .slice A n c, .int .i64 x.deed.task, .int .i64 x.deed.try_, .int .i64 x.deed.worker, .int .i64 x.deed.draw] w') (by kernel_rfl) X.drew (fun hHeld => ?_)
  refine takeY 0 (v := ?v0) rfl (by kernel_rfl) (by kernel_rfl) (by kernel_rfl) (fun _ _ _ h => h) (by rfl) ?y0 (by assumption) ?r0
  case y0 => (intro w' hSw; (try dsimp only at hSw); have h0 := hSw.cell 0 _ rfl; have h1 := hSw.cell 1 _ rfl; have h2 := hSw.cell 2 _ rfl; have h3 := hSw.cell 3 _ rfl; have h4 := hSw.cell 4 _ rfl; have h5 := hSw.cell 5 _ rfl; have h6 := hSw.cell 6 _ rfl; have h7 := hSw.cell 7 _ rfl; have h8 := hSw.cell 8 _ rfl; have h9 := hSw.cell 9 _ rfl; have h10 := hSw.cell 10 _ rfl; have h11 := hSw.cell 11 _ rfl; go_simp; (try with_reducible rfl))
  (try simp only [Act.put, List.setIfInBounds_toArray, List.set_cons_zero, List.set_cons_succ])
  refine takeY 1 (v := ?v1) rfl (by kernel_rfl) (by kernel_rfl) (by kernel_rfl) (fun _ _ _ h => h) (by rfl) ?y1 (by assumption) ?r1
  case y1 => (intro w' hSw; (try dsimp only at hSw); have h0 := hSw.cell 0 _ rfl; have h1 := hSw.cell 1 _ rfl; have h2 := hSw.cell 2 _ rfl; have h3 := hSw.cell 3 _ rfl; have h4 := hSw.cell 4 _ rfl; have h5 := hSw.cell 5 _ rfl; have h6 := hSw.cell 6 _ rfl; have h7 := hSw.cell 7 _ rfl; have h8 := hSw.cell 8 _ rfl; have h9 := hSw.cell 9 _ rfl; have h10 := hSw.cell 10 _ rfl; have h11 := hSw.cell 11 _ rfl; go_simp; (try with_reducible rfl))
  (try simp only [Act.put, List.setIfInBounds_toArray, List.set_cons_zero, List.set_cons_succ])
  refine takeY 2 (v := ?v2) rfl (by kernel_rfl) (by kernel_rfl) (by kernel_rfl) (fun _ _ _ h => h) (by rfl) ?y2 (by assumption) ?r2
  case y2 => (intro w' hSw; (try dsimp only at hSw); have h0 := hSw.cell 0 _ rfl; have h1 := hSw.cell 1 _ rfl; have h2 := hSw.cell 2 _ rfl; have h3 := hSw.cell 3 _ rfl; have h4 := hSw.cell 4 _ rfl; have h5 := hSw.cell 5 _ rfl; have h6 := hSw.cell 6 _ rfl; have h7 := hSw.cell 7 _ rfl; have h8 := hSw.cell 8 _ rfl; have h9 := hSw.cell 9 _ rfl; have h10 := hSw.cell 10 _ rfl; have h11 := hSw.cell 11 _ rfl; go_simp; (try with_reducible rfl))
  (try simp only [Act.put, List.setIfInBounds_toArray, List.set_cons_zero, List.set_cons_succ])
  refine takeY 3 (v := ?v3) rfl (by kernel_rfl) (by kernel_rfl) (by kernel_rfl) (fun _ _ _ h => h) (by rfl) ?y3 (by assumption) ?r3
  case y3 => (intro w' hSw; (try dsimp only at hSw); have h0 := hSw.cell 0 _ rfl; have h1 := hSw.cell 1 _ rfl; have h2 := hSw.cell 2 _ rfl; have h3 := hSw.cell 3 _ rfl; have h4 := hSw.cell 4 _ rfl; have h5 := hSw.cell 5 _ rfl; have h6 := hSw.cell 6 _ rfl; have h7 := hSw.cell 7 _ rfl; have h8 := hSw.cell 8 _ rfl; have h9 := hSw.cell 9 _ rfl; have h10 := hSw.cell 10 _ rfl; have h11 := hSw.cell 11 _ rfl; go_simp; (try with_reducible rfl))
  (try simp only [Act.put, List.setIfInBounds_toArray, List.set_cons_zero, List.set_cons_succ])
  refine takeY 4 (v := ?v4) rfl (by kernel_rfl) (by kernel_rfl) (by kernel_rfl) (fun _ _ _ h => h) (by rfl) ?y4 (by assumption) ?r4
  case y4 => (intro w' hSw; (try dsimp only at hSw); have h0 := hSw.cell 0 _ rfl; have h1 := hSw.cell 1 _ rfl; have h2 := hSw.cell 2 _ rfl; have h3 := hSw.cell 3 _ rfl; have h4 := hSw.cell 4 _ rfl; have h5 := hSw.cell 5 _ rfl; have h6 := hSw.cell 6 _ rfl; have h7 := hSw.cell 7 _ rfl; have h8 := hSw.cell 8 _ rfl; have h9 := hSw.cell 9 _ rfl; have h10 := hSw.cell 10 _ rfl; have h11 := hSw.cell 11 _ rfl; go_simp; (try with_reducible rfl))
  (try simp only [Act.put, List.setIfInBounds_toArray, List.set_cons_zero, List.set_cons_succ])
  refine takeY 6 (v := ?v6) rfl (by kernel_rfl) (by kernel_rfl) (by kernel_rfl) (fun _ _ _ h => h) (by rfl) ?y6 (by assumption) ?r6
  case y6 => (intro w' hSw; (try dsimp only at hSw); have h0 := hSw.cell 0 _ rfl; have h1 := hSw.cell 1 _ rfl; have h2 := hSw.cell 2 _ rfl; have h3 := hSw.cell 3 _ rfl; have h4 := hSw.cell 4 _ rfl; have h5 := hSw.cell 5 _ rfl; have h6 := hSw.cell 6 _ rfl; have h7 := hSw.cell 7 _ rfl; have h8 := hSw.cell 8 _ rfl; have h9 := hSw.cell 9 _ rfl; have h10 := hSw.cell 10 _ rfl; have h11 := hSw.cell 11 _ rfl; go_simp; (try with_reducible rfl))
  (try simp only [Act.put, List.setIfInBounds_toArray, List.set_cons_zero, List.set_cons_succ])
  refine takeY 7 (v := ?v7) rfl (by kernel_rfl) (by kernel_rfl) (by kernel_rfl) (fun _ _ _ h => h) (by rfl) ?y7 (by assumption) ?r7
  case y7 => (intro w' hSw; (try dsimp only at hSw); have h0 := hSw.cell 0 _ rfl; have h1 := hSw.cell 1 _ rfl; have h2 := hSw.cell 2 _ rfl; have h3 := hSw.cell 3 _ rfl; have h4 := hSw.cell 4 _ rfl; have h5 := hSw.cell 5 _ rfl; have h6 := hSw.cell 6 _ rfl; have h7 := hSw.cell 7 _ rfl; have h8 := hSw.cell 8 _ rfl; have h9 := hSw.cell 9 _ rfl; have h10 := hSw.cell 10 _ rfl; have h11 := hSw.cell 11 _ rfl; go_simp; (try with_reducible rfl))
  (try simp only [Act.put, List.setIfInBounds_toArray, List.set_cons_zero, List.set_cons_succ])
  refine readyC2 5 8 rfl rfl (by kernel_rfl) (by rfl) (by rfl) (fun K_ hK => ?_) (fun K_ hK => ?_)
  · go_simp
    have B1 : Below w1.heap.size w1 ((w1.alloc (.cells #[.int .i64 x.seq, .int .i64 x.deed.kind] 3)).drew) := ((Below.refl _ _).alloc (Nat.le_refl _) _).drew
    have o19 : Ow intE 3 ((w1.alloc (.cells #[.int .i64 x.seq, .int .i64 x.deed.kind] 3)).drew) w1.heap.size (.slice (some ⟨w1.heap.size, 0, none⟩) 2 2) [x.seq, x.deed.kind] := (Ow.ints w1 _ [x.seq, x.deed.kind] rfl rfl rfl (Nat.le_refl _) (by simp)).below (Below.refl _ _).drew
    generalize ((w1.alloc (.cells #[.int .i64 x.seq, .int .i64 x.deed.kind] 3)).drew) = w2 at *
    refine hK.out _ _ (X.below B1) (fun hHeld => ?_)
    clear hK K_
    (try simp only [Act.put, List.setIfInBounds_toArray, List.set_cons_zero, List.set_cons_succ])
    refine readyC 8 rfl (by kernel_rfl) (by rfl) (fun K_ hK => ?_)
    go_simp
    refine (CN.out w2 (bnext B0 B1)).mono ?_
    rintro e w3 ⟨v22, rfl, o22, b3⟩
    obtain ⟨A9, c9, rfl, -⟩ := id (Rd.of_own o22)
    have B2 := bnext B1 b3
    replace o19 := o19.below b3
    refine hK.out _ _ (X.below B2) (fun hHeld => ?_)
    clear hK K_
    (try simp only [Act.put, List.setIfInBounds_toArray, List.set_cons_zero, List.set_cons_succ])
    refine readyC 9 rfl (by kernel_rfl) (by rfl) (fun K_ hK => ?_)
    refine wp_append_rd _ intE (by decide) (.tmp 19) (.tmp 22) 124 rfl w1.heap.size 3 _ _ _ Try.underlying124 hi0 hz0 hz1 hz2 rfl _ [x.seq, x.deed.kind] rfl o19 _ _ _ _ (numbersOf x.deed) rfl (Rd.of_own o22) (by simp) (by omega) (by decide) B2.size ?_
    intro v23 w4 o23 g23 _
    have B4 : Below w1.heap.size w1 w4 := B2.grown g23 B2.size (fun g hg => (o19.within g hg).1)
    refine hK.out _ _ (X.below B4) (fun hHeld => ?_)
    clear hK K_ o19 o22
    (try simp only [Act.put, List.setIfInBounds_toArray, List.set_cons_zero, List.set_cons_succ])
    refine readyC 10 rfl (by kernel_rfl) (by rfl) (fun K_ hK => ?_)
    go_simp
    refine (implVars_any v23 (x.seq :: x.deed.kind :: numbersOf x.deed) w4 (by simp; omega) (Rd.of_own o23)).mono ?_
    rintro e w5 ⟨rfl, b5⟩
    have B5 := bnext B4 b5
    refine hK.out _ _ (X.below B5) (fun hHeld => ?_)
    clear hK K_
    (try simp only [Act.put, List.setIfInBounds_toArray, List.set_cons_zero, List.set_cons_succ])
    refine readyC 11 rfl (by kernel_rfl) (by rfl) (fun K_ hK => ?_)
    go_simp
    refine hK.out _ _ (X.below B5) (fun hHeld => ?_)
    clear hK K_
    (try simp only [Act.put, List.setIfInBounds_toArray, List.set_cons_zero, List.set_cons_succ])
    refine wpAnyH_done (by kernel_rfl) ?_ _
    refine NoPanic.normal ?_
    have B6 := bnext B0 B5
    clear B1 B2 B4 B5 b5 o23 g23 hHeld
    by_cases hle : (varsOf (x.seq :: x.deed.kind :: numbersOf x.deed)).length ≤ 400
    · have hI : ¬ (400 : Int) < ((varsOf (x.seq :: x.deed.kind :: numbersOf x.deed)).length : Int) := by omega
      have H := Lib.hid (show noteText x = varsOf (x.seq :: x.deed.kind :: numbersOf x.deed) by unfold noteText; rw [if_pos ⟨a0, a1, hle⟩])
      clear hle
      generalize varsOf (x.seq :: x.deed.kind :: numbersOf x.deed) = L at *
      go_wp2
      go_ret
      exact ⟨by rw [H.out]; rfl, B6⟩
    · have hI : (400 : Int) < ((varsOf (x.seq :: x.deed.kind :: numbersOf x.deed)).length : Int) := by omega
      have H := Lib.hid (show noteText x = [] by unfold noteText; rw [if_neg (by intro h; exact hle h.2.2)])
      clear hle
      generalize varsOf (x.seq :: x.deed.kind :: numbersOf x.deed) = L at *
      go_wp2
      go_ret
      exact ⟨by rw [H.out]; rfl, B6⟩
  · go_simp
    have B1 : Below w1.heap.size w1 w1.drew := (Below.refl _ _).drew
    generalize w1.drew = w2 at *
    refine (CN.out w2 (bnext B0 B1)).mono ?_
    rintro e w3 ⟨v22, rfl, o22, b3⟩
    obtain ⟨A9, c9, rfl, -⟩ := id (Rd.of_own o22)
    replace B1 := bnext B1 b3
    refine hK.out _ _ (X.below B1) (fun hHeld => ?_)
    clear hK K_
    (try simp only [Act.put, List.setIfInBounds_toArray, List.set_cons_zero, List.set_cons_succ])
    refine readyC 5 rfl (by kernel_rfl) (by rfl) (fun K_ hK => ?_)
    go_simp
    have b4 : Below w3.heap.size w3 (w3.alloc (.cells #[.int .i64 x.seq, .int .i64 x.deed.kind] 3)) := (Below.refl _ _).alloc (Nat.le_refl _) _
    have o19 : Ow intE 3 (w3.alloc (.cells #[.int .i64 x.seq, .int .i64 x.deed.kind] 3)) w1.heap.size (.slice (some ⟨w3.heap.size, 0, none⟩) 2 2) [x.seq, x.deed.kind] := Ow.ints w3 _ [x.seq, x.deed.kind] rfl rfl rfl B1.size (by simp)
    replace o22 := o22.below b4
    have B2 := bnext B1 b4
    generalize (w3.alloc (.cells #[.int .i64 x.seq, .int .i64 x.deed.kind] 3)) = w6 at *
    refine hK.out _ _ (X.below B2) (fun hHeld => ?_)
    clear hK K_
    (try simp only [Act.put, List.setIfInBounds_toArray, List.set_cons_zero, List.set_cons_succ])
    refine readyC 9 rfl (by kernel_rfl) (by rfl) (fun K_ hK => ?_)
    refine wp_append_rd _ intE (by decide) (.tmp 19) (.tmp 22) 124 rfl w1.heap.size 3 _ _ _ Try.underlying124 hi0 hz0 hz1 hz2 rfl _ [x.seq, x.deed.kind] rfl o19 _ _ _ _ (numbersOf x.deed) rfl (Rd.of_own o22) (by simp) (by omega) (by decide) B2.size ?_
    intro v23 w4 o23 g23 _
    have B4 : Below w1.heap.size w1 w4 := B2.grown g23 B2.size (fun g hg => (o19.within g hg).1)
    refine hK.out _ _ (X.below B4) (fun hHeld => ?_)
    clear hK K_ o19 o22
    (try simp only [Act.put, List.setIfInBounds_toArray, List.set_cons_zero, List.set_cons_succ])
    refine readyC 10 rfl (by kernel_rfl) (by rfl) (fun K_ hK => ?_)
    go_simp
    refine (implVars_any v23 (x.seq :: x.deed.kind :: numbersOf x.deed) w4 (by simp; omega) (Rd.of_own o23)).mono ?_
    rintro e w5 ⟨rfl, b5⟩
    have B5 := bnext B4 b5
    refine hK.out _ _ (X.below B5) (fun hHeld => ?_)
    clear hK K_
    (try simp only [Act.put, List.setIfInBounds_toArray, List.set_cons_zero, List.set_cons_succ])
    refine readyC 11 rfl (by kernel_rfl) (by rfl) (fun K_ hK => ?_)
    go_simp
    refine hK.out _ _ (X.below B5) (fun hHeld => ?_)
    clear hK K_
    (try simp only [Act.put, List.setIfInBounds_toArray, List.set_cons_zero, List.set_cons_succ])
    refine wpAnyH_done (by kernel_rfl) ?_ _
    refine NoPanic.normal ?_
    have B6 := bnext B0 B5
    clear B1 B2 B4 B5 b5 o23 g23 hHeld
    by_cases hle : (varsOf (x.seq :: x.deed.kind :: numbersOf x.deed)).length ≤ 400
    · have hI : ¬ (400 : Int) < ((varsOf (x.seq :: x.deed.kind :: numbersOf x.deed)).length : Int) := by omega
      have H := Lib.hid (show noteText x = varsOf (x.seq :: x.deed.kind :: numbersOf x.deed) by unfold noteText; rw [if_pos ⟨a0, a1, hle⟩])
      clear hle
      generalize varsOf (x.seq :: x.deed.kind :: numbersOf x.deed) = L at *
      go_wp2
      go_ret
      exact ⟨by rw [H.out]; rfl, B6⟩
    · have hI : (400 : Int) < ((varsOf (x.seq :: x.deed.kind :: numbersOf x.deed)).length : Int) := by omega
      have H := Lib.hid (show noteText x = [] by unfold noteText; rw [if_neg (by intro h; exact hle h.2.2)])
      clear hle
      generalize varsOf (x.seq :: x.deed.kind :: numbersOf x.deed) = L at *
      go_wp2
      go_ret
      exact ⟨by rw [H.out]; rfl, B6⟩
end Go.Proofs.Ytjobmbjadpldfaa
