/-
  NoteText of the reference. Written by program (vn.py).
-/
import Derived.Test.YtjobmbjadpldfaaVm
namespace Go.Proofs.Ytjobmbjadpldfaa
open Go.RowKit
set_option maxRecDepth 100000
set_option maxHeartbeats 2000000
set_option linter.unusedVariables false
set_option linter.unusedSimpArgs false

theorem specNote2 (x : Note) (s : Sl) (w : World) (hk : x.deed.kind = 2) (a0 : deedOk x.deed = true) (a1 : inB x.seq 1 1000000000 = true) (h : noteD.rd w w.heap.size x s) :
    Calls Try.prog 35 #[noteW x s] w (StrPost (noteText x) w) := by
  obtain ⟨i0, hi0, hz0, hz1, hz2⟩ := info_parts int_infoV
  have HR : Hid (∀ W, Below w.heap.size w W → deedD.rd W W.heap.size x.deed s) := fun W hW => noteD.rd_more (noteD.rd_below h hW) hW.size
  have CD := Lib.hid (fun W hW => specDeedOk_any x.deed s W (HR.out W hW))
  have LN := deedOk_len a0
  rw [a0] at CD
  have h0 : planD.rd w w.heap.size x.deed.plan s := h
  clear HR h
  obtain ⟨A, n, c⟩ := s
  obtain ⟨sq, kd, rn, p, tk, ty, wk, dr⟩ := x
  obtain rfl : n = p.edges.length := RdL.at1 (s := ⟨A, n, c⟩) h0
  have h2 := Lib.hid (show Rd edgeE w w.heap.size (.slice A p.edges.length c) p.edges from edge_rd h0)
  clear h0
  replace LN : p.edges.length ≤ 31 := LN
  obtain rfl : kd = 2 := hk
  replace a1 : inB sq 1 1000000000 = true := a1
  have HT : Hid (((varsOf ([sq, 2, wk, dr])).length ≤ 400 → noteText ⟨sq, 2, rn, p, tk, ty, wk, dr⟩ = varsOf ([sq, 2, wk, dr])) ∧ (¬ (varsOf ([sq, 2, wk, dr])).length ≤ 400 → noteText ⟨sq, 2, rn, p, tk, ty, wk, dr⟩ = [])) :=
    ⟨fun hle => (by unfold noteText; exact if_pos ⟨a0, a1, hle⟩), fun hle => (by unfold noteText; exact if_neg (fun h => hle h.2.2))⟩
  clear a0
  have X := (DBox.new 76 [.int .i64 sq, .int .i64 2, .int .i64 rn, .int .i64 p.prio, .int .i64 p.most, .int .i64 p.wait, .int .i64 p.tasks, .slice A p.edges.length c, .int .i64 tk, .int .i64 ty, .int .i64 wk, .int .i64 dr] w (b := w.heap.size) rfl).below ((Below.refl _ _).alloc (Nat.le_refl _) (.cells #[.int .i64 2, .int .i64 rn, .int .i64 p.prio, .int .i64 p.most, .int .i64 p.wait, .int .i64 p.tasks, .slice A p.edges.length c, .int .i64 tk, .int .i64 ty, .int .i64 wk, .int .i64 dr] 74))
  have Y := DBox.new 74 [.int .i64 2, .int .i64 rn, .int .i64 p.prio, .int .i64 p.most, .int .i64 p.wait, .int .i64 p.tasks, .slice A p.edges.length c, .int .i64 tk, .int .i64 ty, .int .i64 wk, .int .i64 dr] (w.alloc (.cells #[.int .i64 sq, .int .i64 2, .int .i64 rn, .int .i64 p.prio, .int .i64 p.most, .int .i64 p.wait, .int .i64 p.tasks, .slice A p.edges.length c, .int .i64 tk, .int .i64 ty, .int .i64 wk, .int .i64 dr] 76)) (b := w.heap.size + 1) (by simp)
  have B0 : Below w.heap.size w ((w.alloc (.cells #[.int .i64 sq, .int .i64 2, .int .i64 rn, .int .i64 p.prio, .int .i64 p.most, .int .i64 p.wait, .int .i64 p.tasks, .slice A p.edges.length c, .int .i64 tk, .int .i64 ty, .int .i64 wk, .int .i64 dr] 76)).alloc (.cells #[.int .i64 2, .int .i64 rn, .int .i64 p.prio, .int .i64 p.most, .int .i64 p.wait, .int .i64 p.tasks, .slice A p.edges.length c, .int .i64 tk, .int .i64 ty, .int .i64 wk, .int .i64 dr] 74)) := by repeat (first | exact Below.refl _ _ | refine Below.alloc ?_ (by simp <;> omega) _)
  go_enter Try.func35, Try.ntmps35
  go_wp2_with fail
  refine (CD.out _ B0).mono ?_
  rintro e w1 ⟨rfl, b1⟩
  replace B0 := bnext B0 b1
  replace X := X.below b1
  replace Y := Y.below b1
  have X_0 := X.cell 0 _ rfl
  have X_1 := X.cell 1 _ rfl
  have X_2 := X.cell 2 _ rfl
  have X_3 := X.cell 3 _ rfl
  have X_4 := X.cell 4 _ rfl
  have X_5 := X.cell 5 _ rfl
  have X_6 := X.cell 6 _ rfl
  have X_7 := X.cell 7 _ rfl
  have X_8 := X.cell 8 _ rfl
  have X_9 := X.cell 9 _ rfl
  have X_10 := X.cell 10 _ rfl
  have X_11 := X.cell 11 _ rfl
  have X_l := X.lt
  have Y_0 := Y.cell 0 _ rfl
  have Y_1 := Y.cell 1 _ rfl
  have Y_2 := Y.cell 2 _ rfl
  have Y_3 := Y.cell 3 _ rfl
  have Y_4 := Y.cell 4 _ rfl
  have Y_5 := Y.cell 5 _ rfl
  have Y_6 := Y.cell 6 _ rfl
  have Y_7 := Y.cell 7 _ rfl
  have Y_8 := Y.cell 8 _ rfl
  have Y_9 := Y.cell 9 _ rfl
  have Y_10 := Y.cell 10 _ rfl
  have Y_l := Y.lt
  clear b1 CD
  go_wp2_with (first | (go_at_call 56; refine (l01In_any _ _ _ _).mono ?_; rintro e w9 ⟨rfl, rfl⟩; rw [a1]) | (at_builtin; refine wpList_push_all _ intE (by decide) rfl (.tmp 75) (.tmp 80) rfl Try.underlying124 hi0 hz0 hz1 hz2 rfl (base := w1.heap.size) (v := .slice (some ⟨w1.heap.size, 0, none⟩) 2 2) (l := [sq, 2]) rfl ((Ow.ints w1 _ [sq, 2] rfl rfl rfl (Nat.le_refl _) (by simp)).below ((Below.refl _ _).alloc (Nat.le_refl _) _)) rfl (Rd.of_own (Ow.ints _ _ [wk, dr] rfl (by simp) (by simp) (Nat.le_refl _) (by simp))) (by simp <;> omega) (by simp) (by decide) (by simp <;> omega) ?_; intro v5 w5 o5 g5 _))
  have B5 : Below w1.heap.size w1 w5 := Below.grown (((Below.refl w1.heap.size w1).alloc (Nat.le_refl _) _).alloc (by simp <;> omega) _) g5 (by simp <;> omega) (fun g hg => Nat.le_of_eq (Option.some.inj hg))
  have B6 := bnext B0 B5
  refine (specVars_any v5 ([sq, 2, wk, dr]) w5 (by simp) (Rd.of_own o5)).mono ?_
  rintro e w6 ⟨rfl, b6⟩
  have B7 := bnext B6 b6
  clear o5 b6 g5 B5 B6
  by_cases hle : (varsOf ([sq, 2, wk, dr])).length ≤ 400
  · have hI : ¬ (400 : Int) < ((varsOf ([sq, 2, wk, dr])).length : Int) := by omega
    have H := Lib.hid (HT.out.1 hle)
    clear hle HT
    generalize varsOf ([sq, 2, wk, dr]) = LL at *
    go_wp2
    go_ret
    exact ⟨by rw [H.out]; rfl, B7⟩
  · have hI : (400 : Int) < ((varsOf ([sq, 2, wk, dr])).length : Int) := by omega
    have H := Lib.hid (HT.out.2 hle)
    clear hle HT
    generalize varsOf ([sq, 2, wk, dr]) = LL at *
    go_wp2
    go_ret
    exact ⟨by rw [H.out]; rfl, B7⟩

theorem specNote3 (x : Note) (s : Sl) (w : World) (hk : x.deed.kind = 3) (a0 : deedOk x.deed = true) (a1 : inB x.seq 1 1000000000 = true) (h : noteD.rd w w.heap.size x s) :
    Calls Try.prog 35 #[noteW x s] w (StrPost (noteText x) w) := by
  obtain ⟨i0, hi0, hz0, hz1, hz2⟩ := info_parts int_infoV
  have HR : Hid (∀ W, Below w.heap.size w W → deedD.rd W W.heap.size x.deed s) := fun W hW => noteD.rd_more (noteD.rd_below h hW) hW.size
  have CD := Lib.hid (fun W hW => specDeedOk_any x.deed s W (HR.out W hW))
  have LN := deedOk_len a0
  rw [a0] at CD
  have h0 : planD.rd w w.heap.size x.deed.plan s := h
  clear HR h
  obtain ⟨A, n, c⟩ := s
  obtain ⟨sq, kd, rn, p, tk, ty, wk, dr⟩ := x
  obtain rfl : n = p.edges.length := RdL.at1 (s := ⟨A, n, c⟩) h0
  have h2 := Lib.hid (show Rd edgeE w w.heap.size (.slice A p.edges.length c) p.edges from edge_rd h0)
  clear h0
  replace LN : p.edges.length ≤ 31 := LN
  obtain rfl : kd = 3 := hk
  replace a1 : inB sq 1 1000000000 = true := a1
  have HT : Hid (((varsOf ([sq, 3, rn, tk, ty])).length ≤ 400 → noteText ⟨sq, 3, rn, p, tk, ty, wk, dr⟩ = varsOf ([sq, 3, rn, tk, ty])) ∧ (¬ (varsOf ([sq, 3, rn, tk, ty])).length ≤ 400 → noteText ⟨sq, 3, rn, p, tk, ty, wk, dr⟩ = [])) :=
    ⟨fun hle => (by unfold noteText; exact if_pos ⟨a0, a1, hle⟩), fun hle => (by unfold noteText; exact if_neg (fun h => hle h.2.2))⟩
  clear a0
  have X := (DBox.new 76 [.int .i64 sq, .int .i64 3, .int .i64 rn, .int .i64 p.prio, .int .i64 p.most, .int .i64 p.wait, .int .i64 p.tasks, .slice A p.edges.length c, .int .i64 tk, .int .i64 ty, .int .i64 wk, .int .i64 dr] w (b := w.heap.size) rfl).below ((Below.refl _ _).alloc (Nat.le_refl _) (.cells #[.int .i64 3, .int .i64 rn, .int .i64 p.prio, .int .i64 p.most, .int .i64 p.wait, .int .i64 p.tasks, .slice A p.edges.length c, .int .i64 tk, .int .i64 ty, .int .i64 wk, .int .i64 dr] 74))
  have Y := DBox.new 74 [.int .i64 3, .int .i64 rn, .int .i64 p.prio, .int .i64 p.most, .int .i64 p.wait, .int .i64 p.tasks, .slice A p.edges.length c, .int .i64 tk, .int .i64 ty, .int .i64 wk, .int .i64 dr] (w.alloc (.cells #[.int .i64 sq, .int .i64 3, .int .i64 rn, .int .i64 p.prio, .int .i64 p.most, .int .i64 p.wait, .int .i64 p.tasks, .slice A p.edges.length c, .int .i64 tk, .int .i64 ty, .int .i64 wk, .int .i64 dr] 76)) (b := w.heap.size + 1) (by simp)
  have B0 : Below w.heap.size w ((w.alloc (.cells #[.int .i64 sq, .int .i64 3, .int .i64 rn, .int .i64 p.prio, .int .i64 p.most, .int .i64 p.wait, .int .i64 p.tasks, .slice A p.edges.length c, .int .i64 tk, .int .i64 ty, .int .i64 wk, .int .i64 dr] 76)).alloc (.cells #[.int .i64 3, .int .i64 rn, .int .i64 p.prio, .int .i64 p.most, .int .i64 p.wait, .int .i64 p.tasks, .slice A p.edges.length c, .int .i64 tk, .int .i64 ty, .int .i64 wk, .int .i64 dr] 74)) := by repeat (first | exact Below.refl _ _ | refine Below.alloc ?_ (by simp <;> omega) _)
  go_enter Try.func35, Try.ntmps35
  go_wp2_with fail
  refine (CD.out _ B0).mono ?_
  rintro e w1 ⟨rfl, b1⟩
  replace B0 := bnext B0 b1
  replace X := X.below b1
  replace Y := Y.below b1
  have X_0 := X.cell 0 _ rfl
  have X_1 := X.cell 1 _ rfl
  have X_2 := X.cell 2 _ rfl
  have X_3 := X.cell 3 _ rfl
  have X_4 := X.cell 4 _ rfl
  have X_5 := X.cell 5 _ rfl
  have X_6 := X.cell 6 _ rfl
  have X_7 := X.cell 7 _ rfl
  have X_8 := X.cell 8 _ rfl
  have X_9 := X.cell 9 _ rfl
  have X_10 := X.cell 10 _ rfl
  have X_11 := X.cell 11 _ rfl
  have X_l := X.lt
  have Y_0 := Y.cell 0 _ rfl
  have Y_1 := Y.cell 1 _ rfl
  have Y_2 := Y.cell 2 _ rfl
  have Y_3 := Y.cell 3 _ rfl
  have Y_4 := Y.cell 4 _ rfl
  have Y_5 := Y.cell 5 _ rfl
  have Y_6 := Y.cell 6 _ rfl
  have Y_7 := Y.cell 7 _ rfl
  have Y_8 := Y.cell 8 _ rfl
  have Y_9 := Y.cell 9 _ rfl
  have Y_10 := Y.cell 10 _ rfl
  have Y_l := Y.lt
  clear b1 CD
  go_wp2_with (first | (go_at_call 56; refine (l01In_any _ _ _ _).mono ?_; rintro e w9 ⟨rfl, rfl⟩; rw [a1]) | (at_builtin; refine wpList_push_all _ intE (by decide) rfl (.tmp 85) (.tmp 92) rfl Try.underlying124 hi0 hz0 hz1 hz2 rfl (base := w1.heap.size) (v := .slice (some ⟨w1.heap.size, 0, none⟩) 2 2) (l := [sq, 3]) rfl ((Ow.ints w1 _ [sq, 3] rfl rfl rfl (Nat.le_refl _) (by simp)).below ((Below.refl _ _).alloc (Nat.le_refl _) _)) rfl (Rd.of_own (Ow.ints _ _ [rn, tk, ty] rfl (by simp) (by simp) (Nat.le_refl _) (by simp))) (by simp <;> omega) (by simp) (by decide) (by simp <;> omega) ?_; intro v5 w5 o5 g5 _))
  have B5 : Below w1.heap.size w1 w5 := Below.grown (((Below.refl w1.heap.size w1).alloc (Nat.le_refl _) _).alloc (by simp <;> omega) _) g5 (by simp <;> omega) (fun g hg => Nat.le_of_eq (Option.some.inj hg))
  have B6 := bnext B0 B5
  refine (specVars_any v5 ([sq, 3, rn, tk, ty]) w5 (by simp) (Rd.of_own o5)).mono ?_
  rintro e w6 ⟨rfl, b6⟩
  have B7 := bnext B6 b6
  clear o5 b6 g5 B5 B6
  by_cases hle : (varsOf ([sq, 3, rn, tk, ty])).length ≤ 400
  · have hI : ¬ (400 : Int) < ((varsOf ([sq, 3, rn, tk, ty])).length : Int) := by omega
    have H := Lib.hid (HT.out.1 hle)
    clear hle HT
    generalize varsOf ([sq, 3, rn, tk, ty]) = LL at *
    go_wp2
    go_ret
    exact ⟨by rw [H.out]; rfl, B7⟩
  · have hI : (400 : Int) < ((varsOf ([sq, 3, rn, tk, ty])).length : Int) := by omega
    have H := Lib.hid (HT.out.2 hle)
    clear hle HT
    generalize varsOf ([sq, 3, rn, tk, ty]) = LL at *
    go_wp2
    go_ret
    exact ⟨by rw [H.out]; rfl, B7⟩

theorem specNote4 (x : Note) (s : Sl) (w : World) (hk : x.deed.kind = 4) (a0 : deedOk x.deed = true) (a1 : inB x.seq 1 1000000000 = true) (h : noteD.rd w w.heap.size x s) :
    Calls Try.prog 35 #[noteW x s] w (StrPost (noteText x) w) := by
  obtain ⟨i0, hi0, hz0, hz1, hz2⟩ := info_parts int_infoV
  have HR : Hid (∀ W, Below w.heap.size w W → deedD.rd W W.heap.size x.deed s) := fun W hW => noteD.rd_more (noteD.rd_below h hW) hW.size
  have CD := Lib.hid (fun W hW => specDeedOk_any x.deed s W (HR.out W hW))
  have LN := deedOk_len a0
  rw [a0] at CD
  have h0 : planD.rd w w.heap.size x.deed.plan s := h
  clear HR h
  obtain ⟨A, n, c⟩ := s
  obtain ⟨sq, kd, rn, p, tk, ty, wk, dr⟩ := x
  obtain rfl : n = p.edges.length := RdL.at1 (s := ⟨A, n, c⟩) h0
  have h2 := Lib.hid (show Rd edgeE w w.heap.size (.slice A p.edges.length c) p.edges from edge_rd h0)
  clear h0
  replace LN : p.edges.length ≤ 31 := LN
  obtain rfl : kd = 4 := hk
  replace a1 : inB sq 1 1000000000 = true := a1
  have HT : Hid (((varsOf ([sq, 4, rn, tk, ty])).length ≤ 400 → noteText ⟨sq, 4, rn, p, tk, ty, wk, dr⟩ = varsOf ([sq, 4, rn, tk, ty])) ∧ (¬ (varsOf ([sq, 4, rn, tk, ty])).length ≤ 400 → noteText ⟨sq, 4, rn, p, tk, ty, wk, dr⟩ = [])) :=
    ⟨fun hle => (by unfold noteText; exact if_pos ⟨a0, a1, hle⟩), fun hle => (by unfold noteText; exact if_neg (fun h => hle h.2.2))⟩
  clear a0
  have X := (DBox.new 76 [.int .i64 sq, .int .i64 4, .int .i64 rn, .int .i64 p.prio, .int .i64 p.most, .int .i64 p.wait, .int .i64 p.tasks, .slice A p.edges.length c, .int .i64 tk, .int .i64 ty, .int .i64 wk, .int .i64 dr] w (b := w.heap.size) rfl).below ((Below.refl _ _).alloc (Nat.le_refl _) (.cells #[.int .i64 4, .int .i64 rn, .int .i64 p.prio, .int .i64 p.most, .int .i64 p.wait, .int .i64 p.tasks, .slice A p.edges.length c, .int .i64 tk, .int .i64 ty, .int .i64 wk, .int .i64 dr] 74))
  have Y := DBox.new 74 [.int .i64 4, .int .i64 rn, .int .i64 p.prio, .int .i64 p.most, .int .i64 p.wait, .int .i64 p.tasks, .slice A p.edges.length c, .int .i64 tk, .int .i64 ty, .int .i64 wk, .int .i64 dr] (w.alloc (.cells #[.int .i64 sq, .int .i64 4, .int .i64 rn, .int .i64 p.prio, .int .i64 p.most, .int .i64 p.wait, .int .i64 p.tasks, .slice A p.edges.length c, .int .i64 tk, .int .i64 ty, .int .i64 wk, .int .i64 dr] 76)) (b := w.heap.size + 1) (by simp)
  have B0 : Below w.heap.size w ((w.alloc (.cells #[.int .i64 sq, .int .i64 4, .int .i64 rn, .int .i64 p.prio, .int .i64 p.most, .int .i64 p.wait, .int .i64 p.tasks, .slice A p.edges.length c, .int .i64 tk, .int .i64 ty, .int .i64 wk, .int .i64 dr] 76)).alloc (.cells #[.int .i64 4, .int .i64 rn, .int .i64 p.prio, .int .i64 p.most, .int .i64 p.wait, .int .i64 p.tasks, .slice A p.edges.length c, .int .i64 tk, .int .i64 ty, .int .i64 wk, .int .i64 dr] 74)) := by repeat (first | exact Below.refl _ _ | refine Below.alloc ?_ (by simp <;> omega) _)
  go_enter Try.func35, Try.ntmps35
  go_wp2_with fail
  refine (CD.out _ B0).mono ?_
  rintro e w1 ⟨rfl, b1⟩
  replace B0 := bnext B0 b1
  replace X := X.below b1
  replace Y := Y.below b1
  have X_0 := X.cell 0 _ rfl
  have X_1 := X.cell 1 _ rfl
  have X_2 := X.cell 2 _ rfl
  have X_3 := X.cell 3 _ rfl
  have X_4 := X.cell 4 _ rfl
  have X_5 := X.cell 5 _ rfl
  have X_6 := X.cell 6 _ rfl
  have X_7 := X.cell 7 _ rfl
  have X_8 := X.cell 8 _ rfl
  have X_9 := X.cell 9 _ rfl
  have X_10 := X.cell 10 _ rfl
  have X_11 := X.cell 11 _ rfl
  have X_l := X.lt
  have Y_0 := Y.cell 0 _ rfl
  have Y_1 := Y.cell 1 _ rfl
  have Y_2 := Y.cell 2 _ rfl
  have Y_3 := Y.cell 3 _ rfl
  have Y_4 := Y.cell 4 _ rfl
  have Y_5 := Y.cell 5 _ rfl
  have Y_6 := Y.cell 6 _ rfl
  have Y_7 := Y.cell 7 _ rfl
  have Y_8 := Y.cell 8 _ rfl
  have Y_9 := Y.cell 9 _ rfl
  have Y_10 := Y.cell 10 _ rfl
  have Y_l := Y.lt
  clear b1 CD
  go_wp2_with (first | (go_at_call 56; refine (l01In_any _ _ _ _).mono ?_; rintro e w9 ⟨rfl, rfl⟩; rw [a1]) | (at_builtin; refine wpList_push_all _ intE (by decide) rfl (.tmp 85) (.tmp 92) rfl Try.underlying124 hi0 hz0 hz1 hz2 rfl (base := w1.heap.size) (v := .slice (some ⟨w1.heap.size, 0, none⟩) 2 2) (l := [sq, 4]) rfl ((Ow.ints w1 _ [sq, 4] rfl rfl rfl (Nat.le_refl _) (by simp)).below ((Below.refl _ _).alloc (Nat.le_refl _) _)) rfl (Rd.of_own (Ow.ints _ _ [rn, tk, ty] rfl (by simp) (by simp) (Nat.le_refl _) (by simp))) (by simp <;> omega) (by simp) (by decide) (by simp <;> omega) ?_; intro v5 w5 o5 g5 _))
  have B5 : Below w1.heap.size w1 w5 := Below.grown (((Below.refl w1.heap.size w1).alloc (Nat.le_refl _) _).alloc (by simp <;> omega) _) g5 (by simp <;> omega) (fun g hg => Nat.le_of_eq (Option.some.inj hg))
  have B6 := bnext B0 B5
  refine (specVars_any v5 ([sq, 4, rn, tk, ty]) w5 (by simp) (Rd.of_own o5)).mono ?_
  rintro e w6 ⟨rfl, b6⟩
  have B7 := bnext B6 b6
  clear o5 b6 g5 B5 B6
  by_cases hle : (varsOf ([sq, 4, rn, tk, ty])).length ≤ 400
  · have hI : ¬ (400 : Int) < ((varsOf ([sq, 4, rn, tk, ty])).length : Int) := by omega
    have H := Lib.hid (HT.out.1 hle)
    clear hle HT
    generalize varsOf ([sq, 4, rn, tk, ty]) = LL at *
    go_wp2
    go_ret
    exact ⟨by rw [H.out]; rfl, B7⟩
  · have hI : (400 : Int) < ((varsOf ([sq, 4, rn, tk, ty])).length : Int) := by omega
    have H := Lib.hid (HT.out.2 hle)
    clear hle HT
    generalize varsOf ([sq, 4, rn, tk, ty]) = LL at *
    go_wp2
    go_ret
    exact ⟨by rw [H.out]; rfl, B7⟩

theorem specNote5 (x : Note) (s : Sl) (w : World) (hk : x.deed.kind = 5) (a0 : deedOk x.deed = true) (a1 : inB x.seq 1 1000000000 = true) (h : noteD.rd w w.heap.size x s) :
    Calls Try.prog 35 #[noteW x s] w (StrPost (noteText x) w) := by
  obtain ⟨i0, hi0, hz0, hz1, hz2⟩ := info_parts int_infoV
  have HR : Hid (∀ W, Below w.heap.size w W → deedD.rd W W.heap.size x.deed s) := fun W hW => noteD.rd_more (noteD.rd_below h hW) hW.size
  have CD := Lib.hid (fun W hW => specDeedOk_any x.deed s W (HR.out W hW))
  have LN := deedOk_len a0
  rw [a0] at CD
  have h0 : planD.rd w w.heap.size x.deed.plan s := h
  clear HR h
  obtain ⟨A, n, c⟩ := s
  obtain ⟨sq, kd, rn, p, tk, ty, wk, dr⟩ := x
  obtain rfl : n = p.edges.length := RdL.at1 (s := ⟨A, n, c⟩) h0
  have h2 := Lib.hid (show Rd edgeE w w.heap.size (.slice A p.edges.length c) p.edges from edge_rd h0)
  clear h0
  replace LN : p.edges.length ≤ 31 := LN
  obtain rfl : kd = 5 := hk
  replace a1 : inB sq 1 1000000000 = true := a1
  have HT : Hid (((varsOf ([sq, 5])).length ≤ 400 → noteText ⟨sq, 5, rn, p, tk, ty, wk, dr⟩ = varsOf ([sq, 5])) ∧ (¬ (varsOf ([sq, 5])).length ≤ 400 → noteText ⟨sq, 5, rn, p, tk, ty, wk, dr⟩ = [])) :=
    ⟨fun hle => (by unfold noteText; exact if_pos ⟨a0, a1, hle⟩), fun hle => (by unfold noteText; exact if_neg (fun h => hle h.2.2))⟩
  clear a0
  have X := (DBox.new 76 [.int .i64 sq, .int .i64 5, .int .i64 rn, .int .i64 p.prio, .int .i64 p.most, .int .i64 p.wait, .int .i64 p.tasks, .slice A p.edges.length c, .int .i64 tk, .int .i64 ty, .int .i64 wk, .int .i64 dr] w (b := w.heap.size) rfl).below ((Below.refl _ _).alloc (Nat.le_refl _) (.cells #[.int .i64 5, .int .i64 rn, .int .i64 p.prio, .int .i64 p.most, .int .i64 p.wait, .int .i64 p.tasks, .slice A p.edges.length c, .int .i64 tk, .int .i64 ty, .int .i64 wk, .int .i64 dr] 74))
  have Y := DBox.new 74 [.int .i64 5, .int .i64 rn, .int .i64 p.prio, .int .i64 p.most, .int .i64 p.wait, .int .i64 p.tasks, .slice A p.edges.length c, .int .i64 tk, .int .i64 ty, .int .i64 wk, .int .i64 dr] (w.alloc (.cells #[.int .i64 sq, .int .i64 5, .int .i64 rn, .int .i64 p.prio, .int .i64 p.most, .int .i64 p.wait, .int .i64 p.tasks, .slice A p.edges.length c, .int .i64 tk, .int .i64 ty, .int .i64 wk, .int .i64 dr] 76)) (b := w.heap.size + 1) (by simp)
  have B0 : Below w.heap.size w ((w.alloc (.cells #[.int .i64 sq, .int .i64 5, .int .i64 rn, .int .i64 p.prio, .int .i64 p.most, .int .i64 p.wait, .int .i64 p.tasks, .slice A p.edges.length c, .int .i64 tk, .int .i64 ty, .int .i64 wk, .int .i64 dr] 76)).alloc (.cells #[.int .i64 5, .int .i64 rn, .int .i64 p.prio, .int .i64 p.most, .int .i64 p.wait, .int .i64 p.tasks, .slice A p.edges.length c, .int .i64 tk, .int .i64 ty, .int .i64 wk, .int .i64 dr] 74)) := by repeat (first | exact Below.refl _ _ | refine Below.alloc ?_ (by simp <;> omega) _)
  go_enter Try.func35, Try.ntmps35
  go_wp2_with fail
  refine (CD.out _ B0).mono ?_
  rintro e w1 ⟨rfl, b1⟩
  replace B0 := bnext B0 b1
  replace X := X.below b1
  replace Y := Y.below b1
  have X_0 := X.cell 0 _ rfl
  have X_1 := X.cell 1 _ rfl
  have X_2 := X.cell 2 _ rfl
  have X_3 := X.cell 3 _ rfl
  have X_4 := X.cell 4 _ rfl
  have X_5 := X.cell 5 _ rfl
  have X_6 := X.cell 6 _ rfl
  have X_7 := X.cell 7 _ rfl
  have X_8 := X.cell 8 _ rfl
  have X_9 := X.cell 9 _ rfl
  have X_10 := X.cell 10 _ rfl
  have X_11 := X.cell 11 _ rfl
  have X_l := X.lt
  have Y_0 := Y.cell 0 _ rfl
  have Y_1 := Y.cell 1 _ rfl
  have Y_2 := Y.cell 2 _ rfl
  have Y_3 := Y.cell 3 _ rfl
  have Y_4 := Y.cell 4 _ rfl
  have Y_5 := Y.cell 5 _ rfl
  have Y_6 := Y.cell 6 _ rfl
  have Y_7 := Y.cell 7 _ rfl
  have Y_8 := Y.cell 8 _ rfl
  have Y_9 := Y.cell 9 _ rfl
  have Y_10 := Y.cell 10 _ rfl
  have Y_l := Y.lt
  clear b1 CD
  go_wp2_with (go_at_call 56; refine (l01In_any _ _ _ _).mono ?_; rintro e w9 ⟨rfl, rfl⟩; rw [a1])
  have o5 : Ow intE 3 (w1.alloc (.cells #[.int .i64 sq, .int .i64 5] 3)) w1.heap.size (.slice (some ⟨w1.heap.size, 0, none⟩) 2 2) [sq, 5] := Ow.ints w1 _ [sq, 5] rfl rfl rfl (Nat.le_refl _) (by simp)
  have B5 := bnext B0 ((Below.refl w1.heap.size w1).alloc (Nat.le_refl _) (.cells #[.int .i64 sq, .int .i64 5] 3))
  generalize (w1.alloc (.cells #[.int .i64 sq, .int .i64 5] 3)) = w5 at *
  refine (specVars_any _ ([sq, 5]) w5 (by simp) (Rd.of_own o5)).mono ?_
  rintro e w6 ⟨rfl, b6⟩
  have B6 := bnext B5 b6
  clear o5 b6
  by_cases hle : (varsOf ([sq, 5])).length ≤ 400
  · have hI : ¬ (400 : Int) < ((varsOf ([sq, 5])).length : Int) := by omega
    have H := Lib.hid (HT.out.1 hle)
    clear hle HT
    generalize varsOf ([sq, 5]) = LL at *
    go_wp2
    go_ret
    exact ⟨by rw [H.out]; rfl, B6⟩
  · have hI : (400 : Int) < ((varsOf ([sq, 5])).length : Int) := by omega
    have H := Lib.hid (HT.out.2 hle)
    clear hle HT
    generalize varsOf ([sq, 5]) = LL at *
    go_wp2
    go_ret
    exact ⟨by rw [H.out]; rfl, B6⟩

theorem specNote6 (x : Note) (s : Sl) (w : World) (hk : x.deed.kind = 6) (a0 : deedOk x.deed = true) (a1 : inB x.seq 1 1000000000 = true) (h : noteD.rd w w.heap.size x s) :
    Calls Try.prog 35 #[noteW x s] w (StrPost (noteText x) w) := by
  obtain ⟨i0, hi0, hz0, hz1, hz2⟩ := info_parts int_infoV
  have HR : Hid (∀ W, Below w.heap.size w W → deedD.rd W W.heap.size x.deed s) := fun W hW => noteD.rd_more (noteD.rd_below h hW) hW.size
  have CD := Lib.hid (fun W hW => specDeedOk_any x.deed s W (HR.out W hW))
  have LN := deedOk_len a0
  rw [a0] at CD
  have h0 : planD.rd w w.heap.size x.deed.plan s := h
  clear HR h
  obtain ⟨A, n, c⟩ := s
  obtain ⟨sq, kd, rn, p, tk, ty, wk, dr⟩ := x
  obtain rfl : n = p.edges.length := RdL.at1 (s := ⟨A, n, c⟩) h0
  have h2 := Lib.hid (show Rd edgeE w w.heap.size (.slice A p.edges.length c) p.edges from edge_rd h0)
  clear h0
  replace LN : p.edges.length ≤ 31 := LN
  obtain rfl : kd = 6 := hk
  replace a1 : inB sq 1 1000000000 = true := a1
  have HT : Hid (((varsOf ([sq, 6, rn])).length ≤ 400 → noteText ⟨sq, 6, rn, p, tk, ty, wk, dr⟩ = varsOf ([sq, 6, rn])) ∧ (¬ (varsOf ([sq, 6, rn])).length ≤ 400 → noteText ⟨sq, 6, rn, p, tk, ty, wk, dr⟩ = [])) :=
    ⟨fun hle => (by unfold noteText; exact if_pos ⟨a0, a1, hle⟩), fun hle => (by unfold noteText; exact if_neg (fun h => hle h.2.2))⟩
  clear a0
  have X := (DBox.new 76 [.int .i64 sq, .int .i64 6, .int .i64 rn, .int .i64 p.prio, .int .i64 p.most, .int .i64 p.wait, .int .i64 p.tasks, .slice A p.edges.length c, .int .i64 tk, .int .i64 ty, .int .i64 wk, .int .i64 dr] w (b := w.heap.size) rfl).below ((Below.refl _ _).alloc (Nat.le_refl _) (.cells #[.int .i64 6, .int .i64 rn, .int .i64 p.prio, .int .i64 p.most, .int .i64 p.wait, .int .i64 p.tasks, .slice A p.edges.length c, .int .i64 tk, .int .i64 ty, .int .i64 wk, .int .i64 dr] 74))
  have Y := DBox.new 74 [.int .i64 6, .int .i64 rn, .int .i64 p.prio, .int .i64 p.most, .int .i64 p.wait, .int .i64 p.tasks, .slice A p.edges.length c, .int .i64 tk, .int .i64 ty, .int .i64 wk, .int .i64 dr] (w.alloc (.cells #[.int .i64 sq, .int .i64 6, .int .i64 rn, .int .i64 p.prio, .int .i64 p.most, .int .i64 p.wait, .int .i64 p.tasks, .slice A p.edges.length c, .int .i64 tk, .int .i64 ty, .int .i64 wk, .int .i64 dr] 76)) (b := w.heap.size + 1) (by simp)
  have B0 : Below w.heap.size w ((w.alloc (.cells #[.int .i64 sq, .int .i64 6, .int .i64 rn, .int .i64 p.prio, .int .i64 p.most, .int .i64 p.wait, .int .i64 p.tasks, .slice A p.edges.length c, .int .i64 tk, .int .i64 ty, .int .i64 wk, .int .i64 dr] 76)).alloc (.cells #[.int .i64 6, .int .i64 rn, .int .i64 p.prio, .int .i64 p.most, .int .i64 p.wait, .int .i64 p.tasks, .slice A p.edges.length c, .int .i64 tk, .int .i64 ty, .int .i64 wk, .int .i64 dr] 74)) := by repeat (first | exact Below.refl _ _ | refine Below.alloc ?_ (by simp <;> omega) _)
  go_enter Try.func35, Try.ntmps35
  go_wp2_with fail
  refine (CD.out _ B0).mono ?_
  rintro e w1 ⟨rfl, b1⟩
  replace B0 := bnext B0 b1
  replace X := X.below b1
  replace Y := Y.below b1
  have X_0 := X.cell 0 _ rfl
  have X_1 := X.cell 1 _ rfl
  have X_2 := X.cell 2 _ rfl
  have X_3 := X.cell 3 _ rfl
  have X_4 := X.cell 4 _ rfl
  have X_5 := X.cell 5 _ rfl
  have X_6 := X.cell 6 _ rfl
  have X_7 := X.cell 7 _ rfl
  have X_8 := X.cell 8 _ rfl
  have X_9 := X.cell 9 _ rfl
  have X_10 := X.cell 10 _ rfl
  have X_11 := X.cell 11 _ rfl
  have X_l := X.lt
  have Y_0 := Y.cell 0 _ rfl
  have Y_1 := Y.cell 1 _ rfl
  have Y_2 := Y.cell 2 _ rfl
  have Y_3 := Y.cell 3 _ rfl
  have Y_4 := Y.cell 4 _ rfl
  have Y_5 := Y.cell 5 _ rfl
  have Y_6 := Y.cell 6 _ rfl
  have Y_7 := Y.cell 7 _ rfl
  have Y_8 := Y.cell 8 _ rfl
  have Y_9 := Y.cell 9 _ rfl
  have Y_10 := Y.cell 10 _ rfl
  have Y_l := Y.lt
  clear b1 CD
  go_wp2_with (first | (go_at_call 56; refine (l01In_any _ _ _ _).mono ?_; rintro e w9 ⟨rfl, rfl⟩; rw [a1]) | (at_builtin; refine wpList_push_all _ intE (by decide) rfl (.tmp 97) (.tmp 100) rfl Try.underlying124 hi0 hz0 hz1 hz2 rfl (base := w1.heap.size) (v := .slice (some ⟨w1.heap.size, 0, none⟩) 2 2) (l := [sq, 6]) rfl ((Ow.ints w1 _ [sq, 6] rfl rfl rfl (Nat.le_refl _) (by simp)).below ((Below.refl _ _).alloc (Nat.le_refl _) _)) rfl (Rd.of_own (Ow.ints _ _ [rn] rfl (by simp) (by simp) (Nat.le_refl _) (by simp))) (by simp <;> omega) (by simp) (by decide) (by simp <;> omega) ?_; intro v5 w5 o5 g5 _))
  have B5 : Below w1.heap.size w1 w5 := Below.grown (((Below.refl w1.heap.size w1).alloc (Nat.le_refl _) _).alloc (by simp <;> omega) _) g5 (by simp <;> omega) (fun g hg => Nat.le_of_eq (Option.some.inj hg))
  have B6 := bnext B0 B5
  refine (specVars_any v5 ([sq, 6, rn]) w5 (by simp) (Rd.of_own o5)).mono ?_
  rintro e w6 ⟨rfl, b6⟩
  have B7 := bnext B6 b6
  clear o5 b6 g5 B5 B6
  by_cases hle : (varsOf ([sq, 6, rn])).length ≤ 400
  · have hI : ¬ (400 : Int) < ((varsOf ([sq, 6, rn])).length : Int) := by omega
    have H := Lib.hid (HT.out.1 hle)
    clear hle HT
    generalize varsOf ([sq, 6, rn]) = LL at *
    go_wp2
    go_ret
    exact ⟨by rw [H.out]; rfl, B7⟩
  · have hI : (400 : Int) < ((varsOf ([sq, 6, rn])).length : Int) := by omega
    have H := Lib.hid (HT.out.2 hle)
    clear hle HT
    generalize varsOf ([sq, 6, rn]) = LL at *
    go_wp2
    go_ret
    exact ⟨by rw [H.out]; rfl, B7⟩

theorem specNote7 (x : Note) (s : Sl) (w : World) (hk : x.deed.kind = 7) (a0 : deedOk x.deed = true) (a1 : inB x.seq 1 1000000000 = true) (h : noteD.rd w w.heap.size x s) :
    Calls Try.prog 35 #[noteW x s] w (StrPost (noteText x) w) := by
  obtain ⟨i0, hi0, hz0, hz1, hz2⟩ := info_parts int_infoV
  have HR : Hid (∀ W, Below w.heap.size w W → deedD.rd W W.heap.size x.deed s) := fun W hW => noteD.rd_more (noteD.rd_below h hW) hW.size
  have CD := Lib.hid (fun W hW => specDeedOk_any x.deed s W (HR.out W hW))
  have LN := deedOk_len a0
  rw [a0] at CD
  have h0 : planD.rd w w.heap.size x.deed.plan s := h
  clear HR h
  obtain ⟨A, n, c⟩ := s
  obtain ⟨sq, kd, rn, p, tk, ty, wk, dr⟩ := x
  obtain rfl : n = p.edges.length := RdL.at1 (s := ⟨A, n, c⟩) h0
  have h2 := Lib.hid (show Rd edgeE w w.heap.size (.slice A p.edges.length c) p.edges from edge_rd h0)
  clear h0
  replace LN : p.edges.length ≤ 31 := LN
  obtain rfl : kd = 7 := hk
  replace a1 : inB sq 1 1000000000 = true := a1
  have HT : Hid (((varsOf ([sq, 7, rn])).length ≤ 400 → noteText ⟨sq, 7, rn, p, tk, ty, wk, dr⟩ = varsOf ([sq, 7, rn])) ∧ (¬ (varsOf ([sq, 7, rn])).length ≤ 400 → noteText ⟨sq, 7, rn, p, tk, ty, wk, dr⟩ = [])) :=
    ⟨fun hle => (by unfold noteText; exact if_pos ⟨a0, a1, hle⟩), fun hle => (by unfold noteText; exact if_neg (fun h => hle h.2.2))⟩
  clear a0
  have X := (DBox.new 76 [.int .i64 sq, .int .i64 7, .int .i64 rn, .int .i64 p.prio, .int .i64 p.most, .int .i64 p.wait, .int .i64 p.tasks, .slice A p.edges.length c, .int .i64 tk, .int .i64 ty, .int .i64 wk, .int .i64 dr] w (b := w.heap.size) rfl).below ((Below.refl _ _).alloc (Nat.le_refl _) (.cells #[.int .i64 7, .int .i64 rn, .int .i64 p.prio, .int .i64 p.most, .int .i64 p.wait, .int .i64 p.tasks, .slice A p.edges.length c, .int .i64 tk, .int .i64 ty, .int .i64 wk, .int .i64 dr] 74))
  have Y := DBox.new 74 [.int .i64 7, .int .i64 rn, .int .i64 p.prio, .int .i64 p.most, .int .i64 p.wait, .int .i64 p.tasks, .slice A p.edges.length c, .int .i64 tk, .int .i64 ty, .int .i64 wk, .int .i64 dr] (w.alloc (.cells #[.int .i64 sq, .int .i64 7, .int .i64 rn, .int .i64 p.prio, .int .i64 p.most, .int .i64 p.wait, .int .i64 p.tasks, .slice A p.edges.length c, .int .i64 tk, .int .i64 ty, .int .i64 wk, .int .i64 dr] 76)) (b := w.heap.size + 1) (by simp)
  have B0 : Below w.heap.size w ((w.alloc (.cells #[.int .i64 sq, .int .i64 7, .int .i64 rn, .int .i64 p.prio, .int .i64 p.most, .int .i64 p.wait, .int .i64 p.tasks, .slice A p.edges.length c, .int .i64 tk, .int .i64 ty, .int .i64 wk, .int .i64 dr] 76)).alloc (.cells #[.int .i64 7, .int .i64 rn, .int .i64 p.prio, .int .i64 p.most, .int .i64 p.wait, .int .i64 p.tasks, .slice A p.edges.length c, .int .i64 tk, .int .i64 ty, .int .i64 wk, .int .i64 dr] 74)) := by repeat (first | exact Below.refl _ _ | refine Below.alloc ?_ (by simp <;> omega) _)
  go_enter Try.func35, Try.ntmps35
  go_wp2_with fail
  refine (CD.out _ B0).mono ?_
  rintro e w1 ⟨rfl, b1⟩
  replace B0 := bnext B0 b1
  replace X := X.below b1
  replace Y := Y.below b1
  have X_0 := X.cell 0 _ rfl
  have X_1 := X.cell 1 _ rfl
  have X_2 := X.cell 2 _ rfl
  have X_3 := X.cell 3 _ rfl
  have X_4 := X.cell 4 _ rfl
  have X_5 := X.cell 5 _ rfl
  have X_6 := X.cell 6 _ rfl
  have X_7 := X.cell 7 _ rfl
  have X_8 := X.cell 8 _ rfl
  have X_9 := X.cell 9 _ rfl
  have X_10 := X.cell 10 _ rfl
  have X_11 := X.cell 11 _ rfl
  have X_l := X.lt
  have Y_0 := Y.cell 0 _ rfl
  have Y_1 := Y.cell 1 _ rfl
  have Y_2 := Y.cell 2 _ rfl
  have Y_3 := Y.cell 3 _ rfl
  have Y_4 := Y.cell 4 _ rfl
  have Y_5 := Y.cell 5 _ rfl
  have Y_6 := Y.cell 6 _ rfl
  have Y_7 := Y.cell 7 _ rfl
  have Y_8 := Y.cell 8 _ rfl
  have Y_9 := Y.cell 9 _ rfl
  have Y_10 := Y.cell 10 _ rfl
  have Y_l := Y.lt
  clear b1 CD
  go_wp2_with (first | (go_at_call 56; refine (l01In_any _ _ _ _).mono ?_; rintro e w9 ⟨rfl, rfl⟩; rw [a1]) | (at_builtin; refine wpList_push_all _ intE (by decide) rfl (.tmp 97) (.tmp 100) rfl Try.underlying124 hi0 hz0 hz1 hz2 rfl (base := w1.heap.size) (v := .slice (some ⟨w1.heap.size, 0, none⟩) 2 2) (l := [sq, 7]) rfl ((Ow.ints w1 _ [sq, 7] rfl rfl rfl (Nat.le_refl _) (by simp)).below ((Below.refl _ _).alloc (Nat.le_refl _) _)) rfl (Rd.of_own (Ow.ints _ _ [rn] rfl (by simp) (by simp) (Nat.le_refl _) (by simp))) (by simp <;> omega) (by simp) (by decide) (by simp <;> omega) ?_; intro v5 w5 o5 g5 _))
  have B5 : Below w1.heap.size w1 w5 := Below.grown (((Below.refl w1.heap.size w1).alloc (Nat.le_refl _) _).alloc (by simp <;> omega) _) g5 (by simp <;> omega) (fun g hg => Nat.le_of_eq (Option.some.inj hg))
  have B6 := bnext B0 B5
  refine (specVars_any v5 ([sq, 7, rn]) w5 (by simp) (Rd.of_own o5)).mono ?_
  rintro e w6 ⟨rfl, b6⟩
  have B7 := bnext B6 b6
  clear o5 b6 g5 B5 B6
  by_cases hle : (varsOf ([sq, 7, rn])).length ≤ 400
  · have hI : ¬ (400 : Int) < ((varsOf ([sq, 7, rn])).length : Int) := by omega
    have H := Lib.hid (HT.out.1 hle)
    clear hle HT
    generalize varsOf ([sq, 7, rn]) = LL at *
    go_wp2
    go_ret
    exact ⟨by rw [H.out]; rfl, B7⟩
  · have hI : (400 : Int) < ((varsOf ([sq, 7, rn])).length : Int) := by omega
    have H := Lib.hid (HT.out.2 hle)
    clear hle HT
    generalize varsOf ([sq, 7, rn]) = LL at *
    go_wp2
    go_ret
    exact ⟨by rw [H.out]; rfl, B7⟩

theorem specNote8 (x : Note) (s : Sl) (w : World) (hk : x.deed.kind = 8) (a0 : deedOk x.deed = true) (a1 : inB x.seq 1 1000000000 = true) (h : noteD.rd w w.heap.size x s) :
    Calls Try.prog 35 #[noteW x s] w (StrPost (noteText x) w) := by
  obtain ⟨i0, hi0, hz0, hz1, hz2⟩ := info_parts int_infoV
  have HR : Hid (∀ W, Below w.heap.size w W → deedD.rd W W.heap.size x.deed s) := fun W hW => noteD.rd_more (noteD.rd_below h hW) hW.size
  have CD := Lib.hid (fun W hW => specDeedOk_any x.deed s W (HR.out W hW))
  have LN := deedOk_len a0
  rw [a0] at CD
  have h0 : planD.rd w w.heap.size x.deed.plan s := h
  clear HR h
  obtain ⟨A, n, c⟩ := s
  obtain ⟨sq, kd, rn, p, tk, ty, wk, dr⟩ := x
  obtain rfl : n = p.edges.length := RdL.at1 (s := ⟨A, n, c⟩) h0
  have h2 := Lib.hid (show Rd edgeE w w.heap.size (.slice A p.edges.length c) p.edges from edge_rd h0)
  clear h0
  replace LN : p.edges.length ≤ 31 := LN
  obtain rfl : kd = 8 := hk
  replace a1 : inB sq 1 1000000000 = true := a1
  have HT : Hid (((varsOf ([sq, 8])).length ≤ 400 → noteText ⟨sq, 8, rn, p, tk, ty, wk, dr⟩ = varsOf ([sq, 8])) ∧ (¬ (varsOf ([sq, 8])).length ≤ 400 → noteText ⟨sq, 8, rn, p, tk, ty, wk, dr⟩ = [])) :=
    ⟨fun hle => (by unfold noteText; exact if_pos ⟨a0, a1, hle⟩), fun hle => (by unfold noteText; exact if_neg (fun h => hle h.2.2))⟩
  clear a0
  have X := (DBox.new 76 [.int .i64 sq, .int .i64 8, .int .i64 rn, .int .i64 p.prio, .int .i64 p.most, .int .i64 p.wait, .int .i64 p.tasks, .slice A p.edges.length c, .int .i64 tk, .int .i64 ty, .int .i64 wk, .int .i64 dr] w (b := w.heap.size) rfl).below ((Below.refl _ _).alloc (Nat.le_refl _) (.cells #[.int .i64 8, .int .i64 rn, .int .i64 p.prio, .int .i64 p.most, .int .i64 p.wait, .int .i64 p.tasks, .slice A p.edges.length c, .int .i64 tk, .int .i64 ty, .int .i64 wk, .int .i64 dr] 74))
  have Y := DBox.new 74 [.int .i64 8, .int .i64 rn, .int .i64 p.prio, .int .i64 p.most, .int .i64 p.wait, .int .i64 p.tasks, .slice A p.edges.length c, .int .i64 tk, .int .i64 ty, .int .i64 wk, .int .i64 dr] (w.alloc (.cells #[.int .i64 sq, .int .i64 8, .int .i64 rn, .int .i64 p.prio, .int .i64 p.most, .int .i64 p.wait, .int .i64 p.tasks, .slice A p.edges.length c, .int .i64 tk, .int .i64 ty, .int .i64 wk, .int .i64 dr] 76)) (b := w.heap.size + 1) (by simp)
  have B0 : Below w.heap.size w ((w.alloc (.cells #[.int .i64 sq, .int .i64 8, .int .i64 rn, .int .i64 p.prio, .int .i64 p.most, .int .i64 p.wait, .int .i64 p.tasks, .slice A p.edges.length c, .int .i64 tk, .int .i64 ty, .int .i64 wk, .int .i64 dr] 76)).alloc (.cells #[.int .i64 8, .int .i64 rn, .int .i64 p.prio, .int .i64 p.most, .int .i64 p.wait, .int .i64 p.tasks, .slice A p.edges.length c, .int .i64 tk, .int .i64 ty, .int .i64 wk, .int .i64 dr] 74)) := by repeat (first | exact Below.refl _ _ | refine Below.alloc ?_ (by simp <;> omega) _)
  go_enter Try.func35, Try.ntmps35
  go_wp2_with fail
  refine (CD.out _ B0).mono ?_
  rintro e w1 ⟨rfl, b1⟩
  replace B0 := bnext B0 b1
  replace X := X.below b1
  replace Y := Y.below b1
  have X_0 := X.cell 0 _ rfl
  have X_1 := X.cell 1 _ rfl
  have X_2 := X.cell 2 _ rfl
  have X_3 := X.cell 3 _ rfl
  have X_4 := X.cell 4 _ rfl
  have X_5 := X.cell 5 _ rfl
  have X_6 := X.cell 6 _ rfl
  have X_7 := X.cell 7 _ rfl
  have X_8 := X.cell 8 _ rfl
  have X_9 := X.cell 9 _ rfl
  have X_10 := X.cell 10 _ rfl
  have X_11 := X.cell 11 _ rfl
  have X_l := X.lt
  have Y_0 := Y.cell 0 _ rfl
  have Y_1 := Y.cell 1 _ rfl
  have Y_2 := Y.cell 2 _ rfl
  have Y_3 := Y.cell 3 _ rfl
  have Y_4 := Y.cell 4 _ rfl
  have Y_5 := Y.cell 5 _ rfl
  have Y_6 := Y.cell 6 _ rfl
  have Y_7 := Y.cell 7 _ rfl
  have Y_8 := Y.cell 8 _ rfl
  have Y_9 := Y.cell 9 _ rfl
  have Y_10 := Y.cell 10 _ rfl
  have Y_l := Y.lt
  clear b1 CD
  go_wp2_with (go_at_call 56; refine (l01In_any _ _ _ _).mono ?_; rintro e w9 ⟨rfl, rfl⟩; rw [a1])
  have o5 : Ow intE 3 (w1.alloc (.cells #[.int .i64 sq, .int .i64 8] 3)) w1.heap.size (.slice (some ⟨w1.heap.size, 0, none⟩) 2 2) [sq, 8] := Ow.ints w1 _ [sq, 8] rfl rfl rfl (Nat.le_refl _) (by simp)
  have B5 := bnext B0 ((Below.refl w1.heap.size w1).alloc (Nat.le_refl _) (.cells #[.int .i64 sq, .int .i64 8] 3))
  generalize (w1.alloc (.cells #[.int .i64 sq, .int .i64 8] 3)) = w5 at *
  refine (specVars_any _ ([sq, 8]) w5 (by simp) (Rd.of_own o5)).mono ?_
  rintro e w6 ⟨rfl, b6⟩
  have B6 := bnext B5 b6
  clear o5 b6
  by_cases hle : (varsOf ([sq, 8])).length ≤ 400
  · have hI : ¬ (400 : Int) < ((varsOf ([sq, 8])).length : Int) := by omega
    have H := Lib.hid (HT.out.1 hle)
    clear hle HT
    generalize varsOf ([sq, 8]) = LL at *
    go_wp2
    go_ret
    exact ⟨by rw [H.out]; rfl, B6⟩
  · have hI : (400 : Int) < ((varsOf ([sq, 8])).length : Int) := by omega
    have H := Lib.hid (HT.out.2 hle)
    clear hle HT
    generalize varsOf ([sq, 8]) = LL at *
    go_wp2
    go_ret
    exact ⟨by rw [H.out]; rfl, B6⟩

theorem specNote1 (x : Note) (s : Sl) (w : World) (hk : x.deed.kind = 1) (a0 : deedOk x.deed = true) (a1 : inB x.seq 1 1000000000 = true) (h : noteD.rd w w.heap.size x s) :
    Calls Try.prog 35 #[noteW x s] w (StrPost (noteText x) w) := by
  obtain ⟨i0, hi0, hz0, hz1, hz2⟩ := info_parts int_infoV
  have HR : Hid (∀ W, Below w.heap.size w W → deedD.rd W W.heap.size x.deed s) := fun W hW => noteD.rd_more (noteD.rd_below h hW) hW.size
  have CD := Lib.hid (fun W hW => specDeedOk_any x.deed s W (HR.out W hW))
  have LN := deedOk_len a0
  rw [a0] at CD
  have h0 : planD.rd w w.heap.size x.deed.plan s := h
  clear HR h
  obtain ⟨A, n, c⟩ := s
  obtain ⟨sq, kd, rn, p, tk, ty, wk, dr⟩ := x
  obtain rfl : n = p.edges.length := RdL.at1 (s := ⟨A, n, c⟩) h0
  have h2 := Lib.hid (show Rd edgeE w w.heap.size (.slice A p.edges.length c) p.edges from edge_rd h0)
  clear h0
  replace LN : p.edges.length ≤ 31 := LN
  obtain rfl : kd = 1 := hk
  replace a1 : inB sq 1 1000000000 = true := a1
  have HT : Hid (((varsOf ([sq, 1, rn, p.prio, p.most, p.wait, p.tasks, (p.edges.length : Int)] ++ edgeNums p.edges)).length ≤ 400 → noteText ⟨sq, 1, rn, p, tk, ty, wk, dr⟩ = varsOf ([sq, 1, rn, p.prio, p.most, p.wait, p.tasks, (p.edges.length : Int)] ++ edgeNums p.edges)) ∧ (¬ (varsOf ([sq, 1, rn, p.prio, p.most, p.wait, p.tasks, (p.edges.length : Int)] ++ edgeNums p.edges)).length ≤ 400 → noteText ⟨sq, 1, rn, p, tk, ty, wk, dr⟩ = [])) :=
    ⟨fun hle => (by unfold noteText; exact if_pos ⟨a0, a1, hle⟩), fun hle => (by unfold noteText; exact if_neg (fun h => hle h.2.2))⟩
  clear a0
  have X := (DBox.new 76 [.int .i64 sq, .int .i64 1, .int .i64 rn, .int .i64 p.prio, .int .i64 p.most, .int .i64 p.wait, .int .i64 p.tasks, .slice A p.edges.length c, .int .i64 tk, .int .i64 ty, .int .i64 wk, .int .i64 dr] w (b := w.heap.size) rfl).below ((Below.refl _ _).alloc (Nat.le_refl _) (.cells #[.int .i64 1, .int .i64 rn, .int .i64 p.prio, .int .i64 p.most, .int .i64 p.wait, .int .i64 p.tasks, .slice A p.edges.length c, .int .i64 tk, .int .i64 ty, .int .i64 wk, .int .i64 dr] 74))
  have Y := DBox.new 74 [.int .i64 1, .int .i64 rn, .int .i64 p.prio, .int .i64 p.most, .int .i64 p.wait, .int .i64 p.tasks, .slice A p.edges.length c, .int .i64 tk, .int .i64 ty, .int .i64 wk, .int .i64 dr] (w.alloc (.cells #[.int .i64 sq, .int .i64 1, .int .i64 rn, .int .i64 p.prio, .int .i64 p.most, .int .i64 p.wait, .int .i64 p.tasks, .slice A p.edges.length c, .int .i64 tk, .int .i64 ty, .int .i64 wk, .int .i64 dr] 76)) (b := w.heap.size + 1) (by simp)
  have B0 : Below w.heap.size w ((w.alloc (.cells #[.int .i64 sq, .int .i64 1, .int .i64 rn, .int .i64 p.prio, .int .i64 p.most, .int .i64 p.wait, .int .i64 p.tasks, .slice A p.edges.length c, .int .i64 tk, .int .i64 ty, .int .i64 wk, .int .i64 dr] 76)).alloc (.cells #[.int .i64 1, .int .i64 rn, .int .i64 p.prio, .int .i64 p.most, .int .i64 p.wait, .int .i64 p.tasks, .slice A p.edges.length c, .int .i64 tk, .int .i64 ty, .int .i64 wk, .int .i64 dr] 74)) := by repeat (first | exact Below.refl _ _ | refine Below.alloc ?_ (by simp <;> omega) _)
  go_enter Try.func35, Try.ntmps35
  go_wp2_with fail
  refine (CD.out _ B0).mono ?_
  rintro e w1 ⟨rfl, b1⟩
  replace B0 := bnext B0 b1
  replace X := X.below b1
  replace Y := Y.below b1
  have X_0 := X.cell 0 _ rfl
  have X_1 := X.cell 1 _ rfl
  have X_2 := X.cell 2 _ rfl
  have X_3 := X.cell 3 _ rfl
  have X_4 := X.cell 4 _ rfl
  have X_5 := X.cell 5 _ rfl
  have X_6 := X.cell 6 _ rfl
  have X_7 := X.cell 7 _ rfl
  have X_8 := X.cell 8 _ rfl
  have X_9 := X.cell 9 _ rfl
  have X_10 := X.cell 10 _ rfl
  have X_11 := X.cell 11 _ rfl
  have X_l := X.lt
  have Y_0 := Y.cell 0 _ rfl
  have Y_1 := Y.cell 1 _ rfl
  have Y_2 := Y.cell 2 _ rfl
  have Y_3 := Y.cell 3 _ rfl
  have Y_4 := Y.cell 4 _ rfl
  have Y_5 := Y.cell 5 _ rfl
  have Y_6 := Y.cell 6 _ rfl
  have Y_7 := Y.cell 7 _ rfl
  have Y_8 := Y.cell 8 _ rfl
  have Y_9 := Y.cell 9 _ rfl
  have Y_10 := Y.cell 10 _ rfl
  have Y_l := Y.lt
  clear b1 CD
  go_wp2_with (first | (go_at_call 56; refine (l01In_any _ _ _ _).mono ?_; rintro e w9 ⟨rfl, rfl⟩; rw [a1]) | (at_builtin; refine wpList_push_all _ intE (by decide) rfl (.tmp 27) (.tmp 46) rfl Try.underlying124 hi0 hz0 hz1 hz2 rfl (base := w1.heap.size) (v := .slice (some ⟨w1.heap.size, 0, none⟩) 2 2) (l := [sq, 1]) rfl ((Ow.ints w1 _ [sq, 1] rfl rfl rfl (Nat.le_refl _) (by simp)).below ((Below.refl _ _).alloc (Nat.le_refl _) _)) rfl (Rd.of_own (Ow.ints _ _ [rn, p.prio, p.most, p.wait, p.tasks, (p.edges.length : Int)] rfl (by simp) (by simp) (Nat.le_refl _) (by simp))) (by simp <;> omega) (by simp) (by decide) (by simp <;> omega) ?_; intro v5 w5 o5 g5 _))
  have B5 : Below w1.heap.size w1 w5 := Below.grown (((Below.refl w1.heap.size w1).alloc (Nat.le_refl _) _).alloc (by simp <;> omega) _) g5 (by simp <;> omega) (fun g hg => Nat.le_of_eq (Option.some.inj hg))
  replace o5 : Ow intE 3 w5 w1.heap.size v5 ([sq, 1, rn, p.prio, p.most, p.wait, p.tasks, (p.edges.length : Int)] ++ edgeNums (p.edges.take 0)) := o5
  clear X_0 X_1 X_2 X_3 X_4 X_5 X_6 X_7 X_8 X_9 X_10 X_11 X_l
  clear Y_0 Y_1 Y_2 Y_3 Y_4 Y_5 Y_6 Y_7 Y_8 Y_9 Y_10 Y_l
  clear X g5
  have Y1 := Lib.hid Y
  go_loopw [4, 5] (fun vl i wr => ∃ (k : Nat) (v : Value), v = vl ∧ k ≤ p.edges.length ∧ i = .int .i64 k ∧ Hid (Ow intE 3 wr w1.heap.size v ([sq, 1, rn, p.prio, p.most, p.wait, p.tasks, (p.edges.length : Int)] ++ edgeNums (p.edges.take k))) ∧ Below w1.heap.size w1 wr) (fun _ i _ => p.edges.length - (intOf i).toNat)
  case atStart => exact ⟨0, _, rfl, Nat.zero_le _, rfl, o5, B5⟩
  case round =>
    clear B5 o5
    obtain ⟨k, v, rfl, hk, rfl, hO, hb⟩ := hrel
    replace Y := Y.below hb
    have Y_0 := Y.cell 0 _ rfl
    have Y_1 := Y.cell 1 _ rfl
    have Y_2 := Y.cell 2 _ rfl
    have Y_3 := Y.cell 3 _ rfl
    have Y_4 := Y.cell 4 _ rfl
    have Y_5 := Y.cell 5 _ rfl
    have Y_6 := Y.cell 6 _ rfl
    have Y_7 := Y.cell 7 _ rfl
    have Y_8 := Y.cell 8 _ rfl
    have Y_9 := Y.cell 9 _ rfl
    have Y_10 := Y.cell 10 _ rfl
    have Y_l := Y.lt
    by_cases hlt : k < p.edges.length
    · have hltI : (k : Int) < (p.edges.length : Int) := by omega
      obtain ⟨b, o, rfl, hbb, d0, d1⟩ := (h2.out.below (bnext B0 hb)).edge hlt
      have HTk := Lib.hid (edgeNums_take p.edges k hlt)
      have HL := edgeNums_len (p.edges.take k)
      rw [List.length_take] at HL
      generalize p.edges[k].fr = fx at *
      generalize p.edges[k].to = tx at *
      generalize edgeNums (p.edges.take k) = L at *
      have hk0 : (0 : Int) ≤ (k : Int) := by omega
      go_wp2
      clear Y_0 Y_1 Y_2 Y_3 Y_4 Y_5 Y_6 Y_7 Y_8 Y_9 Y_10 Y_l
      have hs := hb.size
      have hs0 := B0.size
      have hbw : b < wr.heap.size := by omega
      refine Go.wp_region_noPanic ?_
      refine wp_region_held_drew (S := fun w' => DBox (w.heap.size + 1) [.int .i64 1, .int .i64 rn, .int .i64 p.prio, .int .i64 p.most, .int .i64 p.wait, .int .i64 p.tasks, .slice (some ⟨b, o, none⟩) p.edges.length c, .int .i64 tk, .int .i64 ty, .int .i64 wk, .int .i64 dr] w' ∧ w'.cell? ⟨b, o + k * 2, none⟩ = some (.int .i64 fx) ∧ w'.cell? ⟨b, o + k * 2 + 1, none⟩ = some (.int .i64 tx)) (by kernel_rfl) ⟨Y.drew, d0, d1⟩ (fun hHeld => ?_)
      refine takeY 0 (v := ?v0) rfl (by kernel_rfl) (by kernel_rfl) (by kernel_rfl) (fun _ _ _ h => h) (by rfl) ?y0 (by assumption) ?r0
      case y0 => (intro w' hSw; (try dsimp only at hSw); have h0 := hSw.1.cell 0 _ rfl; have h1 := hSw.1.cell 1 _ rfl; have h2 := hSw.1.cell 2 _ rfl; have h3 := hSw.1.cell 3 _ rfl; have h4 := hSw.1.cell 4 _ rfl; have h5 := hSw.1.cell 5 _ rfl; have h6 := hSw.1.cell 6 _ rfl; have h7 := hSw.1.cell 7 _ rfl; have h8 := hSw.1.cell 8 _ rfl; have h9 := hSw.1.cell 9 _ rfl; have h10 := hSw.1.cell 10 _ rfl; have g0 := hSw.2.1; have g1 := hSw.2.2; go_simp; (try with_reducible rfl))
      (try simp only [Act.put, List.setIfInBounds_toArray, List.set_cons_zero, List.set_cons_succ])
      refine takeY 1 (v := ?v1) rfl (by kernel_rfl) (by kernel_rfl) (by kernel_rfl) (fun _ _ _ h => h) (by rfl) ?y1 (by assumption) ?r1
      case y1 => (intro w' hSw; (try dsimp only at hSw); have h0 := hSw.1.cell 0 _ rfl; have h1 := hSw.1.cell 1 _ rfl; have h2 := hSw.1.cell 2 _ rfl; have h3 := hSw.1.cell 3 _ rfl; have h4 := hSw.1.cell 4 _ rfl; have h5 := hSw.1.cell 5 _ rfl; have h6 := hSw.1.cell 6 _ rfl; have h7 := hSw.1.cell 7 _ rfl; have h8 := hSw.1.cell 8 _ rfl; have h9 := hSw.1.cell 9 _ rfl; have h10 := hSw.1.cell 10 _ rfl; have g0 := hSw.2.1; have g1 := hSw.2.2; go_simp; (try with_reducible rfl))
      (try simp only [Act.put, List.setIfInBounds_toArray, List.set_cons_zero, List.set_cons_succ])
      refine takeY 2 (v := ?v2) rfl (by kernel_rfl) (by kernel_rfl) (by kernel_rfl) (fun _ _ _ h => h) (by rfl) ?y2 (by assumption) ?r2
      case y2 => (intro w' hSw; (try dsimp only at hSw); have h0 := hSw.1.cell 0 _ rfl; have h1 := hSw.1.cell 1 _ rfl; have h2 := hSw.1.cell 2 _ rfl; have h3 := hSw.1.cell 3 _ rfl; have h4 := hSw.1.cell 4 _ rfl; have h5 := hSw.1.cell 5 _ rfl; have h6 := hSw.1.cell 6 _ rfl; have h7 := hSw.1.cell 7 _ rfl; have h8 := hSw.1.cell 8 _ rfl; have h9 := hSw.1.cell 9 _ rfl; have h10 := hSw.1.cell 10 _ rfl; have g0 := hSw.2.1; have g1 := hSw.2.2; go_simp; (try with_reducible rfl))
      (try simp only [Act.put, List.setIfInBounds_toArray, List.set_cons_zero, List.set_cons_succ])
      refine takeY 3 (v := ?v3) rfl (by kernel_rfl) (by kernel_rfl) (by kernel_rfl) (fun _ _ _ h => h) (by rfl) ?y3 (by assumption) ?r3
      case y3 => (intro w' hSw; (try dsimp only at hSw); have h0 := hSw.1.cell 0 _ rfl; have h1 := hSw.1.cell 1 _ rfl; have h2 := hSw.1.cell 2 _ rfl; have h3 := hSw.1.cell 3 _ rfl; have h4 := hSw.1.cell 4 _ rfl; have h5 := hSw.1.cell 5 _ rfl; have h6 := hSw.1.cell 6 _ rfl; have h7 := hSw.1.cell 7 _ rfl; have h8 := hSw.1.cell 8 _ rfl; have h9 := hSw.1.cell 9 _ rfl; have h10 := hSw.1.cell 10 _ rfl; have g0 := hSw.2.1; have g1 := hSw.2.2; go_simp; (try with_reducible rfl))
      (try simp only [Act.put, List.setIfInBounds_toArray, List.set_cons_zero, List.set_cons_succ])
      refine takeY 4 (v := ?v4) rfl (by kernel_rfl) (by kernel_rfl) (by kernel_rfl) (fun _ _ _ h => h) (by rfl) ?y4 (by assumption) ?r4
      case y4 => (intro w' hSw; (try dsimp only at hSw); have h0 := hSw.1.cell 0 _ rfl; have h1 := hSw.1.cell 1 _ rfl; have h2 := hSw.1.cell 2 _ rfl; have h3 := hSw.1.cell 3 _ rfl; have h4 := hSw.1.cell 4 _ rfl; have h5 := hSw.1.cell 5 _ rfl; have h6 := hSw.1.cell 6 _ rfl; have h7 := hSw.1.cell 7 _ rfl; have h8 := hSw.1.cell 8 _ rfl; have h9 := hSw.1.cell 9 _ rfl; have h10 := hSw.1.cell 10 _ rfl; have g0 := hSw.2.1; have g1 := hSw.2.2; go_simp; (try with_reducible rfl))
      (try simp only [Act.put, List.setIfInBounds_toArray, List.set_cons_zero, List.set_cons_succ])
      refine takeY 5 (v := ?v5) rfl (by kernel_rfl) (by kernel_rfl) (by kernel_rfl) (fun _ _ _ h => h) (by rfl) ?y5 (by assumption) ?r5
      case y5 => (intro w' hSw; (try dsimp only at hSw); have h0 := hSw.1.cell 0 _ rfl; have h1 := hSw.1.cell 1 _ rfl; have h2 := hSw.1.cell 2 _ rfl; have h3 := hSw.1.cell 3 _ rfl; have h4 := hSw.1.cell 4 _ rfl; have h5 := hSw.1.cell 5 _ rfl; have h6 := hSw.1.cell 6 _ rfl; have h7 := hSw.1.cell 7 _ rfl; have h8 := hSw.1.cell 8 _ rfl; have h9 := hSw.1.cell 9 _ rfl; have h10 := hSw.1.cell 10 _ rfl; have g0 := hSw.2.1; have g1 := hSw.2.2; go_simp; (try with_reducible rfl))
      (try simp only [Act.put, List.setIfInBounds_toArray, List.set_cons_zero, List.set_cons_succ])
      refine takeY 6 (v := ?v6) rfl (by kernel_rfl) (by kernel_rfl) (by kernel_rfl) (fun _ _ _ h => h) (by rfl) ?y6 (by assumption) ?r6
      case y6 => (intro w' hSw; (try dsimp only at hSw); have h0 := hSw.1.cell 0 _ rfl; have h1 := hSw.1.cell 1 _ rfl; have h2 := hSw.1.cell 2 _ rfl; have h3 := hSw.1.cell 3 _ rfl; have h4 := hSw.1.cell 4 _ rfl; have h5 := hSw.1.cell 5 _ rfl; have h6 := hSw.1.cell 6 _ rfl; have h7 := hSw.1.cell 7 _ rfl; have h8 := hSw.1.cell 8 _ rfl; have h9 := hSw.1.cell 9 _ rfl; have h10 := hSw.1.cell 10 _ rfl; have g0 := hSw.2.1; have g1 := hSw.2.2; go_simp; (try with_reducible rfl))
      (try simp only [Act.put, List.setIfInBounds_toArray, List.set_cons_zero, List.set_cons_succ])
      refine takeY 7 (v := ?v7) rfl (by kernel_rfl) (by kernel_rfl) (by kernel_rfl) (fun _ _ _ h => h) (by rfl) ?y7 (by assumption) ?r7
      case y7 => (intro w' hSw; (try dsimp only at hSw); have h0 := hSw.1.cell 0 _ rfl; have h1 := hSw.1.cell 1 _ rfl; have h2 := hSw.1.cell 2 _ rfl; have h3 := hSw.1.cell 3 _ rfl; have h4 := hSw.1.cell 4 _ rfl; have h5 := hSw.1.cell 5 _ rfl; have h6 := hSw.1.cell 6 _ rfl; have h7 := hSw.1.cell 7 _ rfl; have h8 := hSw.1.cell 8 _ rfl; have h9 := hSw.1.cell 9 _ rfl; have h10 := hSw.1.cell 10 _ rfl; have g0 := hSw.2.1; have g1 := hSw.2.2; go_simp; (try with_reducible rfl))
      (try simp only [Act.put, List.setIfInBounds_toArray, List.set_cons_zero, List.set_cons_succ])
      refine takeY 8 (v := ?v8) rfl (by kernel_rfl) (by kernel_rfl) (by kernel_rfl) (fun _ _ _ h => h) (by rfl) ?y8 (by assumption) ?r8
      case y8 => (intro w' hSw; (try dsimp only at hSw); have h0 := hSw.1.cell 0 _ rfl; have h1 := hSw.1.cell 1 _ rfl; have h2 := hSw.1.cell 2 _ rfl; have h3 := hSw.1.cell 3 _ rfl; have h4 := hSw.1.cell 4 _ rfl; have h5 := hSw.1.cell 5 _ rfl; have h6 := hSw.1.cell 6 _ rfl; have h7 := hSw.1.cell 7 _ rfl; have h8 := hSw.1.cell 8 _ rfl; have h9 := hSw.1.cell 9 _ rfl; have h10 := hSw.1.cell 10 _ rfl; have g0 := hSw.2.1; have g1 := hSw.2.2; go_simp; (try with_reducible rfl))
      (try simp only [Act.put, List.setIfInBounds_toArray, List.set_cons_zero, List.set_cons_succ])
      refine takeY 9 (v := ?v9) rfl (by kernel_rfl) (by kernel_rfl) (by kernel_rfl) (fun _ _ _ h => h) (by rfl) ?y9 (by assumption) ?r9
      case y9 => (intro w' hSw; (try dsimp only at hSw); have h0 := hSw.1.cell 0 _ rfl; have h1 := hSw.1.cell 1 _ rfl; have h2 := hSw.1.cell 2 _ rfl; have h3 := hSw.1.cell 3 _ rfl; have h4 := hSw.1.cell 4 _ rfl; have h5 := hSw.1.cell 5 _ rfl; have h6 := hSw.1.cell 6 _ rfl; have h7 := hSw.1.cell 7 _ rfl; have h8 := hSw.1.cell 8 _ rfl; have h9 := hSw.1.cell 9 _ rfl; have h10 := hSw.1.cell 10 _ rfl; have g0 := hSw.2.1; have g1 := hSw.2.2; go_simp; (try with_reducible rfl))
      (try simp only [Act.put, List.setIfInBounds_toArray, List.set_cons_zero, List.set_cons_succ])
      refine takeY 10 (v := ?v10) rfl (by kernel_rfl) (by kernel_rfl) (by kernel_rfl) (fun _ _ _ h => h) (by rfl) ?y10 (by assumption) ?r10
      case y10 => (intro w' hSw; (try dsimp only at hSw); have h0 := hSw.1.cell 0 _ rfl; have h1 := hSw.1.cell 1 _ rfl; have h2 := hSw.1.cell 2 _ rfl; have h3 := hSw.1.cell 3 _ rfl; have h4 := hSw.1.cell 4 _ rfl; have h5 := hSw.1.cell 5 _ rfl; have h6 := hSw.1.cell 6 _ rfl; have h7 := hSw.1.cell 7 _ rfl; have h8 := hSw.1.cell 8 _ rfl; have h9 := hSw.1.cell 9 _ rfl; have h10 := hSw.1.cell 10 _ rfl; have g0 := hSw.2.1; have g1 := hSw.2.2; go_simp; (try with_reducible rfl))
      (try simp only [Act.put, List.setIfInBounds_toArray, List.set_cons_zero, List.set_cons_succ])
      refine takeY 11 (v := ?v11) rfl (by kernel_rfl) (by kernel_rfl) (by kernel_rfl) (fun _ _ _ h => h) (by rfl) ?y11 (by assumption) ?r11
      case y11 => (intro w' hSw; (try dsimp only at hSw); have h0 := hSw.1.cell 0 _ rfl; have h1 := hSw.1.cell 1 _ rfl; have h2 := hSw.1.cell 2 _ rfl; have h3 := hSw.1.cell 3 _ rfl; have h4 := hSw.1.cell 4 _ rfl; have h5 := hSw.1.cell 5 _ rfl; have h6 := hSw.1.cell 6 _ rfl; have h7 := hSw.1.cell 7 _ rfl; have h8 := hSw.1.cell 8 _ rfl; have h9 := hSw.1.cell 9 _ rfl; have h10 := hSw.1.cell 10 _ rfl; have g0 := hSw.2.1; have g1 := hSw.2.2; go_simp; (try with_reducible rfl))
      (try simp only [Act.put, List.setIfInBounds_toArray, List.set_cons_zero, List.set_cons_succ])
      refine takeY 12 (v := ?v12) rfl (by kernel_rfl) (by kernel_rfl) (by kernel_rfl) (fun _ _ _ h => h) (by rfl) ?y12 (by assumption) ?r12
      case y12 => (intro w' hSw; (try dsimp only at hSw); have h0 := hSw.1.cell 0 _ rfl; have h1 := hSw.1.cell 1 _ rfl; have h2 := hSw.1.cell 2 _ rfl; have h3 := hSw.1.cell 3 _ rfl; have h4 := hSw.1.cell 4 _ rfl; have h5 := hSw.1.cell 5 _ rfl; have h6 := hSw.1.cell 6 _ rfl; have h7 := hSw.1.cell 7 _ rfl; have h8 := hSw.1.cell 8 _ rfl; have h9 := hSw.1.cell 9 _ rfl; have h10 := hSw.1.cell 10 _ rfl; have g0 := hSw.2.1; have g1 := hSw.2.2; go_simp; (try with_reducible rfl))
      (try simp only [Act.put, List.setIfInBounds_toArray, List.set_cons_zero, List.set_cons_succ])
      refine takeY 13 (v := ?v13) rfl (by kernel_rfl) (by kernel_rfl) (by kernel_rfl) (fun _ _ _ h => h) (by rfl) ?y13 (by assumption) ?r13
      case y13 => (intro w' hSw; (try dsimp only at hSw); have h0 := hSw.1.cell 0 _ rfl; have h1 := hSw.1.cell 1 _ rfl; have h2 := hSw.1.cell 2 _ rfl; have h3 := hSw.1.cell 3 _ rfl; have h4 := hSw.1.cell 4 _ rfl; have h5 := hSw.1.cell 5 _ rfl; have h6 := hSw.1.cell 6 _ rfl; have h7 := hSw.1.cell 7 _ rfl; have h8 := hSw.1.cell 8 _ rfl; have h9 := hSw.1.cell 9 _ rfl; have h10 := hSw.1.cell 10 _ rfl; have g0 := hSw.2.1; have g1 := hSw.2.2; go_simp; (try with_reducible rfl))
      (try simp only [Act.put, List.setIfInBounds_toArray, List.set_cons_zero, List.set_cons_succ])
      refine takeY 14 (v := ?v14) rfl (by kernel_rfl) (by kernel_rfl) (by kernel_rfl) (fun _ _ _ h => h) (by rfl) ?y14 (by assumption) ?r14
      case y14 => (intro w' hSw; (try dsimp only at hSw); have h0 := hSw.1.cell 0 _ rfl; have h1 := hSw.1.cell 1 _ rfl; have h2 := hSw.1.cell 2 _ rfl; have h3 := hSw.1.cell 3 _ rfl; have h4 := hSw.1.cell 4 _ rfl; have h5 := hSw.1.cell 5 _ rfl; have h6 := hSw.1.cell 6 _ rfl; have h7 := hSw.1.cell 7 _ rfl; have h8 := hSw.1.cell 8 _ rfl; have h9 := hSw.1.cell 9 _ rfl; have h10 := hSw.1.cell 10 _ rfl; have g0 := hSw.2.1; have g1 := hSw.2.2; go_simp; (try with_reducible rfl))
      (try simp only [Act.put, List.setIfInBounds_toArray, List.set_cons_zero, List.set_cons_succ])
      refine readyC 15 rfl (by kernel_rfl) (by rfl) (fun K_ hK => ?_)
      go_simp
      have b1 : Below wr.heap.size wr ((wr.alloc (.cells #[.int .i64 fx, .int .i64 tx] 3)).drew) := ((Below.refl _ _).alloc (Nat.le_refl _) _).drew
      have o71 : Ow intE 3 ((wr.alloc (.cells #[.int .i64 fx, .int .i64 tx] 3)).drew) wr.heap.size (.slice (some ⟨wr.heap.size, 0, none⟩) 2 2) [fx, tx] := (Ow.ints wr _ [fx, tx] rfl rfl rfl (Nat.le_refl _) (by simp)).below (Below.refl _ _).drew
      have HO := hO.out.below b1
      generalize ((wr.alloc (.cells #[.int .i64 fx, .int .i64 tx] 3)).drew) = w2 at *
      refine hK.out _ _ ⟨Y.below b1, (b1.cell (p := ⟨b, _, none⟩) hbw).trans d0, (b1.cell (p := ⟨b, _, none⟩) hbw).trans d1⟩ (fun hHeld => ?_)
      clear hK K_
      (try simp only [Act.put, List.setIfInBounds_toArray, List.set_cons_zero, List.set_cons_succ])
      refine readyC 16 rfl (by kernel_rfl) (by rfl) (fun K_ hK => ?_)
      have hbd := bnext hb b1
      refine wp_append_rd _ intE (by decide) (.tmp 56) (.tmp 71) 124 rfl w1.heap.size 3 _ _ _ Try.underlying124 hi0 hz0 hz1 hz2 rfl v ([sq, 1, rn, p.prio, p.most, p.wait, p.tasks, (p.edges.length : Int)] ++ L) rfl HO _ _ _ _ [fx, tx] rfl (Rd.of_own o71) (by simp; omega) (by simp) (by decide) hbd.size ?_
      intro v5 w5 o5 g5 _
      have W5 : Below w1.heap.size w1 w5 := Below.grown hbd g5 hbd.size (fun g hg => (HO.within g hg).1)
      have b5 : Below w.heap.size w w5 := bnext B0 W5
      have hwr := bnext B0 hb
      refine hK.out _ _ ⟨Y1.out.below W5, (b5.cell (p := ⟨b, _, none⟩) hbb).trans ((hwr.cell (p := ⟨b, _, none⟩) hbb).symm.trans d0), (b5.cell (p := ⟨b, _, none⟩) hbb).trans ((hwr.cell (p := ⟨b, _, none⟩) hbb).symm.trans d1)⟩ (fun hHeld => ?_)
      clear hK K_
      (try simp only [Act.put, List.setIfInBounds_toArray, List.set_cons_zero, List.set_cons_succ])
      refine readyC 17 rfl (by kernel_rfl) (by rfl) (fun K_ hK => ?_)
      go_simp
      refine hK.out _ _ hHeld (fun hHeld => ?_)
      clear hK K_ HO o71
      (try simp only [Act.put, List.setIfInBounds_toArray, List.set_cons_zero, List.set_cons_succ])
      refine wpAnyH_done (by kernel_rfl) ?_ _
      refine NoPanic.normal ?_
      clear hHeld
      go_wp2
      refine ⟨⟨k + 1, _, rfl, by omega, by go_num, ?_, W5⟩, by simp [intOf]; omega⟩
      rw [HTk.out, ← List.append_assoc]
      exact o5
    · have hltI : ¬ (k : Int) < (p.edges.length : Int) := by omega
      have HO := hO.out
      rw [List.take_of_length_le (by omega)] at HO
      have HL := edgeNums_len p.edges
      have HLF : ([sq, 1, rn, p.prio, p.most, p.wait, p.tasks, (p.edges.length : Int)] ++ edgeNums p.edges).length ≤ 500000 := by simp; omega
      clear hO HL
      generalize ([sq, 1, rn, p.prio, p.most, p.wait, p.tasks, (p.edges.length : Int)] ++ edgeNums p.edges) = F at *
      obtain ⟨A9, c9, rfl, -⟩ := id (Rd.of_own HO)
      go_wp2_with fail
      refine (specVars_any _ F wr HLF (Rd.of_own HO)).mono ?_
      rintro e w6 ⟨rfl, b6⟩
      have B7 := bnext (bnext B0 hb) b6
      clear b6 HO
      clear Y_0 Y_1 Y_2 Y_3 Y_4 Y_5 Y_6 Y_7 Y_8 Y_9 Y_10 Y_l
      clear Y
      by_cases hle : (varsOf F).length ≤ 400
      · have hI : ¬ (400 : Int) < ((varsOf (F)).length : Int) := by omega
        have H := Lib.hid (HT.out.1 hle)
        clear hle HT
        generalize varsOf (F) = LL at *
        go_wp2
        go_ret
        exact ⟨by rw [H.out]; rfl, B7⟩
      · have hI : (400 : Int) < ((varsOf (F)).length : Int) := by omega
        have H := Lib.hid (HT.out.2 hle)
        clear hle HT
        generalize varsOf (F) = LL at *
        go_wp2
        go_ret
        exact ⟨by rw [H.out]; rfl, B7⟩

end Go.Proofs.Ytjobmbjadpldfaa
