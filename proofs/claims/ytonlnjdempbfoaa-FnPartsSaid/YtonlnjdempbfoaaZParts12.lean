/-
  Do of the reference. Written by program (kzd.py). A deed is drawn (l16Deed). Written by program (kzg.py). A yard does not grow without bound by a deed. Plain. Deeds are drawn, and the yard behind them (l16Deeds).
-/
import Derived.Test.YtonlnjdempbfoaaZParts11
section
namespace Go.Proofs.Ytonlnjdempbfoaa
open Go.RowKit
set_option maxRecDepth 100000
set_option maxHeartbeats 4000000
set_option linter.unusedVariables false
set_option linter.unusedSimpArgs false
open Classical in
noncomputable def restC (y : Yard) : Int := if yardP y then 0 else 8
/-- a deed is done at a yard: what the yard is then, and the answer -/
noncomputable def doO (y : Yard) (d : Deed) : Yard × Reply :=
 if deedOk d = false then (y, ⟨5, 0, 0, 0⟩) else
 match d.kind with
 | 1 => (subY y d.run d.plan, ⟨subC y d.run d.plan, 0, 0, 0⟩)
 | 2 => pollR y d.worker d.draw
 | 3 => (compY y d.run d.task d.try_, ⟨askC y d.run d.task d.try_, 0, 0, 0⟩)
 | 4 => (failY y d.run d.task d.try_, ⟨askC y d.run d.task d.try_, 0, 0, 0⟩)
 | 5 => (tickY y, ⟨tickC y, 0, 0, 0⟩)
 | 6 => (cancY y d.run, ⟨cancC y d.run, 0, 0, 0⟩)
 | 7 => (forgY y d.run, ⟨forgC y d.run, 0, 0, 0⟩)
 | _ => (restY y, ⟨restC y, 0, 0, 0⟩)
theorem Do_res {b c : Nat} {w : World} {u0 u1 u2 u3 v0 v1 v2 v3 : Value} (X : DBox b [u0, u1, u2, u3] w) (Y : DBox c [v0, v1, v2, v3] w) {x0 x1 x2 x3 : Value} {rest : List Value} :
  (results Try.f38 (x0 :: x1 :: x2 :: x3 :: .pointer (some ⟨b, 0, none⟩) :: .pointer (some ⟨c, 0, none⟩) :: rest).toArray).run Try.prog w = .ok (.tuple #[.agg #[u0, u1, u2, u3], .agg #[v0, v1, v2, v3]]) w := by
 have c0 := X.cell 0 _ rfl
 have c1 := X.cell 1 _ rfl
 have c2 := X.cell 2 _ rfl
 have c3 := X.cell 3 _ rfl
 have d0 := Y.cell 0 _ rfl
 have d1 := Y.cell 1 _ rfl
 have d2 := Y.cell 2 _ rfl
 have d3 := Y.cell 3 _ rfl
 simp [results, Try.results38, go_sem, c0, c1, c2, c3, d0, d1, d2, d3]
theorem deedOk_kind {d : Deed} (h : deedOk d = true) : inB d.kind 1 8 = true := by
 unfold deedOk at h
 simp only [Bool.and_eq_true] at h
 exact h.1.1.1.1
theorem deedOk_draw {rn tk ty wk dr : Int} {p : Plan} (h : deedOk ⟨2, rn, p, tk, ty, wk, dr⟩ = true) : 0 ≤ dr ∧ dr ≤ 1000000000 := by
 unfold deedOk at h
 simp only [Bool.and_eq_true] at h
 have h2 := h.1.2
 simp at h2
 exact inB_iff.1 (show inB dr 0 1000000000 = true from h2.2)
theorem specDo_own (y : Yard) (s : Sl × Sl) (d : Deed) (sd : Sl) (w : World) (hl : cntYard y ≤ 2000000) (hp : d.plan.edges.length ≤ 2000000) (h : yardD.rd w w.heap.size y s) (hdr : deedD.rd w w.heap.size d sd) :
  Calls Try.prog 38 #[yardW y s, deedW d sd] w (RepPost (doO y d) w) := by
 obtain ⟨⟨A1, n1, c1⟩, ⟨A2, n2, c2⟩⟩ := s
 obtain ⟨A3, n3, c3⟩ := sd
 have hdp : planD.rd w w.heap.size d.plan ⟨A3, n3, c3⟩ := hdr
 obtain rfl : n3 = d.plan.edges.length := RdL.at1 (s := ⟨A3, n3, c3⟩) hdp
 have HR := Lib.hid (show ∀ W, Below w.heap.size w W → yardD.rd W W.heap.size y (⟨A1, n1, c1⟩, ⟨A2, n2, c2⟩) from fun W hW => yardD.rd_more (yardD.rd_below h hW) hW.size)
 have HP := Lib.hid (show ∀ W, Below w.heap.size w W → planD.rd W W.heap.size d.plan ⟨A3, d.plan.edges.length, c3⟩ from fun W hW => planD.rd_more (planD.rd_below hdp hW) hW.size)
 have CD := Lib.hid (fun W (hW : Below w.heap.size w W) => specDeedOk_any d ⟨A3, d.plan.edges.length, c3⟩ W (deedD.rd_more (deedD.rd_below hdr hW) hW.size))
 have CC := Lib.hid (fun W hW => specCopyYard_own y (⟨A1, n1, c1⟩, ⟨A2, n2, c2⟩) W hl (HR.out W hW))
 clear h hdr hdp
 obtain ⟨kd, rn, p, tk, ty, wk, dr⟩ := d
 replace hp : p.edges.length ≤ 2000000 := hp
 replace HP : Hid (∀ W, Below w.heap.size w W → planD.rd W W.heap.size p ⟨A3, p.edges.length, c3⟩) := HP
 have X := ((((DBox.new 61 [.int .i64 y.now, .int .i64 y.seq, .slice A1 n1 c1, .slice A2 n2 c2] w (b := w.heap.size) rfl).below ((Below.refl _ _).alloc (Nat.le_refl _) (.cells #[.int .i64 kd, .int .i64 rn, .int .i64 p.prio, .int .i64 p.most, .int .i64 p.wait, .int .i64 p.tasks, .slice A3 p.edges.length c3, .int .i64 tk, .int .i64 ty, .int .i64 wk, .int .i64 dr] 37))).below ((Below.refl _ _).alloc (Nat.le_refl _) (.cells #[.int .i64 0, .int .i64 0, .slice none 0 0, .slice none 0 0] 61))).below ((Below.refl _ _).alloc (Nat.le_refl _) (.cells #[.int .i64 0, .int .i64 0, .int .i64 0, .int .i64 0] 73))).below ((Below.refl _ _).alloc (Nat.le_refl _) (.cells #[.int .i64 0, .int .i64 0, .slice none 0 0, .slice none 0 0] 61))
 have D := (((DBox.new 37 [.int .i64 kd, .int .i64 rn, .int .i64 p.prio, .int .i64 p.most, .int .i64 p.wait, .int .i64 p.tasks, .slice A3 p.edges.length c3, .int .i64 tk, .int .i64 ty, .int .i64 wk, .int .i64 dr] (w.alloc (.cells #[.int .i64 y.now, .int .i64 y.seq, .slice A1 n1 c1, .slice A2 n2 c2] 61)) (b := w.heap.size + 1) (by simp)).below ((Below.refl _ _).alloc (Nat.le_refl _) (.cells #[.int .i64 0, .int .i64 0, .slice none 0 0, .slice none 0 0] 61))).below ((Below.refl _ _).alloc (Nat.le_refl _) (.cells #[.int .i64 0, .int .i64 0, .int .i64 0, .int .i64 0] 73))).below ((Below.refl _ _).alloc (Nat.le_refl _) (.cells #[.int .i64 0, .int .i64 0, .slice none 0 0, .slice none 0 0] 61))
 have RES := ((DBox.new 61 [.int .i64 0, .int .i64 0, .slice none 0 0, .slice none 0 0] ((w.alloc (.cells #[.int .i64 y.now, .int .i64 y.seq, .slice A1 n1 c1, .slice A2 n2 c2] 61)).alloc (.cells #[.int .i64 kd, .int .i64 rn, .int .i64 p.prio, .int .i64 p.most, .int .i64 p.wait, .int .i64 p.tasks, .slice A3 p.edges.length c3, .int .i64 tk, .int .i64 ty, .int .i64 wk, .int .i64 dr] 37)) (b := w.heap.size + 1 + 1) (by simp)).below ((Below.refl _ _).alloc (Nat.le_refl _) (.cells #[.int .i64 0, .int .i64 0, .int .i64 0, .int .i64 0] 73))).below ((Below.refl _ _).alloc (Nat.le_refl _) (.cells #[.int .i64 0, .int .i64 0, .slice none 0 0, .slice none 0 0] 61))
 have RP := (DBox.new 73 [.int .i64 0, .int .i64 0, .int .i64 0, .int .i64 0] (((w.alloc (.cells #[.int .i64 y.now, .int .i64 y.seq, .slice A1 n1 c1, .slice A2 n2 c2] 61)).alloc (.cells #[.int .i64 kd, .int .i64 rn, .int .i64 p.prio, .int .i64 p.most, .int .i64 p.wait, .int .i64 p.tasks, .slice A3 p.edges.length c3, .int .i64 tk, .int .i64 ty, .int .i64 wk, .int .i64 dr] 37)).alloc (.cells #[.int .i64 0, .int .i64 0, .slice none 0 0, .slice none 0 0] 61)) (b := w.heap.size + 1 + 1 + 1) (by simp)).below ((Below.refl _ _).alloc (Nat.le_refl _) (.cells #[.int .i64 0, .int .i64 0, .slice none 0 0, .slice none 0 0] 61))
 have OB := DBox.new 61 [.int .i64 0, .int .i64 0, .slice none 0 0, .slice none 0 0] ((((w.alloc (.cells #[.int .i64 y.now, .int .i64 y.seq, .slice A1 n1 c1, .slice A2 n2 c2] 61)).alloc (.cells #[.int .i64 kd, .int .i64 rn, .int .i64 p.prio, .int .i64 p.most, .int .i64 p.wait, .int .i64 p.tasks, .slice A3 p.edges.length c3, .int .i64 tk, .int .i64 ty, .int .i64 wk, .int .i64 dr] 37)).alloc (.cells #[.int .i64 0, .int .i64 0, .slice none 0 0, .slice none 0 0] 61)).alloc (.cells #[.int .i64 0, .int .i64 0, .int .i64 0, .int .i64 0] 73)) (b := w.heap.size + 1 + 1 + 1 + 1) (by simp)
 have B0 : Below w.heap.size w (((((w.alloc (.cells #[.int .i64 y.now, .int .i64 y.seq, .slice A1 n1 c1, .slice A2 n2 c2] 61)).alloc (.cells #[.int .i64 kd, .int .i64 rn, .int .i64 p.prio, .int .i64 p.most, .int .i64 p.wait, .int .i64 p.tasks, .slice A3 p.edges.length c3, .int .i64 tk, .int .i64 ty, .int .i64 wk, .int .i64 dr] 37)).alloc (.cells #[.int .i64 0, .int .i64 0, .slice none 0 0, .slice none 0 0] 61)).alloc (.cells #[.int .i64 0, .int .i64 0, .int .i64 0, .int .i64 0] 73)).alloc (.cells #[.int .i64 0, .int .i64 0, .slice none 0 0, .slice none 0 0] 61)) := by repeat (first | exact Below.refl _ _ | refine Below.alloc ?_ (by simp <;> omega) _)
 go_enter Try.func38, Try.ntmps38
 go_wp2_with fail
 generalize (((((w.alloc (.cells #[.int .i64 y.now, .int .i64 y.seq, .slice A1 n1 c1, .slice A2 n2 c2] 61)).alloc (.cells #[.int .i64 kd, .int .i64 rn, .int .i64 p.prio, .int .i64 p.most, .int .i64 p.wait, .int .i64 p.tasks, .slice A3 p.edges.length c3, .int .i64 tk, .int .i64 ty, .int .i64 wk, .int .i64 dr] 37)).alloc (.cells #[.int .i64 0, .int .i64 0, .slice none 0 0, .slice none 0 0] 61)).alloc (.cells #[.int .i64 0, .int .i64 0, .int .i64 0, .int .i64 0] 73)).alloc (.cells #[.int .i64 0, .int .i64 0, .slice none 0 0, .slice none 0 0] 61)) = W at *
 have hWs : w.heap.size + 1 + 1 + 1 + 1 < W.heap.size := OB.lt
 refine (CD.out _ B0).mono ?_
 rintro e1 w1 ⟨rfl, b1⟩
 replace X := X.below b1
 replace D := D.below b1
 replace OB := OB.below b1
 replace RES := RES.below b1
 replace RP := RP.below b1
 have hs1 := b1.size
 replace B0 := bnext B0 b1
 clear b1 CD
 obtain ⟨X_0, X_1, X_2, X_3, X_l⟩ := X.g4
 obtain ⟨D_0, D_1, D_2, D_3, D_4, D_5, D_6, D_7, D_8, D_9, D_10, D_l⟩ := D.g11
 obtain ⟨OB_0, OB_1, OB_2, OB_3, OB_l⟩ := OB.g4
 cases hd : deedOk ⟨kd, rn, p, tk, ty, wk, dr⟩
 case false =>
  have H := Lib.hid (show doO y ⟨kd, rn, p, tk, ty, wk, dr⟩ = (y, ⟨5, 0, 0, 0⟩) from if_pos hd)
  clear hd
  go_wp2_with fail
  refine (CC.out _ B0).mono ?_
  rintro e2 w2 ⟨s2, F, rfl, oy, nF, b2⟩
  have hFn : ∀ x ∈ F, w.heap.size + 1 + 1 + 1 + 1 < x := fun x hx => by have h1 := nF x hx; omega
  clear X_0 X_1 X_2 X_3 X_l
  clear D_0 D_1 D_2 D_3 D_4 D_5 D_6 D_7 D_8 D_9 D_10 D_l
  clear OB_0 OB_1 OB_2 OB_3 OB_l
  clear X D OB
  replace RES := RES.below b2
  replace RP := RP.below b2
  replace B0 := bnext B0 b2
  clear nF b2
  obtain ⟨RES_0, RES_1, RES_2, RES_3, RES_l⟩ := RES.g4
  obtain ⟨RP_0, RP_1, RP_2, RP_3, RP_l⟩ := RP.g4
  have rf := RES.free
  have pf := RP.free
  have hne : w.heap.size + 1 + 1 + 1 ≠ w.heap.size + 1 + 1 := by omega
  go_wp2
  have RES2 := DBox.row4 RES rfl (.int .i64 y.now) (.int .i64 y.seq) (.slice s2.1.a s2.1.n s2.1.c) (.slice s2.2.a s2.2.n s2.2.c)
  have RP2 := DBox.row4 ((((RP.setOther (a := ⟨w.heap.size + 1 + 1, 0, none⟩) hne (.int .i64 y.now)).setOther (a := ⟨w.heap.size + 1 + 1, 1, none⟩) hne (.int .i64 y.seq)).setOther (a := ⟨w.heap.size + 1 + 1, 2, none⟩) hne (.slice s2.1.a s2.1.n s2.1.c)).setOther (a := ⟨w.heap.size + 1 + 1, 3, none⟩) hne (.slice s2.2.a s2.2.n s2.2.c)) rfl (.int .i64 5) (.int .i64 0) (.int .i64 0) (.int .i64 0)
  have RES3 := ((((RES2.setOther (a := ⟨w.heap.size + 1 + 1 + 1, 0, none⟩) hne.symm (.int .i64 5)).setOther (a := ⟨w.heap.size + 1 + 1 + 1, 1, none⟩) hne.symm (.int .i64 0)).setOther (a := ⟨w.heap.size + 1 + 1 + 1, 2, none⟩) hne.symm (.int .i64 0)).setOther (a := ⟨w.heap.size + 1 + 1 + 1, 3, none⟩) hne.symm (.int .i64 0))
  have en1 : w.heap.size + 1 + 1 ∉ F := fun hx => by have := hFn _ hx; omega
  have en2 : w.heap.size + 1 + 1 + 1 ∉ F := fun hx => by have := hFn _ hx; omega
  refine bodyPost_ret (Do_res RES3 RP2) rfl ⟨s2, F, by rw [H.out], by rw [H.out]; exact (by (repeat (refine Dt.ow_set yardD ?_ (by first | exact en1 | exact en2) _)); exact (show yardD.ow _ F y s2 from oy)), fun x hx => by have := hFn x hx; omega, ?_⟩
  repeat (first | (with_reducible exact B0) | refine Below.setCell ?_ (by simp <;> omega) _)
 replace hd := Lib.hid hd
 have hkd := inB_iff.1 (deedOk_kind hd.out)
 dsimp only at hkd
 clear CC
 rcases (show kd = 1 ∨ kd = 2 ∨ kd = 3 ∨ kd = 4 ∨ kd = 5 ∨ kd = 6 ∨ kd = 7 ∨ kd = 8 by omega) with rfl | rfl | rfl | rfl | rfl | rfl | rfl | rfl
 ·have H := Lib.hid (show doO y ⟨1, rn, p, tk, ty, wk, dr⟩ = (subY y rn p, ⟨subC y rn p, 0, 0, 0⟩) by unfold doO; rw [if_neg (by rw [hd.out]; simp)]; rfl)
  have CS := Lib.hid (specSubmit_own y (⟨A1, n1, c1⟩, ⟨A2, n2, c2⟩) rn p ⟨A3, p.edges.length, c3⟩ w1 hl hp (HR.out _ B0) (HP.out _ B0))
  generalize subY y rn p = z at *
  generalize subC y rn p = c at *
  go_wp2_with fail
  refine CS.out.mono ?_
  rintro e2 w2 ⟨s2, F, rfl, oy, nF, b2⟩
  replace oy : yardD.ow w2 F z s2 := oy
  have hFn : ∀ x ∈ F, w.heap.size + 1 + 1 + 1 + 1 < x := fun x hx => by have h1 := nF x hx; omega
  clear X_0 X_1 X_2 X_3 X_l
  clear D_0 D_1 D_2 D_3 D_4 D_5 D_6 D_7 D_8 D_9 D_10 D_l
  clear OB_0 OB_1 OB_2 OB_3 OB_l
  replace X := X.below b2
  replace D := D.below b2
  replace OB := OB.below b2
  replace RES := RES.below b2
  replace RP := RP.below b2
  obtain ⟨X_0, X_1, X_2, X_3, X_l⟩ := X.g4
  obtain ⟨D_0, D_1, D_2, D_3, D_4, D_5, D_6, D_7, D_8, D_9, D_10, D_l⟩ := D.g11
  obtain ⟨OB_0, OB_1, OB_2, OB_3, OB_l⟩ := OB.g4
  have OBf := OB.free
  replace B0 := bnext B0 b2
  clear nF b2
  go_upto_region 23 with fail
  clear X_0 X_1 X_2 X_3 X_l
  clear D_0 D_1 D_2 D_3 D_4 D_5 D_6 D_7 D_8 D_9 D_10 D_l
  clear X D OBf
  have hCo := Chg.cells4 w2 (w.heap.size + 1 + 1 + 1 + 1) 0 1 2 3 (.int .i64 z.now) (.int .i64 z.seq) (.slice s2.1.a s2.1.n s2.1.c) (.slice s2.2.a s2.2.n s2.2.c)
  have hom := Lib.hid (show ∀ x, x ∈ [w.heap.size + 1 + 1 + 1 + 1] → x = w.heap.size + 1 + 1 + 1 + 1 from fun x hx => by simpa using hx)
  clear OB_0 OB_1 OB_2 OB_3 OB_l
  replace OB := DBox.row4 OB rfl (.int .i64 z.now) (.int .i64 z.seq) (.slice s2.1.a s2.1.n s2.1.c) (.slice s2.2.a s2.2.n s2.2.c)
  replace RES := RES.chg hCo (fun hx => by have := hom.out _ hx; omega)
  replace RP := RP.chg hCo (fun hx => by have := hom.out _ hx; omega)
  replace oy : yardD.ow _ F z s2 := yardD.ow_chg (F := F) (x := z) (s := s2) oy hCo (fun x hx h => by have h1 := hom.out x h; have h2 := hFn x hx; omega)
  replace B0 := B0.trans (hCo.below (by have := B0.size; omega) (fun x hx => by have := hom.out x hx; omega))
  clear hCo
  generalize (((w2.setCell ⟨w.heap.size + 1 + 1 + 1 + 1, 0, none⟩ (.int .i64 z.now)).setCell ⟨w.heap.size + 1 + 1 + 1 + 1, 1, none⟩ (.int .i64 z.seq)).setCell ⟨w.heap.size + 1 + 1 + 1 + 1, 2, none⟩ (.slice s2.1.a s2.1.n s2.1.c)).setCell ⟨w.heap.size + 1 + 1 + 1 + 1, 3, none⟩ (.slice s2.2.a s2.2.n s2.2.c) = w3 at *
  obtain ⟨OB_0, OB_1, OB_2, OB_3, OB_l⟩ := OB.g4
  obtain ⟨RES_0, RES_1, RES_2, RES_3, RES_l⟩ := RES.g4
  obtain ⟨RP_0, RP_1, RP_2, RP_3, RP_l⟩ := RP.g4
  have rf := RES.free
  have pf := RP.free
  have hne : w.heap.size + 1 + 1 + 1 ≠ w.heap.size + 1 + 1 := by omega
  go_wp2
  have RES2 := DBox.row4 RES rfl (.int .i64 z.now) (.int .i64 z.seq) (.slice s2.1.a s2.1.n s2.1.c) (.slice s2.2.a s2.2.n s2.2.c)
  have RP2 := DBox.row4 ((((RP.setOther (a := ⟨w.heap.size + 1 + 1, 0, none⟩) hne (.int .i64 z.now)).setOther (a := ⟨w.heap.size + 1 + 1, 1, none⟩) hne (.int .i64 z.seq)).setOther (a := ⟨w.heap.size + 1 + 1, 2, none⟩) hne (.slice s2.1.a s2.1.n s2.1.c)).setOther (a := ⟨w.heap.size + 1 + 1, 3, none⟩) hne (.slice s2.2.a s2.2.n s2.2.c)) rfl (.int .i64 c) (.int .i64 0) (.int .i64 0) (.int .i64 0)
  have RES3 := ((((RES2.setOther (a := ⟨w.heap.size + 1 + 1 + 1, 0, none⟩) hne.symm (.int .i64 c)).setOther (a := ⟨w.heap.size + 1 + 1 + 1, 1, none⟩) hne.symm (.int .i64 0)).setOther (a := ⟨w.heap.size + 1 + 1 + 1, 2, none⟩) hne.symm (.int .i64 0)).setOther (a := ⟨w.heap.size + 1 + 1 + 1, 3, none⟩) hne.symm (.int .i64 0))
  have en1 : w.heap.size + 1 + 1 ∉ F := fun hx => by have := hFn _ hx; omega
  have en2 : w.heap.size + 1 + 1 + 1 ∉ F := fun hx => by have := hFn _ hx; omega
  refine bodyPost_ret (Do_res RES3 RP2) rfl ⟨s2, F, by rw [H.out], by rw [H.out]; exact (by (repeat (refine Dt.ow_set yardD ?_ (by first | exact en1 | exact en2) _)); exact (show yardD.ow _ F z s2 from oy)), fun x hx => by have := hFn x hx; omega, ?_⟩
  repeat (first | (with_reducible exact B0) | refine Below.setCell ?_ (by simp <;> omega) _)
 ·have H : Hid (doO y ⟨2, rn, p, tk, ty, wk, dr⟩ = pollR y wk dr) := by
   show doO y ⟨2, rn, p, tk, ty, wk, dr⟩ = _
   unfold doO
   rw [if_neg (by rw [hd.out]; simp)]
   rfl
  have hdn := Lib.hid (deedOk_draw hd.out)
  obtain ⟨dn, rfl⟩ := Int.eq_ofNat_of_zero_le hdn.out.1
  have CS := Lib.hid (specPoll_own y (⟨A1, n1, c1⟩, ⟨A2, n2, c2⟩) wk dn w1 hl (by have := hdn.out; omega) (HR.out _ B0))
  generalize pollR y wk (dn : Int) = o at *
  obtain ⟨z, ⟨o0, o1, o2, o3⟩⟩ := o
  go_wp2_with fail
  refine CS.out.mono ?_
  rintro e2 w2 ⟨s2, F, rfl, oy, nF, b2⟩
  replace oy : yardD.ow w2 F z s2 := oy
  have hFn : ∀ x ∈ F, w.heap.size + 1 + 1 + 1 + 1 < x := fun x hx => by have h1 := nF x hx; omega
  clear X_0 X_1 X_2 X_3 X_l
  clear D_0 D_1 D_2 D_3 D_4 D_5 D_6 D_7 D_8 D_9 D_10 D_l
  clear OB_0 OB_1 OB_2 OB_3 OB_l
  clear X D OB
  replace RES := RES.below b2
  replace RP := RP.below b2
  replace B0 := bnext B0 b2
  clear nF b2
  obtain ⟨RES_0, RES_1, RES_2, RES_3, RES_l⟩ := RES.g4
  obtain ⟨RP_0, RP_1, RP_2, RP_3, RP_l⟩ := RP.g4
  have rf := RES.free
  have pf := RP.free
  have hne : w.heap.size + 1 + 1 + 1 ≠ w.heap.size + 1 + 1 := by omega
  go_wp2
  have RES2 := DBox.row4 RES rfl (.int .i64 z.now) (.int .i64 z.seq) (.slice s2.1.a s2.1.n s2.1.c) (.slice s2.2.a s2.2.n s2.2.c)
  have RP2 := DBox.row4 ((((RP.setOther (a := ⟨w.heap.size + 1 + 1, 0, none⟩) hne (.int .i64 z.now)).setOther (a := ⟨w.heap.size + 1 + 1, 1, none⟩) hne (.int .i64 z.seq)).setOther (a := ⟨w.heap.size + 1 + 1, 2, none⟩) hne (.slice s2.1.a s2.1.n s2.1.c)).setOther (a := ⟨w.heap.size + 1 + 1, 3, none⟩) hne (.slice s2.2.a s2.2.n s2.2.c)) rfl (.int .i64 o0) (.int .i64 o1) (.int .i64 o2) (.int .i64 o3)
  have RES3 := ((((RES2.setOther (a := ⟨w.heap.size + 1 + 1 + 1, 0, none⟩) hne.symm (.int .i64 o0)).setOther (a := ⟨w.heap.size + 1 + 1 + 1, 1, none⟩) hne.symm (.int .i64 o1)).setOther (a := ⟨w.heap.size + 1 + 1 + 1, 2, none⟩) hne.symm (.int .i64 o2)).setOther (a := ⟨w.heap.size + 1 + 1 + 1, 3, none⟩) hne.symm (.int .i64 o3))
  have en1 : w.heap.size + 1 + 1 ∉ F := fun hx => by have := hFn _ hx; omega
  have en2 : w.heap.size + 1 + 1 + 1 ∉ F := fun hx => by have := hFn _ hx; omega
  refine bodyPost_ret (Do_res RES3 RP2) rfl ⟨s2, F, by rw [H.out], by rw [H.out]; exact (by (repeat (refine Dt.ow_set yardD ?_ (by first | exact en1 | exact en2) _)); exact (show yardD.ow _ F z s2 from oy)), fun x hx => by have := hFn x hx; omega, ?_⟩
  repeat (first | (with_reducible exact B0) | refine Below.setCell ?_ (by simp <;> omega) _)
 ·have H := Lib.hid (show doO y ⟨3, rn, p, tk, ty, wk, dr⟩ = (compY y rn tk ty, ⟨askC y rn tk ty, 0, 0, 0⟩) by unfold doO; rw [if_neg (by rw [hd.out]; simp)]; rfl)
  have CS := Lib.hid (specComplete_own y (⟨A1, n1, c1⟩, ⟨A2, n2, c2⟩) rn tk ty w1 hl (HR.out _ B0))
  generalize compY y rn tk ty = z at *
  generalize askC y rn tk ty = c at *
  go_wp2_with fail
  refine CS.out.mono ?_
  rintro e2 w2 ⟨s2, F, rfl, oy, nF, b2⟩
  replace oy : yardD.ow w2 F z s2 := oy
  have hFn : ∀ x ∈ F, w.heap.size + 1 + 1 + 1 + 1 < x := fun x hx => by have h1 := nF x hx; omega
  clear X_0 X_1 X_2 X_3 X_l
  clear D_0 D_1 D_2 D_3 D_4 D_5 D_6 D_7 D_8 D_9 D_10 D_l
  clear OB_0 OB_1 OB_2 OB_3 OB_l
  replace X := X.below b2
  replace D := D.below b2
  replace OB := OB.below b2
  replace RES := RES.below b2
  replace RP := RP.below b2
  obtain ⟨X_0, X_1, X_2, X_3, X_l⟩ := X.g4
  obtain ⟨D_0, D_1, D_2, D_3, D_4, D_5, D_6, D_7, D_8, D_9, D_10, D_l⟩ := D.g11
  obtain ⟨OB_0, OB_1, OB_2, OB_3, OB_l⟩ := OB.g4
  have OBf := OB.free
  replace B0 := bnext B0 b2
  clear nF b2
  go_upto_region 23 with fail
  clear X_0 X_1 X_2 X_3 X_l
  clear D_0 D_1 D_2 D_3 D_4 D_5 D_6 D_7 D_8 D_9 D_10 D_l
  clear X D OBf
  have hCo := Chg.cells4 w2 (w.heap.size + 1 + 1 + 1 + 1) 0 1 2 3 (.int .i64 z.now) (.int .i64 z.seq) (.slice s2.1.a s2.1.n s2.1.c) (.slice s2.2.a s2.2.n s2.2.c)
  have hom := Lib.hid (show ∀ x, x ∈ [w.heap.size + 1 + 1 + 1 + 1] → x = w.heap.size + 1 + 1 + 1 + 1 from fun x hx => by simpa using hx)
  clear OB_0 OB_1 OB_2 OB_3 OB_l
  replace OB := DBox.row4 OB rfl (.int .i64 z.now) (.int .i64 z.seq) (.slice s2.1.a s2.1.n s2.1.c) (.slice s2.2.a s2.2.n s2.2.c)
  replace RES := RES.chg hCo (fun hx => by have := hom.out _ hx; omega)
  replace RP := RP.chg hCo (fun hx => by have := hom.out _ hx; omega)
  replace oy : yardD.ow _ F z s2 := yardD.ow_chg (F := F) (x := z) (s := s2) oy hCo (fun x hx h => by have h1 := hom.out x h; have h2 := hFn x hx; omega)
  replace B0 := B0.trans (hCo.below (by have := B0.size; omega) (fun x hx => by have := hom.out x hx; omega))
  clear hCo
  generalize (((w2.setCell ⟨w.heap.size + 1 + 1 + 1 + 1, 0, none⟩ (.int .i64 z.now)).setCell ⟨w.heap.size + 1 + 1 + 1 + 1, 1, none⟩ (.int .i64 z.seq)).setCell ⟨w.heap.size + 1 + 1 + 1 + 1, 2, none⟩ (.slice s2.1.a s2.1.n s2.1.c)).setCell ⟨w.heap.size + 1 + 1 + 1 + 1, 3, none⟩ (.slice s2.2.a s2.2.n s2.2.c) = w3 at *
  obtain ⟨OB_0, OB_1, OB_2, OB_3, OB_l⟩ := OB.g4
  obtain ⟨RES_0, RES_1, RES_2, RES_3, RES_l⟩ := RES.g4
  obtain ⟨RP_0, RP_1, RP_2, RP_3, RP_l⟩ := RP.g4
  have rf := RES.free
  have pf := RP.free
  have hne : w.heap.size + 1 + 1 + 1 ≠ w.heap.size + 1 + 1 := by omega
  go_wp2
  have RES2 := DBox.row4 RES rfl (.int .i64 z.now) (.int .i64 z.seq) (.slice s2.1.a s2.1.n s2.1.c) (.slice s2.2.a s2.2.n s2.2.c)
  have RP2 := DBox.row4 ((((RP.setOther (a := ⟨w.heap.size + 1 + 1, 0, none⟩) hne (.int .i64 z.now)).setOther (a := ⟨w.heap.size + 1 + 1, 1, none⟩) hne (.int .i64 z.seq)).setOther (a := ⟨w.heap.size + 1 + 1, 2, none⟩) hne (.slice s2.1.a s2.1.n s2.1.c)).setOther (a := ⟨w.heap.size + 1 + 1, 3, none⟩) hne (.slice s2.2.a s2.2.n s2.2.c)) rfl (.int .i64 c) (.int .i64 0) (.int .i64 0) (.int .i64 0)
  have RES3 := ((((RES2.setOther (a := ⟨w.heap.size + 1 + 1 + 1, 0, none⟩) hne.symm (.int .i64 c)).setOther (a := ⟨w.heap.size + 1 + 1 + 1, 1, none⟩) hne.symm (.int .i64 0)).setOther (a := ⟨w.heap.size + 1 + 1 + 1, 2, none⟩) hne.symm (.int .i64 0)).setOther (a := ⟨w.heap.size + 1 + 1 + 1, 3, none⟩) hne.symm (.int .i64 0))
  have en1 : w.heap.size + 1 + 1 ∉ F := fun hx => by have := hFn _ hx; omega
  have en2 : w.heap.size + 1 + 1 + 1 ∉ F := fun hx => by have := hFn _ hx; omega
  refine bodyPost_ret (Do_res RES3 RP2) rfl ⟨s2, F, by rw [H.out], by rw [H.out]; exact (by (repeat (refine Dt.ow_set yardD ?_ (by first | exact en1 | exact en2) _)); exact (show yardD.ow _ F z s2 from oy)), fun x hx => by have := hFn x hx; omega, ?_⟩
  repeat (first | (with_reducible exact B0) | refine Below.setCell ?_ (by simp <;> omega) _)
 ·have H := Lib.hid (show doO y ⟨4, rn, p, tk, ty, wk, dr⟩ = (failY y rn tk ty, ⟨askC y rn tk ty, 0, 0, 0⟩) by unfold doO; rw [if_neg (by rw [hd.out]; simp)]; rfl)
  have CS := Lib.hid (specFail_own y (⟨A1, n1, c1⟩, ⟨A2, n2, c2⟩) rn tk ty w1 hl (HR.out _ B0))
  generalize failY y rn tk ty = z at *
  generalize askC y rn tk ty = c at *
  go_wp2_with fail
  refine CS.out.mono ?_
  rintro e2 w2 ⟨s2, F, rfl, oy, nF, b2⟩
  replace oy : yardD.ow w2 F z s2 := oy
  have hFn : ∀ x ∈ F, w.heap.size + 1 + 1 + 1 + 1 < x := fun x hx => by have h1 := nF x hx; omega
  clear X_0 X_1 X_2 X_3 X_l
  clear D_0 D_1 D_2 D_3 D_4 D_5 D_6 D_7 D_8 D_9 D_10 D_l
  clear OB_0 OB_1 OB_2 OB_3 OB_l
  replace X := X.below b2
  replace D := D.below b2
  replace OB := OB.below b2
  replace RES := RES.below b2
  replace RP := RP.below b2
  obtain ⟨X_0, X_1, X_2, X_3, X_l⟩ := X.g4
  obtain ⟨D_0, D_1, D_2, D_3, D_4, D_5, D_6, D_7, D_8, D_9, D_10, D_l⟩ := D.g11
  obtain ⟨OB_0, OB_1, OB_2, OB_3, OB_l⟩ := OB.g4
  have OBf := OB.free
  replace B0 := bnext B0 b2
  clear nF b2
  go_upto_region 23 with fail
  clear X_0 X_1 X_2 X_3 X_l
  clear D_0 D_1 D_2 D_3 D_4 D_5 D_6 D_7 D_8 D_9 D_10 D_l
  clear X D OBf
  have hCo := Chg.cells4 w2 (w.heap.size + 1 + 1 + 1 + 1) 0 1 2 3 (.int .i64 z.now) (.int .i64 z.seq) (.slice s2.1.a s2.1.n s2.1.c) (.slice s2.2.a s2.2.n s2.2.c)
  have hom := Lib.hid (show ∀ x, x ∈ [w.heap.size + 1 + 1 + 1 + 1] → x = w.heap.size + 1 + 1 + 1 + 1 from fun x hx => by simpa using hx)
  clear OB_0 OB_1 OB_2 OB_3 OB_l
  replace OB := DBox.row4 OB rfl (.int .i64 z.now) (.int .i64 z.seq) (.slice s2.1.a s2.1.n s2.1.c) (.slice s2.2.a s2.2.n s2.2.c)
  replace RES := RES.chg hCo (fun hx => by have := hom.out _ hx; omega)
  replace RP := RP.chg hCo (fun hx => by have := hom.out _ hx; omega)
  replace oy : yardD.ow _ F z s2 := yardD.ow_chg (F := F) (x := z) (s := s2) oy hCo (fun x hx h => by have h1 := hom.out x h; have h2 := hFn x hx; omega)
  replace B0 := B0.trans (hCo.below (by have := B0.size; omega) (fun x hx => by have := hom.out x hx; omega))
  clear hCo
  generalize (((w2.setCell ⟨w.heap.size + 1 + 1 + 1 + 1, 0, none⟩ (.int .i64 z.now)).setCell ⟨w.heap.size + 1 + 1 + 1 + 1, 1, none⟩ (.int .i64 z.seq)).setCell ⟨w.heap.size + 1 + 1 + 1 + 1, 2, none⟩ (.slice s2.1.a s2.1.n s2.1.c)).setCell ⟨w.heap.size + 1 + 1 + 1 + 1, 3, none⟩ (.slice s2.2.a s2.2.n s2.2.c) = w3 at *
  obtain ⟨OB_0, OB_1, OB_2, OB_3, OB_l⟩ := OB.g4
  obtain ⟨RES_0, RES_1, RES_2, RES_3, RES_l⟩ := RES.g4
  obtain ⟨RP_0, RP_1, RP_2, RP_3, RP_l⟩ := RP.g4
  have rf := RES.free
  have pf := RP.free
  have hne : w.heap.size + 1 + 1 + 1 ≠ w.heap.size + 1 + 1 := by omega
  go_wp2
  have RES2 := DBox.row4 RES rfl (.int .i64 z.now) (.int .i64 z.seq) (.slice s2.1.a s2.1.n s2.1.c) (.slice s2.2.a s2.2.n s2.2.c)
  have RP2 := DBox.row4 ((((RP.setOther (a := ⟨w.heap.size + 1 + 1, 0, none⟩) hne (.int .i64 z.now)).setOther (a := ⟨w.heap.size + 1 + 1, 1, none⟩) hne (.int .i64 z.seq)).setOther (a := ⟨w.heap.size + 1 + 1, 2, none⟩) hne (.slice s2.1.a s2.1.n s2.1.c)).setOther (a := ⟨w.heap.size + 1 + 1, 3, none⟩) hne (.slice s2.2.a s2.2.n s2.2.c)) rfl (.int .i64 c) (.int .i64 0) (.int .i64 0) (.int .i64 0)
  have RES3 := ((((RES2.setOther (a := ⟨w.heap.size + 1 + 1 + 1, 0, none⟩) hne.symm (.int .i64 c)).setOther (a := ⟨w.heap.size + 1 + 1 + 1, 1, none⟩) hne.symm (.int .i64 0)).setOther (a := ⟨w.heap.size + 1 + 1 + 1, 2, none⟩) hne.symm (.int .i64 0)).setOther (a := ⟨w.heap.size + 1 + 1 + 1, 3, none⟩) hne.symm (.int .i64 0))
  have en1 : w.heap.size + 1 + 1 ∉ F := fun hx => by have := hFn _ hx; omega
  have en2 : w.heap.size + 1 + 1 + 1 ∉ F := fun hx => by have := hFn _ hx; omega
  refine bodyPost_ret (Do_res RES3 RP2) rfl ⟨s2, F, by rw [H.out], by rw [H.out]; exact (by (repeat (refine Dt.ow_set yardD ?_ (by first | exact en1 | exact en2) _)); exact (show yardD.ow _ F z s2 from oy)), fun x hx => by have := hFn x hx; omega, ?_⟩
  repeat (first | (with_reducible exact B0) | refine Below.setCell ?_ (by simp <;> omega) _)
 ·have H := Lib.hid (show doO y ⟨5, rn, p, tk, ty, wk, dr⟩ = (tickY y, ⟨tickC y, 0, 0, 0⟩) by unfold doO; rw [if_neg (by rw [hd.out]; simp)]; rfl)
  have CS := Lib.hid (specTick_own y (⟨A1, n1, c1⟩, ⟨A2, n2, c2⟩) w1 hl (HR.out _ B0))
  generalize tickY y = z at *
  generalize tickC y = c at *
  go_wp2_with fail
  refine CS.out.mono ?_
  rintro e2 w2 ⟨s2, F, rfl, oy, nF, b2⟩
  replace oy : yardD.ow w2 F z s2 := oy
  have hFn : ∀ x ∈ F, w.heap.size + 1 + 1 + 1 + 1 < x := fun x hx => by have h1 := nF x hx; omega
  clear X_0 X_1 X_2 X_3 X_l
  clear D_0 D_1 D_2 D_3 D_4 D_5 D_6 D_7 D_8 D_9 D_10 D_l
  clear OB_0 OB_1 OB_2 OB_3 OB_l
  replace X := X.below b2
  replace D := D.below b2
  replace OB := OB.below b2
  replace RES := RES.below b2
  replace RP := RP.below b2
  obtain ⟨X_0, X_1, X_2, X_3, X_l⟩ := X.g4
  obtain ⟨D_0, D_1, D_2, D_3, D_4, D_5, D_6, D_7, D_8, D_9, D_10, D_l⟩ := D.g11
  obtain ⟨OB_0, OB_1, OB_2, OB_3, OB_l⟩ := OB.g4
  have OBf := OB.free
  replace B0 := bnext B0 b2
  clear nF b2
  go_upto_region 23 with fail
  clear X_0 X_1 X_2 X_3 X_l
  clear D_0 D_1 D_2 D_3 D_4 D_5 D_6 D_7 D_8 D_9 D_10 D_l
  clear X D OBf
  have hCo := Chg.cells4 w2 (w.heap.size + 1 + 1 + 1 + 1) 0 1 2 3 (.int .i64 z.now) (.int .i64 z.seq) (.slice s2.1.a s2.1.n s2.1.c) (.slice s2.2.a s2.2.n s2.2.c)
  have hom := Lib.hid (show ∀ x, x ∈ [w.heap.size + 1 + 1 + 1 + 1] → x = w.heap.size + 1 + 1 + 1 + 1 from fun x hx => by simpa using hx)
  clear OB_0 OB_1 OB_2 OB_3 OB_l
  replace OB := DBox.row4 OB rfl (.int .i64 z.now) (.int .i64 z.seq) (.slice s2.1.a s2.1.n s2.1.c) (.slice s2.2.a s2.2.n s2.2.c)
  replace RES := RES.chg hCo (fun hx => by have := hom.out _ hx; omega)
  replace RP := RP.chg hCo (fun hx => by have := hom.out _ hx; omega)
  replace oy : yardD.ow _ F z s2 := yardD.ow_chg (F := F) (x := z) (s := s2) oy hCo (fun x hx h => by have h1 := hom.out x h; have h2 := hFn x hx; omega)
  replace B0 := B0.trans (hCo.below (by have := B0.size; omega) (fun x hx => by have := hom.out x hx; omega))
  clear hCo
  generalize (((w2.setCell ⟨w.heap.size + 1 + 1 + 1 + 1, 0, none⟩ (.int .i64 z.now)).setCell ⟨w.heap.size + 1 + 1 + 1 + 1, 1, none⟩ (.int .i64 z.seq)).setCell ⟨w.heap.size + 1 + 1 + 1 + 1, 2, none⟩ (.slice s2.1.a s2.1.n s2.1.c)).setCell ⟨w.heap.size + 1 + 1 + 1 + 1, 3, none⟩ (.slice s2.2.a s2.2.n s2.2.c) = w3 at *
  obtain ⟨OB_0, OB_1, OB_2, OB_3, OB_l⟩ := OB.g4
  obtain ⟨RES_0, RES_1, RES_2, RES_3, RES_l⟩ := RES.g4
  obtain ⟨RP_0, RP_1, RP_2, RP_3, RP_l⟩ := RP.g4
  have rf := RES.free
  have pf := RP.free
  have hne : w.heap.size + 1 + 1 + 1 ≠ w.heap.size + 1 + 1 := by omega
  go_wp2
  have RES2 := DBox.row4 RES rfl (.int .i64 z.now) (.int .i64 z.seq) (.slice s2.1.a s2.1.n s2.1.c) (.slice s2.2.a s2.2.n s2.2.c)
  have RP2 := DBox.row4 ((((RP.setOther (a := ⟨w.heap.size + 1 + 1, 0, none⟩) hne (.int .i64 z.now)).setOther (a := ⟨w.heap.size + 1 + 1, 1, none⟩) hne (.int .i64 z.seq)).setOther (a := ⟨w.heap.size + 1 + 1, 2, none⟩) hne (.slice s2.1.a s2.1.n s2.1.c)).setOther (a := ⟨w.heap.size + 1 + 1, 3, none⟩) hne (.slice s2.2.a s2.2.n s2.2.c)) rfl (.int .i64 c) (.int .i64 0) (.int .i64 0) (.int .i64 0)
  have RES3 := ((((RES2.setOther (a := ⟨w.heap.size + 1 + 1 + 1, 0, none⟩) hne.symm (.int .i64 c)).setOther (a := ⟨w.heap.size + 1 + 1 + 1, 1, none⟩) hne.symm (.int .i64 0)).setOther (a := ⟨w.heap.size + 1 + 1 + 1, 2, none⟩) hne.symm (.int .i64 0)).setOther (a := ⟨w.heap.size + 1 + 1 + 1, 3, none⟩) hne.symm (.int .i64 0))
  have en1 : w.heap.size + 1 + 1 ∉ F := fun hx => by have := hFn _ hx; omega
  have en2 : w.heap.size + 1 + 1 + 1 ∉ F := fun hx => by have := hFn _ hx; omega
  refine bodyPost_ret (Do_res RES3 RP2) rfl ⟨s2, F, by rw [H.out], by rw [H.out]; exact (by (repeat (refine Dt.ow_set yardD ?_ (by first | exact en1 | exact en2) _)); exact (show yardD.ow _ F z s2 from oy)), fun x hx => by have := hFn x hx; omega, ?_⟩
  repeat (first | (with_reducible exact B0) | refine Below.setCell ?_ (by simp <;> omega) _)
 ·have H := Lib.hid (show doO y ⟨6, rn, p, tk, ty, wk, dr⟩ = (cancY y rn, ⟨cancC y rn, 0, 0, 0⟩) by unfold doO; rw [if_neg (by rw [hd.out]; simp)]; rfl)
  have CS := Lib.hid (specCancel_own y (⟨A1, n1, c1⟩, ⟨A2, n2, c2⟩) rn w1 hl (HR.out _ B0))
  generalize cancY y rn = z at *
  generalize cancC y rn = c at *
  go_wp2_with fail
  refine CS.out.mono ?_
  rintro e2 w2 ⟨s2, F, rfl, oy, nF, b2⟩
  replace oy : yardD.ow w2 F z s2 := oy
  have hFn : ∀ x ∈ F, w.heap.size + 1 + 1 + 1 + 1 < x := fun x hx => by have h1 := nF x hx; omega
  clear X_0 X_1 X_2 X_3 X_l
  clear D_0 D_1 D_2 D_3 D_4 D_5 D_6 D_7 D_8 D_9 D_10 D_l
  clear OB_0 OB_1 OB_2 OB_3 OB_l
  replace X := X.below b2
  replace D := D.below b2
  replace OB := OB.below b2
  replace RES := RES.below b2
  replace RP := RP.below b2
  obtain ⟨X_0, X_1, X_2, X_3, X_l⟩ := X.g4
  obtain ⟨D_0, D_1, D_2, D_3, D_4, D_5, D_6, D_7, D_8, D_9, D_10, D_l⟩ := D.g11
  obtain ⟨OB_0, OB_1, OB_2, OB_3, OB_l⟩ := OB.g4
  have OBf := OB.free
  replace B0 := bnext B0 b2
  clear nF b2
  go_upto_region 23 with fail
  clear X_0 X_1 X_2 X_3 X_l
  clear D_0 D_1 D_2 D_3 D_4 D_5 D_6 D_7 D_8 D_9 D_10 D_l
  clear X D OBf
  have hCo := Chg.cells4 w2 (w.heap.size + 1 + 1 + 1 + 1) 0 1 2 3 (.int .i64 z.now) (.int .i64 z.seq) (.slice s2.1.a s2.1.n s2.1.c) (.slice s2.2.a s2.2.n s2.2.c)
  have hom := Lib.hid (show ∀ x, x ∈ [w.heap.size + 1 + 1 + 1 + 1] → x = w.heap.size + 1 + 1 + 1 + 1 from fun x hx => by simpa using hx)
  clear OB_0 OB_1 OB_2 OB_3 OB_l
  replace OB := DBox.row4 OB rfl (.int .i64 z.now) (.int .i64 z.seq) (.slice s2.1.a s2.1.n s2.1.c) (.slice s2.2.a s2.2.n s2.2.c)
  replace RES := RES.chg hCo (fun hx => by have := hom.out _ hx; omega)
  replace RP := RP.chg hCo (fun hx => by have := hom.out _ hx; omega)
  replace oy : yardD.ow _ F z s2 := yardD.ow_chg (F := F) (x := z) (s := s2) oy hCo (fun x hx h => by have h1 := hom.out x h; have h2 := hFn x hx; omega)
  replace B0 := B0.trans (hCo.below (by have := B0.size; omega) (fun x hx => by have := hom.out x hx; omega))
  clear hCo
  generalize (((w2.setCell ⟨w.heap.size + 1 + 1 + 1 + 1, 0, none⟩ (.int .i64 z.now)).setCell ⟨w.heap.size + 1 + 1 + 1 + 1, 1, none⟩ (.int .i64 z.seq)).setCell ⟨w.heap.size + 1 + 1 + 1 + 1, 2, none⟩ (.slice s2.1.a s2.1.n s2.1.c)).setCell ⟨w.heap.size + 1 + 1 + 1 + 1, 3, none⟩ (.slice s2.2.a s2.2.n s2.2.c) = w3 at *
  obtain ⟨OB_0, OB_1, OB_2, OB_3, OB_l⟩ := OB.g4
  obtain ⟨RES_0, RES_1, RES_2, RES_3, RES_l⟩ := RES.g4
  obtain ⟨RP_0, RP_1, RP_2, RP_3, RP_l⟩ := RP.g4
  have rf := RES.free
  have pf := RP.free
  have hne : w.heap.size + 1 + 1 + 1 ≠ w.heap.size + 1 + 1 := by omega
  go_wp2
  have RES2 := DBox.row4 RES rfl (.int .i64 z.now) (.int .i64 z.seq) (.slice s2.1.a s2.1.n s2.1.c) (.slice s2.2.a s2.2.n s2.2.c)
  have RP2 := DBox.row4 ((((RP.setOther (a := ⟨w.heap.size + 1 + 1, 0, none⟩) hne (.int .i64 z.now)).setOther (a := ⟨w.heap.size + 1 + 1, 1, none⟩) hne (.int .i64 z.seq)).setOther (a := ⟨w.heap.size + 1 + 1, 2, none⟩) hne (.slice s2.1.a s2.1.n s2.1.c)).setOther (a := ⟨w.heap.size + 1 + 1, 3, none⟩) hne (.slice s2.2.a s2.2.n s2.2.c)) rfl (.int .i64 c) (.int .i64 0) (.int .i64 0) (.int .i64 0)
  have RES3 := ((((RES2.setOther (a := ⟨w.heap.size + 1 + 1 + 1, 0, none⟩) hne.symm (.int .i64 c)).setOther (a := ⟨w.heap.size + 1 + 1 + 1, 1, none⟩) hne.symm (.int .i64 0)).setOther (a := ⟨w.heap.size + 1 + 1 + 1, 2, none⟩) hne.symm (.int .i64 0)).setOther (a := ⟨w.heap.size + 1 + 1 + 1, 3, none⟩) hne.symm (.int .i64 0))
  have en1 : w.heap.size + 1 + 1 ∉ F := fun hx => by have := hFn _ hx; omega
  have en2 : w.heap.size + 1 + 1 + 1 ∉ F := fun hx => by have := hFn _ hx; omega
  refine bodyPost_ret (Do_res RES3 RP2) rfl ⟨s2, F, by rw [H.out], by rw [H.out]; exact (by (repeat (refine Dt.ow_set yardD ?_ (by first | exact en1 | exact en2) _)); exact (show yardD.ow _ F z s2 from oy)), fun x hx => by have := hFn x hx; omega, ?_⟩
  repeat (first | (with_reducible exact B0) | refine Below.setCell ?_ (by simp <;> omega) _)
 ·have H := Lib.hid (show doO y ⟨7, rn, p, tk, ty, wk, dr⟩ = (forgY y rn, ⟨forgC y rn, 0, 0, 0⟩) by unfold doO; rw [if_neg (by rw [hd.out]; simp)]; rfl)
  have CS := Lib.hid (specForget_own y (⟨A1, n1, c1⟩, ⟨A2, n2, c2⟩) rn w1 hl (HR.out _ B0))
  generalize forgY y rn = z at *
  generalize forgC y rn = c at *
  go_wp2_with fail
  refine CS.out.mono ?_
  rintro e2 w2 ⟨s2, F, rfl, oy, nF, b2⟩
  replace oy : yardD.ow w2 F z s2 := oy
  have hFn : ∀ x ∈ F, w.heap.size + 1 + 1 + 1 + 1 < x := fun x hx => by have h1 := nF x hx; omega
  clear X_0 X_1 X_2 X_3 X_l
  clear D_0 D_1 D_2 D_3 D_4 D_5 D_6 D_7 D_8 D_9 D_10 D_l
  clear OB_0 OB_1 OB_2 OB_3 OB_l
  replace X := X.below b2
  replace D := D.below b2
  replace OB := OB.below b2
  replace RES := RES.below b2
  replace RP := RP.below b2
  obtain ⟨X_0, X_1, X_2, X_3, X_l⟩ := X.g4
  obtain ⟨D_0, D_1, D_2, D_3, D_4, D_5, D_6, D_7, D_8, D_9, D_10, D_l⟩ := D.g11
  obtain ⟨OB_0, OB_1, OB_2, OB_3, OB_l⟩ := OB.g4
  have OBf := OB.free
  replace B0 := bnext B0 b2
  clear nF b2
  go_upto_region 23 with fail
  clear X_0 X_1 X_2 X_3 X_l
  clear D_0 D_1 D_2 D_3 D_4 D_5 D_6 D_7 D_8 D_9 D_10 D_l
  clear X D OBf
  have hCo := Chg.cells4 w2 (w.heap.size + 1 + 1 + 1 + 1) 0 1 2 3 (.int .i64 z.now) (.int .i64 z.seq) (.slice s2.1.a s2.1.n s2.1.c) (.slice s2.2.a s2.2.n s2.2.c)
  have hom := Lib.hid (show ∀ x, x ∈ [w.heap.size + 1 + 1 + 1 + 1] → x = w.heap.size + 1 + 1 + 1 + 1 from fun x hx => by simpa using hx)
  clear OB_0 OB_1 OB_2 OB_3 OB_l
  replace OB := DBox.row4 OB rfl (.int .i64 z.now) (.int .i64 z.seq) (.slice s2.1.a s2.1.n s2.1.c) (.slice s2.2.a s2.2.n s2.2.c)
  replace RES := RES.chg hCo (fun hx => by have := hom.out _ hx; omega)
  replace RP := RP.chg hCo (fun hx => by have := hom.out _ hx; omega)
  replace oy : yardD.ow _ F z s2 := yardD.ow_chg (F := F) (x := z) (s := s2) oy hCo (fun x hx h => by have h1 := hom.out x h; have h2 := hFn x hx; omega)
  replace B0 := B0.trans (hCo.below (by have := B0.size; omega) (fun x hx => by have := hom.out x hx; omega))
  clear hCo
  generalize (((w2.setCell ⟨w.heap.size + 1 + 1 + 1 + 1, 0, none⟩ (.int .i64 z.now)).setCell ⟨w.heap.size + 1 + 1 + 1 + 1, 1, none⟩ (.int .i64 z.seq)).setCell ⟨w.heap.size + 1 + 1 + 1 + 1, 2, none⟩ (.slice s2.1.a s2.1.n s2.1.c)).setCell ⟨w.heap.size + 1 + 1 + 1 + 1, 3, none⟩ (.slice s2.2.a s2.2.n s2.2.c) = w3 at *
  obtain ⟨OB_0, OB_1, OB_2, OB_3, OB_l⟩ := OB.g4
  obtain ⟨RES_0, RES_1, RES_2, RES_3, RES_l⟩ := RES.g4
  obtain ⟨RP_0, RP_1, RP_2, RP_3, RP_l⟩ := RP.g4
  have rf := RES.free
  have pf := RP.free
  have hne : w.heap.size + 1 + 1 + 1 ≠ w.heap.size + 1 + 1 := by omega
  go_wp2
  have RES2 := DBox.row4 RES rfl (.int .i64 z.now) (.int .i64 z.seq) (.slice s2.1.a s2.1.n s2.1.c) (.slice s2.2.a s2.2.n s2.2.c)
  have RP2 := DBox.row4 ((((RP.setOther (a := ⟨w.heap.size + 1 + 1, 0, none⟩) hne (.int .i64 z.now)).setOther (a := ⟨w.heap.size + 1 + 1, 1, none⟩) hne (.int .i64 z.seq)).setOther (a := ⟨w.heap.size + 1 + 1, 2, none⟩) hne (.slice s2.1.a s2.1.n s2.1.c)).setOther (a := ⟨w.heap.size + 1 + 1, 3, none⟩) hne (.slice s2.2.a s2.2.n s2.2.c)) rfl (.int .i64 c) (.int .i64 0) (.int .i64 0) (.int .i64 0)
  have RES3 := ((((RES2.setOther (a := ⟨w.heap.size + 1 + 1 + 1, 0, none⟩) hne.symm (.int .i64 c)).setOther (a := ⟨w.heap.size + 1 + 1 + 1, 1, none⟩) hne.symm (.int .i64 0)).setOther (a := ⟨w.heap.size + 1 + 1 + 1, 2, none⟩) hne.symm (.int .i64 0)).setOther (a := ⟨w.heap.size + 1 + 1 + 1, 3, none⟩) hne.symm (.int .i64 0))
  have en1 : w.heap.size + 1 + 1 ∉ F := fun hx => by have := hFn _ hx; omega
  have en2 : w.heap.size + 1 + 1 + 1 ∉ F := fun hx => by have := hFn _ hx; omega
  refine bodyPost_ret (Do_res RES3 RP2) rfl ⟨s2, F, by rw [H.out], by rw [H.out]; exact (by (repeat (refine Dt.ow_set yardD ?_ (by first | exact en1 | exact en2) _)); exact (show yardD.ow _ F z s2 from oy)), fun x hx => by have := hFn x hx; omega, ?_⟩
  repeat (first | (with_reducible exact B0) | refine Below.setCell ?_ (by simp <;> omega) _)
 ·have H : Hid (doO y ⟨8, rn, p, tk, ty, wk, dr⟩ = (restY y, ⟨restC y, 0, 0, 0⟩)) := by
   show doO y ⟨8, rn, p, tk, ty, wk, dr⟩ = _
   unfold doO
   rw [if_neg (by rw [hd.out]; simp)]
   rfl
  have CS := Lib.hid (specRestart_own y (⟨A1, n1, c1⟩, ⟨A2, n2, c2⟩) w1 hl (HR.out _ B0))
  have CY := Lib.hid (fun W hW => specYardOk_any y (⟨A1, n1, c1⟩, ⟨A2, n2, c2⟩) W hl (HR.out W hW))
  generalize restY y = z at *
  go_wp2_with fail
  refine CS.out.mono ?_
  rintro e2 w2 ⟨s2, F, rfl, oy, nF, b2⟩
  replace oy : yardD.ow w2 F z s2 := oy
  have hFn : ∀ x ∈ F, w.heap.size + 1 + 1 + 1 + 1 < x := fun x hx => by have h1 := nF x hx; omega
  clear X_0 X_1 X_2 X_3 X_l
  clear D_0 D_1 D_2 D_3 D_4 D_5 D_6 D_7 D_8 D_9 D_10 D_l
  clear OB_0 OB_1 OB_2 OB_3 OB_l
  replace X := X.below b2
  replace D := D.below b2
  replace OB := OB.below b2
  replace RES := RES.below b2
  replace RP := RP.below b2
  obtain ⟨X_0, X_1, X_2, X_3, X_l⟩ := X.g4
  obtain ⟨D_0, D_1, D_2, D_3, D_4, D_5, D_6, D_7, D_8, D_9, D_10, D_l⟩ := D.g11
  obtain ⟨OB_0, OB_1, OB_2, OB_3, OB_l⟩ := OB.g4
  have OBf := OB.free
  replace B0 := bnext B0 b2
  clear nF b2
  go_upto_region 7 with fail
  clear X_0 X_1 X_2 X_3 X_l
  clear D_0 D_1 D_2 D_3 D_4 D_5 D_6 D_7 D_8 D_9 D_10 D_l
  have X9 := X
  clear D OBf
  have hCo := Chg.cells4 w2 (w.heap.size + 1 + 1 + 1 + 1) 0 1 2 3 (.int .i64 z.now) (.int .i64 z.seq) (.slice s2.1.a s2.1.n s2.1.c) (.slice s2.2.a s2.2.n s2.2.c)
  have hom := Lib.hid (show ∀ x, x ∈ [w.heap.size + 1 + 1 + 1 + 1] → x = w.heap.size + 1 + 1 + 1 + 1 from fun x hx => by simpa using hx)
  clear OB_0 OB_1 OB_2 OB_3 OB_l
  replace OB := DBox.row4 OB rfl (.int .i64 z.now) (.int .i64 z.seq) (.slice s2.1.a s2.1.n s2.1.c) (.slice s2.2.a s2.2.n s2.2.c)
  replace RES := RES.chg hCo (fun hx => by have := hom.out _ hx; omega)
  replace RP := RP.chg hCo (fun hx => by have := hom.out _ hx; omega)
  replace oy : yardD.ow _ F z s2 := yardD.ow_chg (F := F) (x := z) (s := s2) oy hCo (fun x hx h => by have h1 := hom.out x h; have h2 := hFn x hx; omega)
  replace B0 := B0.trans (hCo.below (by have := B0.size; omega) (fun x hx => by have := hom.out x hx; omega))
  have hCo9 := hCo
  clear hCo
  replace X := X9.chg hCo9 (fun hx => by have := hom.out _ hx; omega)
  clear X9
  generalize (((w2.setCell ⟨w.heap.size + 1 + 1 + 1 + 1, 0, none⟩ (.int .i64 z.now)).setCell ⟨w.heap.size + 1 + 1 + 1 + 1, 1, none⟩ (.int .i64 z.seq)).setCell ⟨w.heap.size + 1 + 1 + 1 + 1, 2, none⟩ (.slice s2.1.a s2.1.n s2.1.c)).setCell ⟨w.heap.size + 1 + 1 + 1 + 1, 3, none⟩ (.slice s2.2.a s2.2.n s2.2.c) = w3 at *
  obtain ⟨OB_0, OB_1, OB_2, OB_3, OB_l⟩ := OB.g4
  obtain ⟨X_0, X_1, X_2, X_3, X_l⟩ := X.g4
  go_wp2_with fail
  refine (CY.out _ B0).mono ?_
  rintro e3 w4 ⟨rfl, b4⟩
  clear X_0 X_1 X_2 X_3 X_l
  clear OB_0 OB_1 OB_2 OB_3 OB_l
  clear X
  replace OB := OB.below b4
  replace RES := RES.below b4
  replace RP := RP.below b4
  replace oy : yardD.ow w4 F z s2 := yardD.ow_below (F := F) (x := z) (s := s2) oy b4
  replace B0 := bnext B0 b4
  clear b4
  obtain ⟨OB_0, OB_1, OB_2, OB_3, OB_l⟩ := OB.g4
  by_cases q : yardP y
  ·rw [tf_true q]
   replace H := Lib.hid (H.out.trans (by rw [show restC y = 0 from if_pos q]))
   clear q
   obtain ⟨RES_0, RES_1, RES_2, RES_3, RES_l⟩ := RES.g4
   obtain ⟨RP_0, RP_1, RP_2, RP_3, RP_l⟩ := RP.g4
   have rf := RES.free
   have pf := RP.free
   have hne : w.heap.size + 1 + 1 + 1 ≠ w.heap.size + 1 + 1 := by omega
   go_wp2
   have RES2 := DBox.row4 RES rfl (.int .i64 z.now) (.int .i64 z.seq) (.slice s2.1.a s2.1.n s2.1.c) (.slice s2.2.a s2.2.n s2.2.c)
   have RP2 := DBox.row4 ((((RP.setOther (a := ⟨w.heap.size + 1 + 1, 0, none⟩) hne (.int .i64 z.now)).setOther (a := ⟨w.heap.size + 1 + 1, 1, none⟩) hne (.int .i64 z.seq)).setOther (a := ⟨w.heap.size + 1 + 1, 2, none⟩) hne (.slice s2.1.a s2.1.n s2.1.c)).setOther (a := ⟨w.heap.size + 1 + 1, 3, none⟩) hne (.slice s2.2.a s2.2.n s2.2.c)) rfl (.int .i64 0) (.int .i64 0) (.int .i64 0) (.int .i64 0)
   have RES3 := ((((RES2.setOther (a := ⟨w.heap.size + 1 + 1 + 1, 0, none⟩) hne.symm (.int .i64 0)).setOther (a := ⟨w.heap.size + 1 + 1 + 1, 1, none⟩) hne.symm (.int .i64 0)).setOther (a := ⟨w.heap.size + 1 + 1 + 1, 2, none⟩) hne.symm (.int .i64 0)).setOther (a := ⟨w.heap.size + 1 + 1 + 1, 3, none⟩) hne.symm (.int .i64 0))
   have en1 : w.heap.size + 1 + 1 ∉ F := fun hx => by have := hFn _ hx; omega
   have en2 : w.heap.size + 1 + 1 + 1 ∉ F := fun hx => by have := hFn _ hx; omega
   refine bodyPost_ret (Do_res RES3 RP2) rfl ⟨s2, F, by rw [H.out], by rw [H.out]; exact (by (repeat (refine Dt.ow_set yardD ?_ (by first | exact en1 | exact en2) _)); exact (show yardD.ow _ F z s2 from oy)), fun x hx => by have := hFn x hx; omega, ?_⟩
   repeat (first | (with_reducible exact B0) | refine Below.setCell ?_ (by simp <;> omega) _)
  ·rw [tf_false q]
   replace H := Lib.hid (H.out.trans (by rw [show restC y = 8 from if_neg q]))
   clear q
   obtain ⟨RES_0, RES_1, RES_2, RES_3, RES_l⟩ := RES.g4
   obtain ⟨RP_0, RP_1, RP_2, RP_3, RP_l⟩ := RP.g4
   have rf := RES.free
   have pf := RP.free
   have hne : w.heap.size + 1 + 1 + 1 ≠ w.heap.size + 1 + 1 := by omega
   go_wp2
   have RES2 := DBox.row4 RES rfl (.int .i64 z.now) (.int .i64 z.seq) (.slice s2.1.a s2.1.n s2.1.c) (.slice s2.2.a s2.2.n s2.2.c)
   have RP2 := DBox.row4 ((((RP.setOther (a := ⟨w.heap.size + 1 + 1, 0, none⟩) hne (.int .i64 z.now)).setOther (a := ⟨w.heap.size + 1 + 1, 1, none⟩) hne (.int .i64 z.seq)).setOther (a := ⟨w.heap.size + 1 + 1, 2, none⟩) hne (.slice s2.1.a s2.1.n s2.1.c)).setOther (a := ⟨w.heap.size + 1 + 1, 3, none⟩) hne (.slice s2.2.a s2.2.n s2.2.c)) rfl (.int .i64 8) (.int .i64 0) (.int .i64 0) (.int .i64 0)
   have RES3 := ((((RES2.setOther (a := ⟨w.heap.size + 1 + 1 + 1, 0, none⟩) hne.symm (.int .i64 8)).setOther (a := ⟨w.heap.size + 1 + 1 + 1, 1, none⟩) hne.symm (.int .i64 0)).setOther (a := ⟨w.heap.size + 1 + 1 + 1, 2, none⟩) hne.symm (.int .i64 0)).setOther (a := ⟨w.heap.size + 1 + 1 + 1, 3, none⟩) hne.symm (.int .i64 0))
   have en1 : w.heap.size + 1 + 1 ∉ F := fun hx => by have := hFn _ hx; omega
   have en2 : w.heap.size + 1 + 1 + 1 ∉ F := fun hx => by have := hFn _ hx; omega
   refine bodyPost_ret (Do_res RES3 RP2) rfl ⟨s2, F, by rw [H.out], by rw [H.out]; exact (by (repeat (refine Dt.ow_set yardD ?_ (by first | exact en1 | exact en2) _)); exact (show yardD.ow _ F z s2 from oy)), fun x hx => by have := hFn x hx; omega, ?_⟩
   repeat (first | (with_reducible exact B0) | refine Below.setCell ?_ (by simp <;> omega) _)
end Go.Proofs.Ytonlnjdempbfoaa
end
section
namespace Go.Proofs.Ytonlnjdempbfoaa
open Go.RowKit
set_option maxRecDepth 100000
set_option maxHeartbeats 4000000
set_option linter.unusedVariables false
set_option linter.unusedSimpArgs false
theorem Chg.more {b g : Nat} {w w1 w2 : World} (h : Chg [b] w w1) (k : Chg [g] w1 w2) (hg : w.heap.size ≤ g) : Chg [b] w w2 :=
 ⟨k.os.trans h.os, k.tape.trans h.tape, k.output.trans h.output, Nat.le_trans h.size k.size, fun i hi hn => (k.block i (Nat.lt_of_lt_of_le hi h.size) (fun hx => by (have h5 : i = g := List.mem_singleton.1 hx); omega)).trans (h.block i hi hn)⟩
theorem DBox.row11d {b : Nat} {cs : List Value} {w : World} (h : DBox b cs w) (hn : cs.length = 11) (u0 u1 u2 u3 u4 u5 u6 u7 u8 u9 u10 : Value) :
  DBox b [u0, u1, u2, u3, u4, u5, u6, u7, u8, u9, u10] (((((((((((w.setCell ⟨b, 0, none⟩ u0).setCell ⟨b, 1, none⟩ u1).setCell ⟨b, 2, none⟩ u2).setCell ⟨b, 3, none⟩ u3).setCell ⟨b, 4, none⟩ u4).setCell ⟨b, 5, none⟩ u5).setCell ⟨b, 6, none⟩ u6).setCell ⟨b, 7, none⟩ u7).setCell ⟨b, 8, none⟩ u8).setCell ⟨b, 9, none⟩ u9).setCell ⟨b, 10, none⟩ u10) := by
 obtain ⟨c0, c1, c2, c3, c4, c5, c6, c7, c8, c9, c10, rfl⟩ : ∃ c0 c1 c2 c3 c4 c5 c6 c7 c8 c9 c10, cs = [c0, c1, c2, c3, c4, c5, c6, c7, c8, c9, c10] := by
  match cs, hn with
  | [c0, c1, c2, c3, c4, c5, c6, c7, c8, c9, c10], _ => exact ⟨c0, c1, c2, c3, c4, c5, c6, c7, c8, c9, c10, rfl⟩
 exact ((((((((((h.set 0 (by simp) u0).set 1 (by simp) u1).set 2 (by simp) u2).set 3 (by simp) u3).set 4 (by simp) u4).set 5 (by simp) u5).set 6 (by simp) u6).set 7 (by simp) u7).set 8 (by simp) u8).set 9 (by simp) u9).set 10 (by simp) u10
theorem Deed_res {b : Nat} {w : World} {u0 u1 u2 u3 u4 u5 u6 u7 u8 u9 u10 : Value} (X : DBox b [u0, u1, u2, u3, u4, u5, u6, u7, u8, u9, u10] w) {v0 v1 v2 v3 : Value} {rest : List Value} :
  (results Try.f37 (v0 :: v1 :: v2 :: v3 :: .pointer (some ⟨b, 0, none⟩) :: rest).toArray).run Try.prog w = .ok (.agg #[u0, u1, u2, u3, u4, u5, u6, u7, u8, u9, u10]) w := by
 have c0 := X.cell 0 _ rfl
 have c1 := X.cell 1 _ rfl
 have c2 := X.cell 2 _ rfl
 have c3 := X.cell 3 _ rfl
 have c4 := X.cell 4 _ rfl
 have c5 := X.cell 5 _ rfl
 have c6 := X.cell 6 _ rfl
 have c7 := X.cell 7 _ rfl
 have c8 := X.cell 8 _ rfl
 have c9 := X.cell 9 _ rfl
 have c10 := X.cell 10 _ rfl
 simp [results, Try.results37, go_sem, c0, c1, c2, c3, c4, c5, c6, c7, c8, c9, c10]
def noPlan : Plan := ⟨0, 0, 0, 0, []⟩
/-- a deed is drawn, at a yard -/
def curDeed (code : List UInt8) (y : Yard) (c : Cur) : Deed × Cur :=
 let k := curBelow code 20 c
 if k.1 < 6 then
  let a := curBelow code 8 k.2
  let d := curBelow code 7 a.2
  (⟨2, 0, noPlan, 0, 0, a.1, d.1⟩, d.2)
 else if k.1 < 10 then
  let a := curBelow code 9 k.2
  let q := curPlan code a.2
  (⟨1, 1 + a.1, q.1, 0, 0, 0, 0⟩, q.2)
 else if k.1 < 15 then
  let a := heldGo code y.runs k.2
  (⟨3, a.1.1, noPlan, brought a.1.2.1 0 99, brought a.1.2.2 0 99, 0, 0⟩, a.2)
 else if k.1 = 15 then
  let a := heldGo code y.runs k.2
  (⟨4, a.1.1, noPlan, brought a.1.2.1 0 99, brought a.1.2.2 0 99, 0, 0⟩, a.2)
 else if k.1 = 16 then (⟨5, 0, noPlan, 0, 0, 0, 0⟩, k.2)
 else if k.1 = 17 then
  let a := curBelow code 9 k.2
  (⟨6, 1 + a.1, noPlan, 0, 0, 0, 0⟩, a.2)
 else if k.1 = 18 then
  let a := curBelow code 9 k.2
  (⟨7, 1 + a.1, noPlan, 0, 0, 0, 0⟩, a.2)
 else
  let o := curOnce code 3 k.2
  if o.1 = true then (⟨8, 0, noPlan, 0, 0, 0, 0⟩, o.2) else (⟨5, 0, noPlan, 0, 0, 0, 0⟩, o.2)
/-- a deed of the call's own, drawn -/
def DeedP (b : Nat) (v : Value) (code : List UInt8) (r : Deed × Cur) (w : World) (e : Ending) (w' : World) : Prop :=
 ∃ (s : Sl) (F : List Nat), e = .returned (deedW r.1 s) ∧ planD.ow w' F r.1.plan s ∧ (∀ x ∈ F, w.heap.size ≤ x) ∧ Drw b v code r.2 w' ∧ Chg [b] w w'
theorem deed_any (b : Nat) (v : Value) (code : List UInt8) (c : Cur) (y : Yard) (s : Sl × Sl) (F : List Nat) (w : World) (hl : cntYard y ≤ 2000000) (h : Drw b v code c w) (hy : yardD.ow w F y s) (hbF : b ∉ F) :
  Calls Try.prog 37 #[.pointer (some ⟨b, 0, none⟩), yardW y s] w (DeedP b v code (curDeed code y c) w) := by
 obtain ⟨⟨A1, n1, c1⟩, ⟨A2, n2, c2⟩⟩ := s
 have hb := h.box.lt
 have hbm := Lib.hid (show ∀ x, x ∈ [b] → x = b from fun x hx => by simpa using hx)
 have X := (DBox.new 61 [.int .i64 y.now, .int .i64 y.seq, .slice A1 n1 c1, .slice A2 n2 c2] w (b := w.heap.size) rfl).below ((Below.refl _ _).alloc (Nat.le_refl _) (.cells #[.int .i64 0, .int .i64 0, .int .i64 0, .int .i64 0, .int .i64 0, .int .i64 0, .slice none 0 0, .int .i64 0, .int .i64 0, .int .i64 0, .int .i64 0] 37))
 have RES := DBox.new 37 [.int .i64 0, .int .i64 0, .int .i64 0, .int .i64 0, .int .i64 0, .int .i64 0, .slice none 0 0, .int .i64 0, .int .i64 0, .int .i64 0, .int .i64 0] (w.alloc (.cells #[.int .i64 y.now, .int .i64 y.seq, .slice A1 n1 c1, .slice A2 n2 c2] 61)) (b := w.heap.size + 1) (by simp)
 have B0 : Below w.heap.size w ((w.alloc (.cells #[.int .i64 y.now, .int .i64 y.seq, .slice A1 n1 c1, .slice A2 n2 c2] 61)).alloc (.cells #[.int .i64 0, .int .i64 0, .int .i64 0, .int .i64 0, .int .i64 0, .int .i64 0, .slice none 0 0, .int .i64 0, .int .i64 0, .int .i64 0, .int .i64 0] 37)) := by repeat (first | exact Below.refl _ _ | refine Below.alloc ?_ (by simp <;> omega) _)
 replace h := h.below B0
 replace hy : yardD.ow _ F y (⟨A1, n1, c1⟩, ⟨A2, n2, c2⟩) := yardD.ow_below (F := F) (x := y) (s := (⟨A1, n1, c1⟩, ⟨A2, n2, c2⟩)) hy B0
 have hC := Chg.of_below [b] B0
 go_enter Try.func37, Try.ntmps37
 go_wp2_with fail
 generalize ((w.alloc (.cells #[.int .i64 y.now, .int .i64 y.seq, .slice A1 n1 c1, .slice A2 n2 c2] 61)).alloc (.cells #[.int .i64 0, .int .i64 0, .int .i64 0, .int .i64 0, .int .i64 0, .int .i64 0, .slice none 0 0, .int .i64 0, .int .i64 0, .int .i64 0, .int .i64 0] 37)) = W at *
 have hWl : w.heap.size + 1 < W.heap.size := RES.lt
 refine (below_any 20 b _ code c W (by decide) h ).mono ?_
 rintro e_w1 w1 ⟨rfl, h1, cc1⟩
 replace RES := RES.chg cc1 (fun hx => by have := hbm.out _ hx; omega)
 replace X := X.chg cc1 (fun hx => by have := hbm.out _ hx; omega)
 replace hy : yardD.ow w1 F y (⟨A1, n1, c1⟩, ⟨A2, n2, c2⟩) := yardD.ow_chg (F := F) (x := y) (s := (⟨A1, n1, c1⟩, ⟨A2, n2, c2⟩)) hy cc1 (fun x hx hx2 => by have h1 := hbm.out x hx2; subst h1; exact hbF hx)
 replace hC := hC.trans cc1
 have hk := curBelow_bd code (n := 20) c (by decide)
 have HD : Hid (curDeed code y c = curDeed code y c) := rfl
 by_cases q6 : (curBelow code 20 c).1 < 6
 ·have H := Lib.hid (show curDeed code y c = (⟨2, 0, noPlan, 0, 0, (curBelow code 8 (curBelow code 20 c).2).1, (curBelow code 7 (curBelow code 8 (curBelow code 20 c).2).2).1⟩, (curBelow code 7 (curBelow code 8 (curBelow code 20 c).2).2).2) from if_pos q6)
  generalize curBelow code 20 c = k at *
  go_wp2_with fail
  refine (below_any 8 b _ code k.2 w1 (by decide) h1 ).mono ?_
  rintro e_w2 w2 ⟨rfl, h2, cc2⟩
  replace RES := RES.chg cc2 (fun hx => by have := hbm.out _ hx; omega)
  replace X := X.chg cc2 (fun hx => by have := hbm.out _ hx; omega)
  replace hy : yardD.ow w2 F y (⟨A1, n1, c1⟩, ⟨A2, n2, c2⟩) := yardD.ow_chg (F := F) (x := y) (s := (⟨A1, n1, c1⟩, ⟨A2, n2, c2⟩)) hy cc2 (fun x hx hx2 => by have h1 := hbm.out x hx2; subst h1; exact hbF hx)
  replace hC := hC.trans cc2
  go_wp2_with fail
  refine (below_any 7 b _ code (curBelow code 8 k.2).2 w2 (by decide) h2 ).mono ?_
  rintro e_w3 w3 ⟨rfl, h3, cc3⟩
  replace RES := RES.chg cc3 (fun hx => by have := hbm.out _ hx; omega)
  replace X := X.chg cc3 (fun hx => by have := hbm.out _ hx; omega)
  replace hy : yardD.ow w3 F y (⟨A1, n1, c1⟩, ⟨A2, n2, c2⟩) := yardD.ow_chg (F := F) (x := y) (s := (⟨A1, n1, c1⟩, ⟨A2, n2, c2⟩)) hy cc3 (fun x hx hx2 => by have h1 := hbm.out x hx2; subst h1; exact hbF hx)
  replace hC := hC.trans cc3
  have hCR : Chg [w.heap.size + 1] w3 (((((((((((w3.setCell ⟨w.heap.size + 1, 0, none⟩ (.int .i64 2)).setCell ⟨w.heap.size + 1, 1, none⟩ (.int .i64 0)).setCell ⟨w.heap.size + 1, 2, none⟩ (.int .i64 0)).setCell ⟨w.heap.size + 1, 3, none⟩ (.int .i64 0)).setCell ⟨w.heap.size + 1, 4, none⟩ (.int .i64 0)).setCell ⟨w.heap.size + 1, 5, none⟩ (.int .i64 0)).setCell ⟨w.heap.size + 1, 6, none⟩ (.slice none 0 0)).setCell ⟨w.heap.size + 1, 7, none⟩ (.int .i64 0)).setCell ⟨w.heap.size + 1, 8, none⟩ (.int .i64 0)).setCell ⟨w.heap.size + 1, 9, none⟩ (.int .i64 (curBelow code 8 k.2).1)).setCell ⟨w.heap.size + 1, 10, none⟩ (.int .i64 (curBelow code 7 (curBelow code 8 k.2).2).1)) := wSeq_chg [.int .i64 2, .int .i64 0, .int .i64 0, .int .i64 0, .int .i64 0, .int .i64 0, .slice none 0 0, .int .i64 0, .int .i64 0, .int .i64 (curBelow code 8 k.2).1, .int .i64 (curBelow code 7 (curBelow code 8 k.2).2).1] w3 (w.heap.size + 1) 0
  have RES2 := DBox.row11d RES rfl (.int .i64 2) (.int .i64 0) (.int .i64 0) (.int .i64 0) (.int .i64 0) (.int .i64 0) (.slice none 0 0) (.int .i64 0) (.int .i64 0) (.int .i64 (curBelow code 8 k.2).1) (.int .i64 (curBelow code 7 (curBelow code 8 k.2).2).1)
  have h9 := h3.chg hCR (fun x hx => by (have h5 : x = w.heap.size + 1 := List.mem_singleton.1 hx); omega)
  have hC9 := hC.more hCR (Nat.le_succ _)
  obtain ⟨RES_0, RES_1, RES_2, RES_3, RES_4, RES_5, RES_6, RES_7, RES_8, RES_9, RES_10, RES_l⟩ := RES.g11
  have rf := RES.free
  go_wp2
  refine bodyPost_ret (Deed_res RES2) rfl ⟨⟨none, 0, 0⟩, [], by rw [H.out] <;> rfl, by rw [H.out]; exact OwL.nil edgeD _ none 0, (fun _ h => by cases h), by rw [H.out]; exact h9, hC9⟩
 by_cases q10 : (curBelow code 20 c).1 < 10
 ·have H := Lib.hid (show curDeed code y c = (⟨1, 1 + (curBelow code 9 (curBelow code 20 c).2).1, (curPlan code (curBelow code 9 (curBelow code 20 c).2).2).1, 0, 0, 0, 0⟩, (curPlan code (curBelow code 9 (curBelow code 20 c).2).2).2) by unfold curDeed; rw [if_neg q6, if_pos q10])
  have b9 := curBelow_bd code (n := 9) (curBelow code 20 c).2 (by decide)
  have wr1 : IntKind.i64.wrap (1 + (curBelow code 9 (curBelow code 20 c).2).1) = 1 + (curBelow code 9 (curBelow code 20 c).2).1 := IntWalk.i64_in _ (by omega)
  clear b9
  generalize curBelow code 20 c = k at *
  go_wp2_with fail
  refine (below_any 9 b _ code k.2 w1 (by decide) h1 ).mono ?_
  rintro e_w2 w2 ⟨rfl, h2, cc2⟩
  replace RES := RES.chg cc2 (fun hx => by have := hbm.out _ hx; omega)
  replace X := X.chg cc2 (fun hx => by have := hbm.out _ hx; omega)
  replace hy : yardD.ow w2 F y (⟨A1, n1, c1⟩, ⟨A2, n2, c2⟩) := yardD.ow_chg (F := F) (x := y) (s := (⟨A1, n1, c1⟩, ⟨A2, n2, c2⟩)) hy cc2 (fun x hx hx2 => by have h1 := hbm.out x hx2; subst h1; exact hbF hx)
  replace hC := hC.trans cc2
  go_wp2_with fail
  refine (drawPlan_any b _ code (curBelow code 9 k.2).2 w2 h2 ).mono ?_
  rintro e_w3 w3 ⟨pu, rfl, po, h3, cc3⟩
  replace RES := RES.chg cc3 (fun hx => by have := hbm.out _ hx; omega)
  replace X := X.chg cc3 (fun hx => by have := hbm.out _ hx; omega)
  replace hy : yardD.ow w3 F y (⟨A1, n1, c1⟩, ⟨A2, n2, c2⟩) := yardD.ow_chg (F := F) (x := y) (s := (⟨A1, n1, c1⟩, ⟨A2, n2, c2⟩)) hy cc3 (fun x hx hx2 => by have h1 := hbm.out x hx2; subst h1; exact hbF hx)
  replace hC := hC.trans cc3
  obtain ⟨⟨pa, pn, pc⟩, Fp, rfl, po1, pn1⟩ := edge_ow po
  have hs2 := cc2.size
  have hs1 := cc1.size
  have hB0 := B0.size
  have hR1 : w.heap.size + 1 < w2.heap.size := by omega
  have po2 := po1.chg (show Chg [w.heap.size + 1] w3 _ from wSeq_chg [.int .i64 1, .int .i64 (1 + (curBelow code 9 k.2).1), .int .i64 (curPlan code (curBelow code 9 k.2).2).1.prio, .int .i64 (curPlan code (curBelow code 9 k.2).2).1.most, .int .i64 (curPlan code (curBelow code 9 k.2).2).1.wait, .int .i64 (curPlan code (curBelow code 9 k.2).2).1.tasks, .slice pa pn pc, .int .i64 0, .int .i64 0, .int .i64 0, .int .i64 0] w3 (w.heap.size + 1) 0) (fun x hx hx2 => by (have h5 : x = w.heap.size + 1 := List.mem_singleton.1 hx2); (have h6 := pn1 x hx); omega)
  generalize (curPlan code (curBelow code 9 k.2).2) = q at *
  have hCR : Chg [w.heap.size + 1] w3 (((((((((((w3.setCell ⟨w.heap.size + 1, 0, none⟩ (.int .i64 1)).setCell ⟨w.heap.size + 1, 1, none⟩ (.int .i64 (1 + (curBelow code 9 k.2).1))).setCell ⟨w.heap.size + 1, 2, none⟩ (.int .i64 q.1.prio)).setCell ⟨w.heap.size + 1, 3, none⟩ (.int .i64 q.1.most)).setCell ⟨w.heap.size + 1, 4, none⟩ (.int .i64 q.1.wait)).setCell ⟨w.heap.size + 1, 5, none⟩ (.int .i64 q.1.tasks)).setCell ⟨w.heap.size + 1, 6, none⟩ (.slice pa pn pc)).setCell ⟨w.heap.size + 1, 7, none⟩ (.int .i64 0)).setCell ⟨w.heap.size + 1, 8, none⟩ (.int .i64 0)).setCell ⟨w.heap.size + 1, 9, none⟩ (.int .i64 0)).setCell ⟨w.heap.size + 1, 10, none⟩ (.int .i64 0)) := wSeq_chg [.int .i64 1, .int .i64 (1 + (curBelow code 9 k.2).1), .int .i64 q.1.prio, .int .i64 q.1.most, .int .i64 q.1.wait, .int .i64 q.1.tasks, .slice pa pn pc, .int .i64 0, .int .i64 0, .int .i64 0, .int .i64 0] w3 (w.heap.size + 1) 0
  have RES2 := DBox.row11d RES rfl (.int .i64 1) (.int .i64 (1 + (curBelow code 9 k.2).1)) (.int .i64 q.1.prio) (.int .i64 q.1.most) (.int .i64 q.1.wait) (.int .i64 q.1.tasks) (.slice pa pn pc) (.int .i64 0) (.int .i64 0) (.int .i64 0) (.int .i64 0)
  have h9 := h3.chg hCR (fun x hx => by (have h5 : x = w.heap.size + 1 := List.mem_singleton.1 hx); omega)
  have hC9 := hC.more hCR (Nat.le_succ _)
  obtain ⟨RES_0, RES_1, RES_2, RES_3, RES_4, RES_5, RES_6, RES_7, RES_8, RES_9, RES_10, RES_l⟩ := RES.g11
  have rf := RES.free
  go_wp2
  refine bodyPost_ret (Deed_res RES2) rfl ⟨⟨pa, pn, pc⟩, Fp, by rw [H.out] <;> rfl, by rw [H.out]; exact po2, fun x hx => by have := pn1 x hx; omega, by rw [H.out]; exact h9, hC9⟩
 by_cases q15 : (curBelow code 20 c).1 < 15
 ·have H := Lib.hid (show curDeed code y c = (⟨3, (heldGo code y.runs (curBelow code 20 c).2).1.1, noPlan, brought (heldGo code y.runs (curBelow code 20 c).2).1.2.1 0 99, brought (heldGo code y.runs (curBelow code 20 c).2).1.2.2 0 99, 0, 0⟩, (heldGo code y.runs (curBelow code 20 c).2).2) by unfold curDeed; rw [if_neg q6, if_neg q10, if_pos q15])
  skip
  generalize curBelow code 20 c = k at *
  obtain ⟨X_0, X_1, X_2, X_3, X_l⟩ := X.g4
  go_wp2_with fail
  refine (held_any b _ code k.2 y (⟨A1, n1, c1⟩, ⟨A2, n2, c2⟩) F w1 hl h1 hy hbF ).mono ?_
  rintro e_w2 w2 ⟨rfl, h2, cc2⟩
  replace RES := RES.chg cc2 (fun hx => by have := hbm.out _ hx; omega)
  replace X := X.chg cc2 (fun hx => by have := hbm.out _ hx; omega)
  replace hy : yardD.ow w2 F y (⟨A1, n1, c1⟩, ⟨A2, n2, c2⟩) := yardD.ow_chg (F := F) (x := y) (s := (⟨A1, n1, c1⟩, ⟨A2, n2, c2⟩)) hy cc2 (fun x hx hx2 => by have h1 := hbm.out x hx2; subst h1; exact hbF hx)
  replace hC := hC.trans cc2
  generalize heldGo code y.runs k.2 = hh at *
  clear X_0 X_1 X_2 X_3 X_l
  have hCR : Chg [w.heap.size + 1] w2 (((((((((((w2.setCell ⟨w.heap.size + 1, 0, none⟩ (.int .i64 3)).setCell ⟨w.heap.size + 1, 1, none⟩ (.int .i64 hh.1.1)).setCell ⟨w.heap.size + 1, 2, none⟩ (.int .i64 0)).setCell ⟨w.heap.size + 1, 3, none⟩ (.int .i64 0)).setCell ⟨w.heap.size + 1, 4, none⟩ (.int .i64 0)).setCell ⟨w.heap.size + 1, 5, none⟩ (.int .i64 0)).setCell ⟨w.heap.size + 1, 6, none⟩ (.slice none 0 0)).setCell ⟨w.heap.size + 1, 7, none⟩ (.int .i64 (brought hh.1.2.1 0 99))).setCell ⟨w.heap.size + 1, 8, none⟩ (.int .i64 (brought hh.1.2.2 0 99))).setCell ⟨w.heap.size + 1, 9, none⟩ (.int .i64 0)).setCell ⟨w.heap.size + 1, 10, none⟩ (.int .i64 0)) := wSeq_chg [.int .i64 3, .int .i64 hh.1.1, .int .i64 0, .int .i64 0, .int .i64 0, .int .i64 0, .slice none 0 0, .int .i64 (brought hh.1.2.1 0 99), .int .i64 (brought hh.1.2.2 0 99), .int .i64 0, .int .i64 0] w2 (w.heap.size + 1) 0
  have RES2 := DBox.row11d RES rfl (.int .i64 3) (.int .i64 hh.1.1) (.int .i64 0) (.int .i64 0) (.int .i64 0) (.int .i64 0) (.slice none 0 0) (.int .i64 (brought hh.1.2.1 0 99)) (.int .i64 (brought hh.1.2.2 0 99)) (.int .i64 0) (.int .i64 0)
  have h9 := h2.chg hCR (fun x hx => by (have h5 : x = w.heap.size + 1 := List.mem_singleton.1 hx); omega)
  have hC9 := hC.more hCR (Nat.le_succ _)
  obtain ⟨RES_0, RES_1, RES_2, RES_3, RES_4, RES_5, RES_6, RES_7, RES_8, RES_9, RES_10, RES_l⟩ := RES.g11
  have rf := RES.free
  go_wp2_with (go_at_call 43; refine (specBrought_any _ 0 99 _ (by decide)).mono ?_; rintro e w9 ⟨rfl, rfl⟩)
  refine bodyPost_ret (Deed_res RES2) rfl ⟨⟨none, 0, 0⟩, [], by rw [H.out] <;> rfl, by rw [H.out]; exact OwL.nil edgeD _ none 0, (fun _ h => by cases h), by rw [H.out]; exact h9, hC9⟩
 by_cases q15e : (curBelow code 20 c).1 = 15
 ·have H := Lib.hid (show curDeed code y c = (⟨4, (heldGo code y.runs (curBelow code 20 c).2).1.1, noPlan, brought (heldGo code y.runs (curBelow code 20 c).2).1.2.1 0 99, brought (heldGo code y.runs (curBelow code 20 c).2).1.2.2 0 99, 0, 0⟩, (heldGo code y.runs (curBelow code 20 c).2).2) by unfold curDeed; rw [if_neg q6, if_neg q10, if_neg q15, if_pos q15e])
  have r15 : ((curBelow code 20 c).1 == 15) = true := by simp [q15e]
  clear q15e
  generalize curBelow code 20 c = k at *
  obtain ⟨X_0, X_1, X_2, X_3, X_l⟩ := X.g4
  go_wp2_with fail
  refine (held_any b _ code k.2 y (⟨A1, n1, c1⟩, ⟨A2, n2, c2⟩) F w1 hl h1 hy hbF ).mono ?_
  rintro e_w2 w2 ⟨rfl, h2, cc2⟩
  replace RES := RES.chg cc2 (fun hx => by have := hbm.out _ hx; omega)
  replace X := X.chg cc2 (fun hx => by have := hbm.out _ hx; omega)
  replace hy : yardD.ow w2 F y (⟨A1, n1, c1⟩, ⟨A2, n2, c2⟩) := yardD.ow_chg (F := F) (x := y) (s := (⟨A1, n1, c1⟩, ⟨A2, n2, c2⟩)) hy cc2 (fun x hx hx2 => by have h1 := hbm.out x hx2; subst h1; exact hbF hx)
  replace hC := hC.trans cc2
  generalize heldGo code y.runs k.2 = hh at *
  clear X_0 X_1 X_2 X_3 X_l
  have hCR : Chg [w.heap.size + 1] w2 (((((((((((w2.setCell ⟨w.heap.size + 1, 0, none⟩ (.int .i64 4)).setCell ⟨w.heap.size + 1, 1, none⟩ (.int .i64 hh.1.1)).setCell ⟨w.heap.size + 1, 2, none⟩ (.int .i64 0)).setCell ⟨w.heap.size + 1, 3, none⟩ (.int .i64 0)).setCell ⟨w.heap.size + 1, 4, none⟩ (.int .i64 0)).setCell ⟨w.heap.size + 1, 5, none⟩ (.int .i64 0)).setCell ⟨w.heap.size + 1, 6, none⟩ (.slice none 0 0)).setCell ⟨w.heap.size + 1, 7, none⟩ (.int .i64 (brought hh.1.2.1 0 99))).setCell ⟨w.heap.size + 1, 8, none⟩ (.int .i64 (brought hh.1.2.2 0 99))).setCell ⟨w.heap.size + 1, 9, none⟩ (.int .i64 0)).setCell ⟨w.heap.size + 1, 10, none⟩ (.int .i64 0)) := wSeq_chg [.int .i64 4, .int .i64 hh.1.1, .int .i64 0, .int .i64 0, .int .i64 0, .int .i64 0, .slice none 0 0, .int .i64 (brought hh.1.2.1 0 99), .int .i64 (brought hh.1.2.2 0 99), .int .i64 0, .int .i64 0] w2 (w.heap.size + 1) 0
  have RES2 := DBox.row11d RES rfl (.int .i64 4) (.int .i64 hh.1.1) (.int .i64 0) (.int .i64 0) (.int .i64 0) (.int .i64 0) (.slice none 0 0) (.int .i64 (brought hh.1.2.1 0 99)) (.int .i64 (brought hh.1.2.2 0 99)) (.int .i64 0) (.int .i64 0)
  have h9 := h2.chg hCR (fun x hx => by (have h5 : x = w.heap.size + 1 := List.mem_singleton.1 hx); omega)
  have hC9 := hC.more hCR (Nat.le_succ _)
  obtain ⟨RES_0, RES_1, RES_2, RES_3, RES_4, RES_5, RES_6, RES_7, RES_8, RES_9, RES_10, RES_l⟩ := RES.g11
  have rf := RES.free
  go_wp2_with (go_at_call 43; refine (specBrought_any _ 0 99 _ (by decide)).mono ?_; rintro e w9 ⟨rfl, rfl⟩)
  refine bodyPost_ret (Deed_res RES2) rfl ⟨⟨none, 0, 0⟩, [], by rw [H.out] <;> rfl, by rw [H.out]; exact OwL.nil edgeD _ none 0, (fun _ h => by cases h), by rw [H.out]; exact h9, hC9⟩
 by_cases q16 : (curBelow code 20 c).1 = 16
 ·have H := Lib.hid (show curDeed code y c = (⟨5, 0, noPlan, 0, 0, 0, 0⟩, (curBelow code 20 c).2) by unfold curDeed; rw [if_neg q6, if_neg q10, if_neg q15, if_neg q15e, if_pos q16])
  have r15 : ((curBelow code 20 c).1 == 15) = false := beq_eq_false_iff_ne.2 (by omega)
  have r16 : ((curBelow code 20 c).1 == 16) = true := by simp [q16]
  clear q16
  generalize curBelow code 20 c = k at *
  have hCR : Chg [w.heap.size + 1] w1 (((((((((((w1.setCell ⟨w.heap.size + 1, 0, none⟩ (.int .i64 5)).setCell ⟨w.heap.size + 1, 1, none⟩ (.int .i64 0)).setCell ⟨w.heap.size + 1, 2, none⟩ (.int .i64 0)).setCell ⟨w.heap.size + 1, 3, none⟩ (.int .i64 0)).setCell ⟨w.heap.size + 1, 4, none⟩ (.int .i64 0)).setCell ⟨w.heap.size + 1, 5, none⟩ (.int .i64 0)).setCell ⟨w.heap.size + 1, 6, none⟩ (.slice none 0 0)).setCell ⟨w.heap.size + 1, 7, none⟩ (.int .i64 0)).setCell ⟨w.heap.size + 1, 8, none⟩ (.int .i64 0)).setCell ⟨w.heap.size + 1, 9, none⟩ (.int .i64 0)).setCell ⟨w.heap.size + 1, 10, none⟩ (.int .i64 0)) := wSeq_chg [.int .i64 5, .int .i64 0, .int .i64 0, .int .i64 0, .int .i64 0, .int .i64 0, .slice none 0 0, .int .i64 0, .int .i64 0, .int .i64 0, .int .i64 0] w1 (w.heap.size + 1) 0
  have RES2 := DBox.row11d RES rfl (.int .i64 5) (.int .i64 0) (.int .i64 0) (.int .i64 0) (.int .i64 0) (.int .i64 0) (.slice none 0 0) (.int .i64 0) (.int .i64 0) (.int .i64 0) (.int .i64 0)
  have h9 := h1.chg hCR (fun x hx => by (have h5 : x = w.heap.size + 1 := List.mem_singleton.1 hx); omega)
  have hC9 := hC.more hCR (Nat.le_succ _)
  obtain ⟨RES_0, RES_1, RES_2, RES_3, RES_4, RES_5, RES_6, RES_7, RES_8, RES_9, RES_10, RES_l⟩ := RES.g11
  have rf := RES.free
  go_wp2
  refine bodyPost_ret (Deed_res RES2) rfl ⟨⟨none, 0, 0⟩, [], by rw [H.out] <;> rfl, by rw [H.out]; exact OwL.nil edgeD _ none 0, (fun _ h => by cases h), by rw [H.out]; exact h9, hC9⟩
 by_cases q17 : (curBelow code 20 c).1 = 17
 ·have H := Lib.hid (show curDeed code y c = (⟨6, 1 + (curBelow code 9 (curBelow code 20 c).2).1, noPlan, 0, 0, 0, 0⟩, (curBelow code 9 (curBelow code 20 c).2).2) by unfold curDeed; rw [if_neg q6, if_neg q10, if_neg q15, if_neg q15e, if_neg q16, if_pos q17])
  have b9 := curBelow_bd code (n := 9) (curBelow code 20 c).2 (by decide)
  have wr1 : IntKind.i64.wrap (1 + (curBelow code 9 (curBelow code 20 c).2).1) = 1 + (curBelow code 9 (curBelow code 20 c).2).1 := IntWalk.i64_in _ (by omega)
  clear b9
  have r15 : ((curBelow code 20 c).1 == 15) = false := beq_eq_false_iff_ne.2 (by omega)
  have r16 : ((curBelow code 20 c).1 == 16) = false := beq_eq_false_iff_ne.2 (by omega)
  have r17 : ((curBelow code 20 c).1 == 17) = true := by simp [q17]
  clear q17
  generalize curBelow code 20 c = k at *
  go_wp2_with fail
  refine (below_any 9 b _ code k.2 w1 (by decide) h1 ).mono ?_
  rintro e_w2 w2 ⟨rfl, h2, cc2⟩
  replace RES := RES.chg cc2 (fun hx => by have := hbm.out _ hx; omega)
  replace X := X.chg cc2 (fun hx => by have := hbm.out _ hx; omega)
  replace hy : yardD.ow w2 F y (⟨A1, n1, c1⟩, ⟨A2, n2, c2⟩) := yardD.ow_chg (F := F) (x := y) (s := (⟨A1, n1, c1⟩, ⟨A2, n2, c2⟩)) hy cc2 (fun x hx hx2 => by have h1 := hbm.out x hx2; subst h1; exact hbF hx)
  replace hC := hC.trans cc2
  have hCR : Chg [w.heap.size + 1] w2 (((((((((((w2.setCell ⟨w.heap.size + 1, 0, none⟩ (.int .i64 6)).setCell ⟨w.heap.size + 1, 1, none⟩ (.int .i64 (1 + (curBelow code 9 k.2).1))).setCell ⟨w.heap.size + 1, 2, none⟩ (.int .i64 0)).setCell ⟨w.heap.size + 1, 3, none⟩ (.int .i64 0)).setCell ⟨w.heap.size + 1, 4, none⟩ (.int .i64 0)).setCell ⟨w.heap.size + 1, 5, none⟩ (.int .i64 0)).setCell ⟨w.heap.size + 1, 6, none⟩ (.slice none 0 0)).setCell ⟨w.heap.size + 1, 7, none⟩ (.int .i64 0)).setCell ⟨w.heap.size + 1, 8, none⟩ (.int .i64 0)).setCell ⟨w.heap.size + 1, 9, none⟩ (.int .i64 0)).setCell ⟨w.heap.size + 1, 10, none⟩ (.int .i64 0)) := wSeq_chg [.int .i64 6, .int .i64 (1 + (curBelow code 9 k.2).1), .int .i64 0, .int .i64 0, .int .i64 0, .int .i64 0, .slice none 0 0, .int .i64 0, .int .i64 0, .int .i64 0, .int .i64 0] w2 (w.heap.size + 1) 0
  have RES2 := DBox.row11d RES rfl (.int .i64 6) (.int .i64 (1 + (curBelow code 9 k.2).1)) (.int .i64 0) (.int .i64 0) (.int .i64 0) (.int .i64 0) (.slice none 0 0) (.int .i64 0) (.int .i64 0) (.int .i64 0) (.int .i64 0)
  have h9 := h2.chg hCR (fun x hx => by (have h5 : x = w.heap.size + 1 := List.mem_singleton.1 hx); omega)
  have hC9 := hC.more hCR (Nat.le_succ _)
  obtain ⟨RES_0, RES_1, RES_2, RES_3, RES_4, RES_5, RES_6, RES_7, RES_8, RES_9, RES_10, RES_l⟩ := RES.g11
  have rf := RES.free
  go_wp2
  refine bodyPost_ret (Deed_res RES2) rfl ⟨⟨none, 0, 0⟩, [], by rw [H.out] <;> rfl, by rw [H.out]; exact OwL.nil edgeD _ none 0, (fun _ h => by cases h), by rw [H.out]; exact h9, hC9⟩
 by_cases q18 : (curBelow code 20 c).1 = 18
 ·have H := Lib.hid (show curDeed code y c = (⟨7, 1 + (curBelow code 9 (curBelow code 20 c).2).1, noPlan, 0, 0, 0, 0⟩, (curBelow code 9 (curBelow code 20 c).2).2) by unfold curDeed; rw [if_neg q6, if_neg q10, if_neg q15, if_neg q15e, if_neg q16, if_neg q17, if_pos q18])
  have b9 := curBelow_bd code (n := 9) (curBelow code 20 c).2 (by decide)
  have wr1 : IntKind.i64.wrap (1 + (curBelow code 9 (curBelow code 20 c).2).1) = 1 + (curBelow code 9 (curBelow code 20 c).2).1 := IntWalk.i64_in _ (by omega)
  clear b9
  have r15 : ((curBelow code 20 c).1 == 15) = false := beq_eq_false_iff_ne.2 (by omega)
  have r16 : ((curBelow code 20 c).1 == 16) = false := beq_eq_false_iff_ne.2 (by omega)
  have r17 : ((curBelow code 20 c).1 == 17) = false := beq_eq_false_iff_ne.2 (by omega)
  have r18 : ((curBelow code 20 c).1 == 18) = true := by simp [q18]
  clear q18
  generalize curBelow code 20 c = k at *
  go_wp2_with fail
  refine (below_any 9 b _ code k.2 w1 (by decide) h1 ).mono ?_
  rintro e_w2 w2 ⟨rfl, h2, cc2⟩
  replace RES := RES.chg cc2 (fun hx => by have := hbm.out _ hx; omega)
  replace X := X.chg cc2 (fun hx => by have := hbm.out _ hx; omega)
  replace hy : yardD.ow w2 F y (⟨A1, n1, c1⟩, ⟨A2, n2, c2⟩) := yardD.ow_chg (F := F) (x := y) (s := (⟨A1, n1, c1⟩, ⟨A2, n2, c2⟩)) hy cc2 (fun x hx hx2 => by have h1 := hbm.out x hx2; subst h1; exact hbF hx)
  replace hC := hC.trans cc2
  have hCR : Chg [w.heap.size + 1] w2 (((((((((((w2.setCell ⟨w.heap.size + 1, 0, none⟩ (.int .i64 7)).setCell ⟨w.heap.size + 1, 1, none⟩ (.int .i64 (1 + (curBelow code 9 k.2).1))).setCell ⟨w.heap.size + 1, 2, none⟩ (.int .i64 0)).setCell ⟨w.heap.size + 1, 3, none⟩ (.int .i64 0)).setCell ⟨w.heap.size + 1, 4, none⟩ (.int .i64 0)).setCell ⟨w.heap.size + 1, 5, none⟩ (.int .i64 0)).setCell ⟨w.heap.size + 1, 6, none⟩ (.slice none 0 0)).setCell ⟨w.heap.size + 1, 7, none⟩ (.int .i64 0)).setCell ⟨w.heap.size + 1, 8, none⟩ (.int .i64 0)).setCell ⟨w.heap.size + 1, 9, none⟩ (.int .i64 0)).setCell ⟨w.heap.size + 1, 10, none⟩ (.int .i64 0)) := wSeq_chg [.int .i64 7, .int .i64 (1 + (curBelow code 9 k.2).1), .int .i64 0, .int .i64 0, .int .i64 0, .int .i64 0, .slice none 0 0, .int .i64 0, .int .i64 0, .int .i64 0, .int .i64 0] w2 (w.heap.size + 1) 0
  have RES2 := DBox.row11d RES rfl (.int .i64 7) (.int .i64 (1 + (curBelow code 9 k.2).1)) (.int .i64 0) (.int .i64 0) (.int .i64 0) (.int .i64 0) (.slice none 0 0) (.int .i64 0) (.int .i64 0) (.int .i64 0) (.int .i64 0)
  have h9 := h2.chg hCR (fun x hx => by (have h5 : x = w.heap.size + 1 := List.mem_singleton.1 hx); omega)
  have hC9 := hC.more hCR (Nat.le_succ _)
  obtain ⟨RES_0, RES_1, RES_2, RES_3, RES_4, RES_5, RES_6, RES_7, RES_8, RES_9, RES_10, RES_l⟩ := RES.g11
  have rf := RES.free
  go_wp2
  refine bodyPost_ret (Deed_res RES2) rfl ⟨⟨none, 0, 0⟩, [], by rw [H.out] <;> rfl, by rw [H.out]; exact OwL.nil edgeD _ none 0, (fun _ h => by cases h), by rw [H.out]; exact h9, hC9⟩
 have H0 := Lib.hid (show curDeed code y c = (if (curOnce code 3 (curBelow code 20 c).2).1 = true then (⟨8, 0, noPlan, 0, 0, 0, 0⟩, (curOnce code 3 (curBelow code 20 c).2).2) else (⟨5, 0, noPlan, 0, 0, 0, 0⟩, (curOnce code 3 (curBelow code 20 c).2).2)) by unfold curDeed; rw [if_neg q6, if_neg q10, if_neg q15, if_neg q15e, if_neg q16, if_neg q17, if_neg q18])
 have r15 : ((curBelow code 20 c).1 == 15) = false := beq_eq_false_iff_ne.2 (by omega)
 have r16 : ((curBelow code 20 c).1 == 16) = false := beq_eq_false_iff_ne.2 (by omega)
 have r17 : ((curBelow code 20 c).1 == 17) = false := beq_eq_false_iff_ne.2 (by omega)
 have r18 : ((curBelow code 20 c).1 == 18) = false := beq_eq_false_iff_ne.2 (by omega)
 generalize curBelow code 20 c = k at *
 go_wp2_with fail
 refine (once_any 3 b _ code k.2 w1 (by decide) h1 ).mono ?_
 rintro e_w2 w2 ⟨rfl, h2, cc2⟩
 replace RES := RES.chg cc2 (fun hx => by have := hbm.out _ hx; omega)
 replace X := X.chg cc2 (fun hx => by have := hbm.out _ hx; omega)
 replace hy : yardD.ow w2 F y (⟨A1, n1, c1⟩, ⟨A2, n2, c2⟩) := yardD.ow_chg (F := F) (x := y) (s := (⟨A1, n1, c1⟩, ⟨A2, n2, c2⟩)) hy cc2 (fun x hx hx2 => by have h1 := hbm.out x hx2; subst h1; exact hbF hx)
 replace hC := hC.trans cc2
 cases o3 : (curOnce code 3 k.2).1
 ·have H := Lib.hid (H0.out.trans (if_neg (by rw [o3]; simp)))
  have hCR : Chg [w.heap.size + 1] w2 (((((((((((w2.setCell ⟨w.heap.size + 1, 0, none⟩ (.int .i64 5)).setCell ⟨w.heap.size + 1, 1, none⟩ (.int .i64 0)).setCell ⟨w.heap.size + 1, 2, none⟩ (.int .i64 0)).setCell ⟨w.heap.size + 1, 3, none⟩ (.int .i64 0)).setCell ⟨w.heap.size + 1, 4, none⟩ (.int .i64 0)).setCell ⟨w.heap.size + 1, 5, none⟩ (.int .i64 0)).setCell ⟨w.heap.size + 1, 6, none⟩ (.slice none 0 0)).setCell ⟨w.heap.size + 1, 7, none⟩ (.int .i64 0)).setCell ⟨w.heap.size + 1, 8, none⟩ (.int .i64 0)).setCell ⟨w.heap.size + 1, 9, none⟩ (.int .i64 0)).setCell ⟨w.heap.size + 1, 10, none⟩ (.int .i64 0)) := wSeq_chg [.int .i64 5, .int .i64 0, .int .i64 0, .int .i64 0, .int .i64 0, .int .i64 0, .slice none 0 0, .int .i64 0, .int .i64 0, .int .i64 0, .int .i64 0] w2 (w.heap.size + 1) 0
  have RES2 := DBox.row11d RES rfl (.int .i64 5) (.int .i64 0) (.int .i64 0) (.int .i64 0) (.int .i64 0) (.int .i64 0) (.slice none 0 0) (.int .i64 0) (.int .i64 0) (.int .i64 0) (.int .i64 0)
  have h9 := h2.chg hCR (fun x hx => by (have h5 : x = w.heap.size + 1 := List.mem_singleton.1 hx); omega)
  have hC9 := hC.more hCR (Nat.le_succ _)
  obtain ⟨RES_0, RES_1, RES_2, RES_3, RES_4, RES_5, RES_6, RES_7, RES_8, RES_9, RES_10, RES_l⟩ := RES.g11
  have rf := RES.free
  go_wp2
  refine bodyPost_ret (Deed_res RES2) rfl ⟨⟨none, 0, 0⟩, [], by rw [H.out] <;> rfl, by rw [H.out]; exact OwL.nil edgeD _ none 0, (fun _ h => by cases h), by rw [H.out]; exact h9, hC9⟩
 ·have H := Lib.hid (H0.out.trans (if_pos o3))
  have hCR : Chg [w.heap.size + 1] w2 (((((((((((w2.setCell ⟨w.heap.size + 1, 0, none⟩ (.int .i64 8)).setCell ⟨w.heap.size + 1, 1, none⟩ (.int .i64 0)).setCell ⟨w.heap.size + 1, 2, none⟩ (.int .i64 0)).setCell ⟨w.heap.size + 1, 3, none⟩ (.int .i64 0)).setCell ⟨w.heap.size + 1, 4, none⟩ (.int .i64 0)).setCell ⟨w.heap.size + 1, 5, none⟩ (.int .i64 0)).setCell ⟨w.heap.size + 1, 6, none⟩ (.slice none 0 0)).setCell ⟨w.heap.size + 1, 7, none⟩ (.int .i64 0)).setCell ⟨w.heap.size + 1, 8, none⟩ (.int .i64 0)).setCell ⟨w.heap.size + 1, 9, none⟩ (.int .i64 0)).setCell ⟨w.heap.size + 1, 10, none⟩ (.int .i64 0)) := wSeq_chg [.int .i64 8, .int .i64 0, .int .i64 0, .int .i64 0, .int .i64 0, .int .i64 0, .slice none 0 0, .int .i64 0, .int .i64 0, .int .i64 0, .int .i64 0] w2 (w.heap.size + 1) 0
  have RES2 := DBox.row11d RES rfl (.int .i64 8) (.int .i64 0) (.int .i64 0) (.int .i64 0) (.int .i64 0) (.int .i64 0) (.slice none 0 0) (.int .i64 0) (.int .i64 0) (.int .i64 0) (.int .i64 0)
  have h9 := h2.chg hCR (fun x hx => by (have h5 : x = w.heap.size + 1 := List.mem_singleton.1 hx); omega)
  have hC9 := hC.more hCR (Nat.le_succ _)
  obtain ⟨RES_0, RES_1, RES_2, RES_3, RES_4, RES_5, RES_6, RES_7, RES_8, RES_9, RES_10, RES_l⟩ := RES.g11
  have rf := RES.free
  go_wp2
  refine bodyPost_ret (Deed_res RES2) rfl ⟨⟨none, 0, 0⟩, [], by rw [H.out] <;> rfl, by rw [H.out]; exact OwL.nil edgeD _ none 0, (fun _ h => by cases h), by rw [H.out]; exact h9, hC9⟩
end Go.Proofs.Ytonlnjdempbfoaa
end
section
namespace Go.Proofs.Ytonlnjdempbfoaa
open Go.RowKit
set_option maxRecDepth 100000
set_option linter.unusedVariables false
set_option linter.unusedSimpArgs false
theorem cntRun_eq (r : Run) : cntRun r = r.plan.edges.length + r.tasks.length := by
 have e1 : cntPlan r.plan = r.plan.edges.length := cntL_zero (fun _ => rfl) _
 have e2 : cntL cntTask r.tasks = r.tasks.length := cntL_zero (fun _ => rfl) _
 unfold cntRun
 omega
theorem cnt_small2 {y : Yard} {M : Nat} (h4 : y.shelf.length = 4) (hM : ∀ s ∈ y.shelf, s.length ≤ M) (h8 : y.runs.length ≤ 8) (hr : ∀ r ∈ y.runs, cntRun r ≤ 42) : cntYard y ≤ 4 * (M + 1) + 344 := by
 have h1 : cntL cntEntryS y.shelf ≤ y.shelf.length * (M + 1) := cntL_le (fun s hs => by
  have e : cntEntryS s = s.length := cntL_zero (fun _ => rfl) _
  rw [e]
  exact hM s hs)
 have h2 : cntL cntRun y.runs ≤ y.runs.length * (42 + 1) := cntL_le hr
 rw [h4] at h1
 have h3 : y.runs.length * (42 + 1) ≤ 8 * 43 := Nat.mul_le_mul_right _ h8
 unfold cntYard
 omega
theorem yard_run_small {y : Yard} (h : yardP y) : ∀ r ∈ y.runs, cntRun r ≤ 42 := fun r hr => by
 obtain ⟨k, hk, rfl⟩ := List.getElem_of_mem hr
 exact run_small (yard_runs h hk)
theorem turn_cnt {y : Yard} {k : Nat} {r : Run} (hy : yardP y) (hk : k < y.runs.length) (hc : cntRun r ≤ 42) (hT : r.tasks.length ≤ 12) : cntYard (turnY y k r) ≤ 2000000 := by
 rw [turnY_lay _ _ _ hk]
 have hF := layN_f (y := ⟨y.now, y.seq, y.shelf, y.runs.set k r⟩) (was := y.runs[k]) (r := r) (M := 80) (fun s hs => (hy.2.2.2.1 s hs).1) r.tasks.length
 have := cnt_small2 (M := 92) (hF.len.trans hy.2.2.1) (fun s hs => by have := hF.all s hs; omega) (by rw [hF.runs]; simp; exact hy.2.2.2.2.2.2.1) (fun x hx => by
  rw [hF.runs] at hx
  rcases List.mem_or_eq_of_mem_set hx with h | h
  ·exact yard_run_small hy x h
  ·rw [h]; exact hc)
 omega
theorem Trn.folds {y : Yard} (hy : yardP y) : ∀ (l : List (Nat × Nat)) (z : Yard) (m : Nat), Trn y m z → (∀ p ∈ l, p.1 < y.runs.length ∧ p.2 < (runJ y p.1).tasks.length) → Trn y (m + l.length) (failsY z l)
 | [], z, m, h, _ => h
 | p :: l, z, m, h, hl => by
  have hp := hl p (List.mem_cons_self ..)
  have hk : p.1 < z.runs.length := by rw [h.len]; exact hp.1
  have h1 := h.fail hk (t := p.2) (by rw [(h.run p.1 hk hp.1).2.2, ← runJ_get hp.1]; exact hp.2)
  have h2 := Trn.folds hy l (failAt z p.1 p.2) (m + 1) h1 (fun q hq => hl q (List.mem_cons_of_mem _ hq))
  rw [List.length_cons, show m + (l.length + 1) = m + 1 + l.length by omega]
  exact h2
theorem pairsU_mem {y : Yard} {n : Nat} {p : Nat × Nat} (h : p ∈ pairsU y n) : p.1 < n ∧ p.2 < (runJ y p.1).tasks.length := by
 unfold pairsU at h
 obtain ⟨j, hj, hp⟩ := List.mem_flatMap.1 h
 unfold pairsR at hp
 obtain ⟨t, ht, rfl⟩ := List.mem_map.1 hp
 exact ⟨List.mem_range.1 hj, List.mem_range.1 ht⟩
theorem pairsU_len {y : Yard} (h : ∀ j, (runJ y j).tasks.length ≤ 12) : ∀ k, (pairsU y k).length ≤ 12 * k
 | 0 => by simp [pairsU]
 | k + 1 => by
  rw [pairsU_succ, List.length_append]
  have h1 := pairsU_len h k
  have h3 := h k
  have h2 : (pairsR k (runJ y k).tasks.length).length = (runJ y k).tasks.length := by unfold pairsR; simp
  omega
theorem ask_ok {y : Yard} {id tk tr : Int} (q : askC y id tk tr = 0) : yardP y ∧ ∃ k, ∃ hk : k < y.runs.length, runAt y id = (k : Int) ∧ runK y id = y.runs[k] := by
 unfold askC at q
 by_cases p0 : yardP y
 ·by_cases p1 : runAt y id < 0
  ·rw [if_neg (fun h => h p0), if_pos p1] at q; cases q
  ·rcases runAt_range y id with hr | ⟨k, hk, hr⟩
   ·omega
   ·exact ⟨p0, k, hk, hr, runK_get hk hr⟩
 ·rw [if_pos p0] at q; cases q
theorem doO_cnt {y : Yard} {d : Deed} (h : cntYard y ≤ 2000000) : cntYard (doO y d).1 ≤ 2000000 := by
 unfold doO
 split
 ·exact h
 split
 ·show cntYard (subY y d.run d.plan) ≤ _
  unfold subY
  split
  ·next q =>
   unfold subC at q
   by_cases p0 : yardP y
   ·rw [if_neg (fun h => h p0)] at q
    split at q
    ·cases q
    split at q
    ·cases q
    split at q
    ·next hf => exact absurd q hf
    next hf =>
    split at q
    ·cases q
    next hr =>
    have hf0 : planFault d.plan = 0 := Classical.not_not.1 hf
    have hm := planFault_zero.1 hf0
    have hT := manyOk_tasks hm.1
    have hE := manyOk_edges hm.1
    have hnl := newRun_len d.run d.plan
    have hr8 : y.runs.length < 8 := by
     have hr' : roomB y d.plan = true := by cases e : roomB y d.plan <;> simp_all
     unfold roomB at hr'
     simp only [Bool.and_eq_true, decide_eq_true_eq] at hr'
     exact hr'.1
    have hF := layN_f (y := ⟨y.now, y.seq, y.shelf, y.runs ++ [newRun d.run d.plan]⟩) (was := zeroRun) (r := newRun d.run d.plan) (M := 80) (fun s hs => (p0.2.2.2.1 s hs).1) (newRun d.run d.plan).tasks.length
    have := cnt_small2 (y := layY ⟨y.now, y.seq, y.shelf, y.runs ++ [newRun d.run d.plan]⟩ zeroRun (newRun d.run d.plan)) (M := 92) (hF.len.trans p0.2.2.1) (fun s hs => by have := hF.all s hs; omega) (by
     show (layN _ _ _ _).runs.length ≤ 8
     rw [hF.runs]; simp; omega) (fun x hx => by
     have hx' : x ∈ (layN ⟨y.now, y.seq, y.shelf, y.runs ++ [newRun d.run d.plan]⟩ zeroRun (newRun d.run d.plan) (newRun d.run d.plan).tasks.length).runs := hx
     rw [hF.runs] at hx'
     rcases List.mem_append.1 hx' with h1 | h1
     ·exact yard_run_small p0 x h1
     ·rw [List.mem_singleton.1 h1, cntRun_eq]
      show d.plan.edges.length + _ ≤ 42
      omega)
    omega
   ·rw [if_pos p0] at q; cases q
  ·exact h
 ·show cntYard (pollR y d.worker d.draw).1 ≤ _
  unfold pollR
  by_cases p0 : yardP y
  case neg => rw [if_pos p0]; exact h
  rw [if_neg (fun h => h p0)]
  split
  ·exact h
  ·next hw =>
   have hw' := inB_iff.1 (show inB d.worker 0 99 = true by cases e : inB d.worker 0 99 <;> simp_all)
   have hh : (d.worker % 4).toNat < 4 := by omega
   have hP : Pol y (d.worker % 4).toNat (gotY y (d.worker % 4) d.draw) := by
    unfold gotY
    refine Pol.fold hh _ _ (Pol.start p0 hh) (fun v hv => ⟨victims_lt v hv, victims_ne (by omega) (by omega) v hv⟩)
   have hc := hP.cnt p0
   unfold pollO pollM
   split
   ·exact hc
   ·next e rest heq =>
    have h80 : ∀ s ∈ (gotY y (d.worker % 4) d.draw).shelf.set (d.worker % 4).toNat rest, s.length ≤ 80 := fun s hs => by
     rcases List.mem_or_eq_of_mem_set hs with h1 | h1
     ·exact hP.all s h1
     ·have h2 := hP.all _ (List.getElem_mem (show (d.worker % 4).toNat < (gotY y (d.worker % 4) d.draw).shelf.length by rw [hP.four]; exact hh))
      rw [shelf_getD (by rw [hP.four]; exact hh)] at heq
      rw [heq] at h2
      rw [h1]
      simp at h2
      omega
    have := cnt_small2 (y := ⟨(gotY y (d.worker % 4) d.draw).now, (gotY y (d.worker % 4) d.draw).seq, (gotY y (d.worker % 4) d.draw).shelf.set (d.worker % 4).toNat rest, (gotY y (d.worker % 4) d.draw).runs.set (runAt (gotY y (d.worker % 4) d.draw) e.run).toNat (startR (runK (gotY y (d.worker % 4) d.draw) e.run) e.task.toNat (gotY y (d.worker % 4) d.draw).now)⟩) (M := 80) (by simpa using hP.four) h80 (by simp; rw [hP.runs]; exact p0.2.2.2.2.2.2.1) (fun x hx => by
     rcases List.mem_or_eq_of_mem_set hx with h1 | h1
     ·rw [hP.runs] at h1; exact yard_run_small p0 x h1
     ·rw [h1, cntRun_eq, startR_len]
      show (runK (gotY y (d.worker % 4) d.draw) e.run).plan.edges.length + _ ≤ 42
      rw [← cntRun_eq]
      unfold runK
      rw [List.getD_eq_getElem?_getD]
      cases q : (gotY y (d.worker % 4) d.draw).runs[(runAt (gotY y (d.worker % 4) d.draw) e.run).toNat]? with
      | none => decide
      | some r =>
       have h2 := List.mem_of_getElem? q
       rw [hP.runs] at h2
       exact yard_run_small p0 r h2)
    dsimp only
    omega
 ·show cntYard (compY y d.run d.task d.try_) ≤ _
  unfold compY
  split
  ·next q =>
   obtain ⟨p0, k, hk, e1, e2⟩ := ask_ok q
   rw [e1, e2, Int.toNat_natCast]
   have hs := yard_run_small p0 _ (List.getElem_mem hk)
   have hl := runP_len (yard_runs p0 hk)
   exact turn_cnt p0 hk (by rw [cntRun_eq, doneR_len]; rw [cntRun_eq] at hs; exact hs) (by rw [doneR_len]; exact hl.2)
  ·exact h
 ·show cntYard (failY y d.run d.task d.try_) ≤ _
  unfold failY
  split
  ·next q =>
   obtain ⟨p0, k, hk, e1, e2⟩ := ask_ok q
   rw [e1, e2, Int.toNat_natCast]
   have hs := yard_run_small p0 _ (List.getElem_mem hk)
   have hl := runP_len (yard_runs p0 hk)
   exact turn_cnt p0 hk (by rw [cntRun_eq, failsR_len, (failsR_id _ _).2]; rw [cntRun_eq] at hs; exact hs) (by rw [failsR_len]; exact hl.2)
  ·exact h
 ·show cntYard (tickY y) ≤ _
  unfold tickY
  split
  ·next q =>
   unfold tickC at q
   by_cases p0 : yardP y
   ·have hT := Trn.folds p0 (lateU y y.runs.length) y 0 (Trn.start p0) (fun p hp => lateU_mem hp)
    have hl := lateU_len (runJ_len p0) y.runs.length
    have h8 := p0.2.2.2.2.2.2.1
    exact hT.cnt (by omega)
   ·rw [if_pos p0] at q; cases q
  ·exact h
 ·show cntYard (cancY y d.run) ≤ _
  unfold cancY
  split
  ·next q =>
   unfold cancC at q
   by_cases p0 : yardP y
   ·rw [if_neg (fun h => h p0)] at q
    split at q
    ·cases q
    next hr =>
    rcases runAt_range y d.run with e | ⟨k, hk, e⟩
    ·omega
    ·have hrun := runK_get hk e
     have := cnt_small2 (y := ⟨y.now, y.seq, y.shelf, y.runs.set (runAt y d.run).toNat (leaveR (runK y d.run) 4)⟩) (M := 80) p0.2.2.1 (fun s hs => (p0.2.2.2.1 s hs).1) (by simp; exact p0.2.2.2.2.2.2.1) (fun x hx => by
      rcases List.mem_or_eq_of_mem_set hx with h1 | h1
      ·exact yard_run_small p0 x h1
      ·have hs := yard_run_small p0 _ (List.getElem_mem hk)
       rw [cntRun_eq] at hs
       rw [h1, hrun, cntRun_eq]
       show y.runs[k].plan.edges.length + (y.runs[k].tasks.map leaveX).length ≤ 42
       rw [List.length_map]
       exact hs)
     omega
   ·rw [if_pos p0] at q; cases q
  ·exact h
 ·show cntYard (forgY y d.run) ≤ _
  unfold forgY
  split
  ·next q =>
   unfold forgC at q
   by_cases p0 : yardP y
   ·have := cnt_small2 (y := ⟨y.now, y.seq, y.shelf.map (othersE d.run), y.runs.take (runAt y d.run).toNat ++ y.runs.drop ((runAt y d.run).toNat + 1)⟩) (M := 80) (by simp; exact p0.2.2.1) (fun s hs => by
     obtain ⟨l, hl, rfl⟩ := List.mem_map.1 hs
     exact Nat.le_trans (List.length_filter_le _ _) (p0.2.2.2.1 l hl).1) (by have := p0.2.2.2.2.2.2.1; simp; omega) (fun x hx => by
     rcases List.mem_append.1 hx with h1 | h1
     ·exact yard_run_small p0 x (List.mem_of_mem_take h1)
     ·exact yard_run_small p0 x (List.mem_of_mem_drop h1))
    omega
   ·rw [if_pos p0] at q; cases q
  ·exact h
 ·show cntYard (restY y) ≤ _
  unfold restY
  split
  ·next p0 =>
   have hT := Trn.folds p0 (pairsU y y.runs.length) y 0 (Trn.start p0) (fun p hp => pairsU_mem hp)
   have hl := pairsU_len (runJ_len p0) y.runs.length
   have h8 := p0.2.2.2.2.2.2.1
   exact hT.cnt (by omega)
  ·exact h
end Go.Proofs.Ytonlnjdempbfoaa
end
section
namespace Go.Proofs.Ytonlnjdempbfoaa
open Go.RowKit
set_option maxRecDepth 100000
set_option maxHeartbeats 4000000
set_option linter.unusedVariables false
set_option linter.unusedSimpArgs false
theorem Chg.grow {b : Nat} {w w' : World} (hc : Chg [b] w w') : w.grownBy w' (some b) := ⟨hc.os, hc.tape, hc.output, hc.size, fun i hi hn => hc.block i hi (fun hx => hn (by rw [List.mem_singleton.1 hx]))⟩
theorem BldG.chgLow {α : Type} {d : Dt α} {E : TypeId} {w w' : World} {base b : Nat} {v : Value} {rs : List (α × d.S)} {G : List Nat} (h : BldG d E w base v rs G) (hc : Chg [b] w w') (hb : b < base) : BldG d E w' base v rs G :=
 ⟨h.1.grown hc.grow (.inr (fun e => by have := (h.1.within b e).1; omega)), h.2.1.chg hc (fun x hx hx2 => by (have h5 : x = b := List.mem_singleton.1 hx2); have := (h.2.2.2 x hx).1; omega), h.2.2.1, h.2.2.2⟩
theorem BldG.setLow {α : Type} {d : Dt α} {E : TypeId} {w : World} {base : Nat} {v : Value} {rs : List (α × d.S)} {G : List Nat} (h : BldG d E w base v rs G) (b o : Nat) (u : Value) (hb : b < base) : BldG d E (w.setCell ⟨b, o, none⟩ u) base v rs G := h.chgLow (Chg.setCell w b o u) hb
theorem Chg.moreL {F G : List Nat} {w w1 w2 : World} (h : Chg F w w1) (k : Chg G w1 w2) (hg : ∀ x ∈ G, w.heap.size ≤ x) : Chg F w w2 :=
 ⟨k.os.trans h.os, k.tape.trans h.tape, k.output.trans h.output, Nat.le_trans h.size k.size, fun i hi hn => (k.block i (Nat.lt_of_lt_of_le hi h.size) (fun hx => by have := hg i hx; omega)).trans (h.block i hi hn)⟩
theorem BldG.push2 {α : Type} {d : Dt α} {E : TypeId} {w1 w2 w5 : World} {base m : Nat} {v v5 : Value} {rs : List (α × d.S)} {G : List Nat} {x : α} {s : d.S} {F : List Nat} (h : BldG d E w1 base v rs G) (hG : ∀ b ∈ G, b < m) (hv : ∀ g, v.ownBlock = some g → g < m) (o1 : d.ow w1 F x s) (n1 : ∀ b ∈ F, m ≤ b)
  (hbase : base ≤ m) (hm : m ≤ w1.heap.size) (hb2 : Below w1.heap.size w1 w2) (o5 : Ow d.enc E w5 base v5 (rs ++ [(x, s)])) (g5 : w2.grownBy w5 v.ownBlock) (f5 : v5.ownBlock = v.ownBlock ∨ v5.ownBlock = some w2.heap.size) : BldG d E w5 base v5 (rs ++ [(x, s)]) (G ++ F) := by
 obtain ⟨h1, h2, h3, h4⟩ := h
 have hFl : ∀ b ∈ F, b < w1.heap.size := d.ow_lt o1
 have hvF : ∀ b ∈ F, v.ownBlock ≠ some b := fun b hb he => by
  have h5 := hv b he
  have h6 := n1 b hb
  omega
 have hs2 := hb2.size
 have ht : Ows d w2 F [(x, s)] := Ows.one (r := (x, s)) (d.ow_below o1 hb2)
 refine ⟨o5, ?_, ?_, ?_⟩
 ·refine Ows.append ((h2.bel hb2).keep g5.size fun b hbG => g5.block b (by have := hG b hbG; omega) ?_) (ht.keep g5.size fun b hbF => g5.block b (by have := hFl b hbF; omega) ?_)
  ·exact fun e => (h4 b hbG).2 e.symm
  ·exact fun e => hvF b hbF e.symm
 ·rw [List.nodup_append]
  refine ⟨h3, d.ow_nodup o1, fun a ha b hb' e => ?_⟩
  have := hG a ha
  have := n1 b hb'
  omega
 ·intro b hbm
  rcases List.mem_append.1 hbm with hbm | hbm
  ·refine ⟨(h4 b hbm).1, ?_⟩
   rcases f5 with hv5 | hv5
   ·rw [hv5]; exact (h4 b hbm).2
   ·rw [hv5]
    intro e
    have := hG b hbm
    injection e with e
    omega
  ·refine ⟨by have := n1 b hbm; omega, ?_⟩
   rcases f5 with hv5 | hv5
   ·rw [hv5]; exact hvF b hbm
   ·rw [hv5]
    intro e
    have := hFl b hbm
    injection e with e
    omega
noncomputable def deedsN (code : List UInt8) (c : Cur) : Nat → (List Deed × Yard) × Cur
 | 0 => (([], yardNew), c)
 | n + 1 => ((((deedsN code c n).1.1 ++ [(curDeed code (deedsN code c n).1.2 (deedsN code c n).2).1], (doO (deedsN code c n).1.2 (curDeed code (deedsN code c n).1.2 (deedsN code c n).2).1).1), (curDeed code (deedsN code c n).1.2 (deedsN code c n).2).2))
theorem yardNew_cnt : cntYard yardNew ≤ 2000000 := by decide
theorem deedsN_cnt (code : List UInt8) (c : Cur) : ∀ n, cntYard (deedsN code c n).1.2 ≤ 2000000
 | 0 => yardNew_cnt
 | n + 1 => doO_cnt (deedsN_cnt code c n)
theorem deedsN_len (code : List UInt8) (c : Cur) : ∀ n, (deedsN code c n).1.1.length = n
 | 0 => rfl
 | n + 1 => by show ((deedsN code c n).1.1 ++ [_]).length = n + 1; rw [List.length_append, deedsN_len code c n]; rfl
theorem curDeed_edges (code : List UInt8) (y : Yard) (c : Cur) : (curDeed code y c).1.plan.edges.length ≤ 2000000 := by
 have h0 : noPlan.edges.length ≤ 2000000 := by decide
 have h1 : ∀ c, (curPlan code c).1.edges.length ≤ 2000000 := fun c => by
  have := manyOk_edges (planFault_zero.1 (curPlan_ok code c)).1
  omega
 unfold curDeed
 simp only []
 (repeat' split) <;> first | exact h0 | exact h1 _
/-- deeds and a yard of the call's own, drawn -/
def DeedsP (b : Nat) (v : Value) (code : List UInt8) (r : (List Deed × Yard) × Cur) (w : World) (e : Ending) (w' : World) : Prop :=
 ∃ (l : Sl) (F1 : List Nat) (s : Sl × Sl) (F2 : List Nat), e = .returned (.tuple #[.slice l.a l.n l.c, yardW r.1.2 s]) ∧ OwL deedD w' F1 l.v r.1.1 ∧ (∀ x ∈ F1, w.heap.size ≤ x) ∧ yardD.ow w' F2 r.1.2 s ∧ (∀ x ∈ F2, w.heap.size ≤ x) ∧ Drw b v code r.2 w' ∧ Chg [b] w w'
theorem Deeds_res {b : Nat} {w : World} {u0 u1 u2 u3 v4 : Value} (X : DBox b [u0, u1, u2, u3] w) {v0 v1 v2 v3 : Value} {rest : List Value} :
  (results Try.f32 (v0 :: v1 :: v2 :: v3 :: v4 :: .pointer (some ⟨b, 0, none⟩) :: rest).toArray).run Try.prog w = .ok (.tuple #[v4, .agg #[u0, u1, u2, u3]]) w := by
 have c0 := X.cell 0 _ rfl
 have c1 := X.cell 1 _ rfl
 have c2 := X.cell 2 _ rfl
 have c3 := X.cell 3 _ rfl
 simp [results, Try.results32, go_sem, c0, c1, c2, c3]
theorem deeds_any (b : Nat) (v : Value) (code : List UInt8) (c : Cur) (many : Nat) (w : World) (hm : many ≤ 1000) (h : Drw b v code c w) :
  Calls Try.prog 32 #[.pointer (some ⟨b, 0, none⟩), .int .i64 (many : Int)] w (DeedsP b v code (deedsN code c many) w) := by
 have hb := h.box.lt
 have hbm := Lib.hid (show ∀ x, x ∈ [b] → x = b from fun x hx => by simpa using hx)
 obtain ⟨i0, hi0, hz0, hz1, hz2⟩ := info_parts deed_infoD
 have RES := DBox.new 61 [.int .i64 0, .int .i64 0, .slice none 0 0, .slice none 0 0] w (b := w.heap.size) rfl
 have B0 : Below w.heap.size w (w.alloc (.cells #[.int .i64 0, .int .i64 0, .slice none 0 0, .slice none 0 0] 61)) := by repeat (first | exact Below.refl _ _ | refine Below.alloc ?_ (by simp <;> omega) _)
 replace h := h.below B0
 go_enter Try.func32, Try.ntmps32
 go_wp2_with fail
 generalize (w.alloc (.cells #[.int .i64 0, .int .i64 0, .slice none 0 0, .slice none 0 0] 61)) = W at *
 have hWl : w.heap.size < W.heap.size := RES.lt
 refine (specYardNew_own W).mono ?_
 rintro e1 w1 ⟨⟨⟨B1, m1, e1⟩, ⟨B2, m2, e2⟩⟩, F, rfl, oy, nF, b1⟩
 replace h := h.below b1
 replace RES := RES.below b1
 replace B0 := bnext B0 b1
 have hs1 := b1.size
 have hFl := yardD.ow_lt (F := F) (x := yardNew) (s := (⟨B1, m1, e1⟩, ⟨B2, m2, e2⟩)) oy
 clear b1
 go_upto_region 2 with fail
 have YB := DBox.new 61 (yardCs yardNew (⟨B1, m1, e1⟩, ⟨B2, m2, e2⟩)) w1 (b := w1.heap.size) rfl
 have b2 : Below w1.heap.size w1 (w1.alloc (.cells (yardCs yardNew (⟨B1, m1, e1⟩, ⟨B2, m2, e2⟩)).toArray 61)) := (Below.refl _ _).alloc (Nat.le_refl _) _
 replace h := h.below b2
 replace RES := RES.below b2
 replace oy : yardD.ow _ F yardNew (⟨B1, m1, e1⟩, ⟨B2, m2, e2⟩) := yardD.ow_below (F := F) (x := yardNew) (s := (⟨B1, m1, e1⟩, ⟨B2, m2, e2⟩)) oy b2
 replace B0 := bnext B0 b2
 have hYl := YB.lt
 clear b2
 generalize w1.alloc (.cells (yardCs yardNew (⟨B1, m1, e1⟩, ⟨B2, m2, e2⟩)).toArray 61) = w2 at *
 generalize hyb : w1.heap.size = yb at *
 have q0 : Below w2.heap.size w2 (w2.alloc (.cells #[] 37)) := (Below.refl _ _).alloc (Nat.le_refl _) _
 have o0 := Ow.empty deedD.enc 37 w2 rfl
 have hF0 : Hid (∀ x ∈ F, w.heap.size < x ∧ x ≠ yb ∧ (Value.slice (some ⟨w2.heap.size, 0, none⟩) 0 0).ownBlock ≠ some x) := fun x hx => ⟨by have := nF x hx; omega, by have := hFl x hx; omega, fun e => by have h5 := Option.some.inj (show some w2.heap.size = some x from e); have := hFl x hx; omega⟩
 have hC := Chg.of_below [b] (bnext B0 q0)
 replace h := h.below q0
 replace RES := RES.below q0
 replace YB := YB.below q0
 replace oy : yardD.ow _ F yardNew (⟨B1, m1, e1⟩, ⟨B2, m2, e2⟩) := yardD.ow_below (F := F) (x := yardNew) (s := (⟨B1, m1, e1⟩, ⟨B2, m2, e2⟩)) oy q0
 have hbb : Hid (BldG deedD 37 (w2.alloc (.cells #[] 37)) w2.heap.size (.slice (some ⟨w2.heap.size, 0, none⟩) 0 0) [] []) := ⟨o0, .nil, List.nodup_nil, fun _ h => by cases h⟩
 clear q0 o0 nF hFl B0
 go_wp2
 go_loopw [7, 8, 9] (fun lv iv u9 wr => ∃ (n : Nat) (vl : Value) (rs : List (Deed × deedD.S)) (G : List Nat) (s : Sl × Sl) (F : List Nat), n ≤ many ∧ iv = .int .i64 n ∧ vl = lv ∧ Hid (rs.map (·.1) = (deedsN code c n).1.1) ∧ Hid (BldG deedD 37 wr w2.heap.size vl rs G) ∧ Hid (yardD.ow wr F (deedsN code c n).1.2 s) ∧ Hid (∀ x ∈ F, w.heap.size < x ∧ x ≠ yb ∧ vl.ownBlock ≠ some x) ∧ DBox yb (yardCs (deedsN code c n).1.2 s) wr ∧ DBox w.heap.size [.int .i64 0, .int .i64 0, .slice none 0 0, .slice none 0 0] wr ∧ Drw b v code (deedsN code c n).2 wr ∧ Chg [b] w wr ∧ w2.heap.size ≤ wr.heap.size) (fun _ i _ _ => many - (intOf i).toNat)
 case atStart => exact ⟨0, _, [], [], (⟨B1, m1, e1⟩, ⟨B2, m2, e2⟩), F, Nat.zero_le _, rfl, rfl, rfl, hbb, oy, hF0, YB, RES, h, hC, by simp⟩
 case round =>
  clear h RES YB oy hC hbb hF0
  obtain ⟨n, vl, rs, G, s, F, hn, rfl, rfl, hmap, hbb, oy, hF, YB, RES, h, hC, hw2⟩ := hrel
  have hcy := Lib.hid (deedsN_cnt code c n)
  have hln := Lib.hid (deedsN_len code c n)
  have hstep : Hid (deedsN code c (n + 1) = ((((deedsN code c n).1.1 ++ [(curDeed code (deedsN code c n).1.2 (deedsN code c n).2).1], (doO (deedsN code c n).1.2 (curDeed code (deedsN code c n).1.2 (deedsN code c n).2).1).1), (curDeed code (deedsN code c n).1.2 (deedsN code c n).2).2))) := rfl
  have hend := Lib.hid (show n = many → deedsN code c many = deedsN code c n from fun e => by rw [e])
  generalize deedsN code c n = p at *
  obtain ⟨⟨L, Y⟩, cu⟩ := p
  dsimp only at hmap hcy hln hstep oy YB h
  replace oy : yardD.ow wr F Y s := oy.out
  obtain ⟨YB_0, YB_1, YB_2, YB_3, YB_l⟩ := YB.g4
  by_cases hlt : n < many
  ·have hltI : (n : Int) < (many : Int) := by omega
   have hbF : b ∉ F := fun hx => by have := (hF.out _ hx).1; omega
   have hFlt := yardD.ow_lt (F := F) (x := Y) (s := s) oy
   go_wp2_with fail
   refine (deed_any b _ code cu Y s F wr hcy.out h oy hbF).mono ?_
   rintro e3 w3 ⟨sd, Fd, rfl, od, nd, h3, cc3⟩
   have hed := curDeed_edges code Y cu
   generalize hdd : curDeed code Y cu = dd at *
   obtain ⟨d, cu2⟩ := dd
   dsimp only at od h3 hed hstep
   have hGlt : ∀ x ∈ G, x < wr.heap.size := hbb.out.2.1.lt
   have hvlt : ∀ g, vl.ownBlock = some g → g < wr.heap.size := fun g hg => (hbb.out.1.within g hg).2
   have hbw2 : b < w2.heap.size := by omega
   have hcs := cc3.size
   replace hbb := hbb.out.chgLow cc3 hbw2
   have hybb : yb ≠ b := by omega
   clear YB_0 YB_1 YB_2 YB_3 YB_l
   replace YB := YB.chg cc3 (fun hx => hybb (hbm.out _ hx))
   replace RES := RES.chg cc3 (fun hx => by have := hbm.out _ hx; omega)
   replace oy : yardD.ow w3 F Y s := yardD.ow_chg (F := F) (x := Y) (s := s) oy cc3 (fun x hx hx2 => by have h1 := hbm.out x hx2; subst h1; exact hbF hx)
   replace hC := hC.trans cc3
   have DB := DBox.new 37 [.int .i64 d.kind, .int .i64 d.run, .int .i64 d.plan.prio, .int .i64 d.plan.most, .int .i64 d.plan.wait, .int .i64 d.plan.tasks, .slice sd.a sd.n sd.c, .int .i64 d.task, .int .i64 d.try_, .int .i64 d.worker, .int .i64 d.draw] w3 (b := w3.heap.size) rfl
   have b4 : Below w3.heap.size w3 (w3.alloc (.cells #[.int .i64 d.kind, .int .i64 d.run, .int .i64 d.plan.prio, .int .i64 d.plan.most, .int .i64 d.plan.wait, .int .i64 d.plan.tasks, .slice sd.a sd.n sd.c, .int .i64 d.task, .int .i64 d.try_, .int .i64 d.worker, .int .i64 d.draw] 37)) := (Below.refl _ _).alloc (Nat.le_refl _) _
   go_upto_region 7 with fail
   replace YB := YB.below b4
   replace RES := RES.below b4
   replace oy : yardD.ow _ F Y s := yardD.ow_below (F := F) (x := Y) (s := s) oy b4
   replace h3 := h3.below b4
   replace od : planD.ow _ Fd d.plan sd := planD.ow_below (F := Fd) (x := d.plan) (s := sd) od b4
   replace hbb := hbb.below b4
   replace hC := hC.trans (Chg.of_below [b] b4)
   have hDl := DB.lt
   have hs4 := b4.size
   clear b4
   generalize w3.alloc (.cells #[.int .i64 d.kind, .int .i64 d.run, .int .i64 d.plan.prio, .int .i64 d.plan.most, .int .i64 d.plan.wait, .int .i64 d.plan.tasks, .slice sd.a sd.n sd.c, .int .i64 d.task, .int .i64 d.try_, .int .i64 d.worker, .int .i64 d.draw] 37) = w4 at *
   generalize hdb : w3.heap.size = db at *
   obtain ⟨A7, c7, hv7, -⟩ := _root_.id (Rd.of_own hbb.1)
   have hrl := Lib.hid (show rs.length = n by have h5 := congrArg List.length hmap.out; rw [List.length_map, hln.out] at h5; exact h5)
   have hrl3 := Lib.hid (show rs.length ≤ 3000000 by have := hrl.out; omega)
   generalize hn7 : rs.length = n7 at hv7
   subst hv7
   replace hn7 := Lib.hid hn7
   have hvd := Lib.hid (fun g (hg : (Value.slice A7 n7 c7).ownBlock = some g) => hbb.1.within g hg)
   replace hvlt := Lib.hid hvlt
   replace hGlt := Lib.hid hGlt
   obtain ⟨DB_0, DB_1, DB_2, DB_3, DB_4, DB_5, DB_6, DB_7, DB_8, DB_9, DB_10, DB_l⟩ := DB.g11
   have ha := Lib.hid (show ∀ w : World, Below w.heap.size w (w.alloc (.cells #[.int .i64 d.kind, .int .i64 d.run, .int .i64 d.plan.prio, .int .i64 d.plan.most, .int .i64 d.plan.wait, .int .i64 d.plan.tasks, .slice sd.a sd.n sd.c, .int .i64 d.task, .int .i64 d.try_, .int .i64 d.worker, .int .i64 d.draw] 37)) from fun w => (Below.refl _ _).alloc (Nat.le_refl _) _)
   have hw24 : w2.heap.size ≤ w4.heap.size := by omega
   go_upto_region 8 with (at_builtin; go_loud (refine wpList_push_all _ deedD.enc (by decide) rfl (.tmp 20) (.tmp 22) rfl Try.underlying57 hi0 hz0 hz1 hz2 rfl (base := w2.heap.size) (v := .slice A7 n7 c7) (l := rs) rfl (hbb.1.below (ha.out w4)) rfl (Rd.one deedD.enc _ _ (d, sd) rfl rfl 1 (Nat.le_refl _) (Nat.lt_succ_self _)) hrl3.out (by simp) (by decide) (by simp; omega) ?_); intro v5 w5 o5 g5 f5)
   have hP := hbb.push2 (x := d) (s := sd) (F := Fd) hGlt.out hvlt.out od nd (by omega) (by omega) (ha.out w4) o5 g5 f5
   have g5s := g5.size
   simp only [World.size_alloc] at g5s
   have rn : ∀ z, z < w2.heap.size → some z ≠ (Value.slice A7 n7 c7).ownBlock := fun z hz e => by have := (hvd.out z e.symm).1; omega
   have rd_ : some db ≠ (Value.slice A7 n7 c7).ownBlock := fun e => by have := hvlt.out db e.symm; omega
   clear DB_0 DB_1 DB_2 DB_3 DB_4 DB_5 DB_6 DB_7 DB_8 DB_9 DB_10 DB_l
   replace DB := (DB.below (ha.out w4)).off g5 rd_
   replace YB := (YB.below (ha.out w4)).off g5 (rn yb (by omega))
   replace RES := (RES.below (ha.out w4)).off g5 (rn _ (by omega))
   have oy5 : yardD.ow w5 F Y s := yardD.ow_keep (F := F) (x := Y) (s := s) (yardD.ow_below (F := F) (x := Y) (s := s) oy (ha.out w4)) g5.size (fun z hz => g5.block z (yardD.ow_lt (F := F) (x := Y) (s := s) (yardD.ow_below (F := F) (x := Y) (s := s) oy (ha.out w4)) z hz) (fun e => (hF.out z hz).2.2 e.symm))
   have hrow := Lib.hid (show ∀ x ∈ ((Value.slice A7 n7 c7).ownBlock).toList, w2.heap.size ≤ x from fun x hx => (hvd.out x (by simpa using hx)).1)
   have cg := Chg.grown (F := ((Value.slice A7 n7 c7).ownBlock).toList) g5 (fun g hg => by rw [hg]; simp)
   have h5 := (h3.below (ha.out w4)).chg cg (fun x hx => by have := hrow.out x hx; omega)
   have hC5 := (hC.trans (Chg.of_below [b] (ha.out w4))).moreL cg (fun x hx => by have := hrow.out x hx; omega)
   have od5 := planD.ow_keep (F := Fd) (x := d.plan) (s := sd) (planD.ow_below (F := Fd) (x := d.plan) (s := sd) od (ha.out w4)) g5.size (fun z hz => g5.block z (planD.ow_lt (F := Fd) (x := d.plan) (s := sd) (planD.ow_below (F := Fd) (x := d.plan) (s := sd) od (ha.out w4)) z hz) (fun e => by have h6 := hvlt.out z e.symm; have h7 := nd z hz; omega))
   have v5lt := Lib.hid (fun g (hg : v5.ownBlock = some g) => (o5.within g hg).2)
   obtain ⟨A8, c8, hv8, -⟩ := _root_.id (Rd.of_own o5)
   simp only [List.length_append, List.length_singleton] at hv8
   subst hv8
   clear hC oy od h3 cg o5 f5 g5 hbb rn rd_ ha
   have CD := Lib.hid (specDo_own Y s d sd w5 hcy.out hed (yardD.ow_rd (F := F) (x := Y) (s := s) oy5) (planD.ow_rd (F := Fd) (x := d.plan) (s := sd) od5))
   generalize doO Y d = o at *
   obtain ⟨z, rep⟩ := o
   dsimp only at hstep
   obtain ⟨YB_0, YB_1, YB_2, YB_3, YB_l⟩ := YB.g4
   obtain ⟨DB_0, DB_1, DB_2, DB_3, DB_4, DB_5, DB_6, DB_7, DB_8, DB_9, DB_10, DB_l⟩ := DB.g11
   go_wp2_with fail
   refine CD.out.mono ?_
   rintro e6 w6 ⟨s6, F6, rfl, oy6, n6, b6⟩
   replace oy6 : yardD.ow w6 F6 z s6 := oy6
   clear YB_0 YB_1 YB_2 YB_3 YB_l
   clear DB_0 DB_1 DB_2 DB_3 DB_4 DB_5 DB_6 DB_7 DB_8 DB_9 DB_10 DB_l
   clear DB CD
   replace YB := YB.below b6
   replace RES := RES.below b6
   replace h5 := h5.below b6
   replace hP := hP.below b6
   replace hC5 := hC5.trans (Chg.of_below [b] b6)
   have hs6 := b6.size
   have hn6 : ∀ x ∈ F6, w5.heap.size ≤ x := n6
   clear b6 n6 oy5 od5
   obtain ⟨YB_0, YB_1, YB_2, YB_3, YB_l⟩ := YB.g4
   have ybf := YB.free
   go_upto_region 5 with fail
   have hCo := Chg.cells4 w6 yb 0 1 2 3 (.int .i64 z.now) (.int .i64 z.seq) (.slice s6.1.a s6.1.n s6.1.c) (.slice s6.2.a s6.2.n s6.2.c)
   have hym := Lib.hid (show ∀ x, x ∈ [yb] → x = yb from fun x hx => by simpa using hx)
   clear YB_0 YB_1 YB_2 YB_3 YB_l
   clear ybf
   have YB7 := DBox.row4 YB rfl (.int .i64 z.now) (.int .i64 z.seq) (.slice s6.1.a s6.1.n s6.1.c) (.slice s6.2.a s6.2.n s6.2.c)
   have RES7 := RES.chg hCo (fun hx => by have := hym.out _ hx; omega)
   have h7 := h5.chg hCo (fun x hx => by have := hym.out _ hx; omega)
   have hP7 := hP.chgLow hCo (by omega)
   have oy7 := yardD.ow_chg (F := F6) (x := z) (s := s6) oy6 hCo (fun x hx hx2 => by have h8 := hym.out x hx2; have h9 := hn6 x hx; omega)
   have hC7 := hC5.more hCo (by omega)
   have hF7 : Hid (∀ x ∈ F6, w.heap.size < x ∧ x ≠ yb ∧ (Value.slice A8 (rs.length + 1) c8).ownBlock ≠ some x) := fun x hx => by
    have h9 := hn6 x hx
    exact ⟨by omega, by omega, fun e => by have := v5lt.out x e; omega⟩
   have hw7 := hCo.size
   have hmp : Hid ((rs ++ [(d, sd)]).map (·.1) = L ++ [d]) := by
    show (rs ++ [(d, sd)]).map (·.1) = L ++ [d]
    rw [List.map_append, hmap.out]; rfl
   clear RES YB h5 hP oy6 hC5 hCo hF hmap
   generalize (((w6.setCell ⟨yb, 0, none⟩ (.int .i64 z.now)).setCell ⟨yb, 1, none⟩ (.int .i64 z.seq)).setCell ⟨yb, 2, none⟩ (.slice s6.1.a s6.1.n s6.1.c)).setCell ⟨yb, 3, none⟩ (.slice s6.2.a s6.2.n s6.2.c) = w7 at *
   go_wp2
   exact ⟨⟨n + 1, .slice A8 (rs.length + 1) c8, rs ++ [(d, sd)], G ++ Fd, s6, F6, by omega, by go_num, rfl, by rw [hstep.out]; exact hmp, hP7, by rw [hstep.out]; exact oy7, hF7, by rw [hstep.out]; exact YB7, RES7, by rw [hstep.out]; exact h7, hC7, by omega⟩, by simp [intOf]; omega⟩
  ·have hltI : ¬ (n : Int) < (many : Int) := by omega
   have he := hend.out (by omega)
   replace he := Lib.hid he
   go_wp2
   refine Go.wp_region_noPanic ?_
   refine wp_region_held_drew (S := (fun w' => DBox yb (yardCs Y s) w')) (by kernel_rfl) (DBox.drew4 YB) (fun hHeld => ?_)
   replace oy : yardD.ow wr.drew F Y s := yardD.ow_below (F := F) (x := Y) (s := s) oy (Below.refl _ _).drew
   replace h := h.below (Below.refl _ _).drew
   replace RES : DBox _ _ wr.drew := DBox.drew4 RES
   replace hbb := Lib.hid (hbb.out.below (Below.refl _ _).drew)
   replace hC := hC.trans (Chg.of_below [b] (Below.refl wr.heap.size wr).drew)
   have hwd : wr.drew.heap.size = wr.heap.size := rfl
   rw [← hwd] at hw2
   clear YB_0 YB_1 YB_2 YB_3 YB_l
   clear YB hwd
   generalize wr.drew = w5 at *
   refine tZ 0 ?_ (hy := by (intro w' hSw; (try dsimp only at hSw); have f0 := hSw.cell 0 _ rfl; have f1 := hSw.cell 1 _ rfl; have f2 := hSw.cell 2 _ rfl; have f3 := hSw.cell 3 _ rfl; go_simp; (try with_reducible rfl)))
   (try simp only [pS])
   refine tZ 1 ?_ (hy := by (intro w' hSw; (try dsimp only at hSw); have f0 := hSw.cell 0 _ rfl; have f1 := hSw.cell 1 _ rfl; have f2 := hSw.cell 2 _ rfl; have f3 := hSw.cell 3 _ rfl; go_simp; (try with_reducible rfl)))
   (try simp only [pS])
   refine tZ 2 ?_ (hy := by (intro w' hSw; (try dsimp only at hSw); have f0 := hSw.cell 0 _ rfl; have f1 := hSw.cell 1 _ rfl; have f2 := hSw.cell 2 _ rfl; have f3 := hSw.cell 3 _ rfl; go_simp; (try with_reducible rfl)))
   (try simp only [pS])
   obtain ⟨RES_0, RES_1, RES_2, RES_3, RES_l⟩ := RES.g4
   have rf := RES.free
   have hwyb : w.heap.size < yb := by omega
   refine rC 3 (fun K_ hK => ?_)
   go_simp
   refine hK.out _ _ ((((hHeld.setOther (a := ⟨w.heap.size, 0, none⟩) (by show yb ≠ w.heap.size; omega) _).setOther (a := ⟨w.heap.size, 1, none⟩) (by show yb ≠ w.heap.size; omega) _).setOther (a := ⟨w.heap.size, 2, none⟩) (by show yb ≠ w.heap.size; omega) _).setOther (a := ⟨w.heap.size, 3, none⟩) (by show yb ≠ w.heap.size; omega) _) (fun hHeld => ?_)
   clear hK K_ hHeld
   (try simp only [pS])
   refine wpAnyH_done (by kernel_rfl) ?_ _
   refine NoPanic.normal ?_
   have hCo := Chg.cells4 w5 (w.heap.size) 0 1 2 3 (.int .i64 Y.now) (.int .i64 Y.seq) (.slice s.1.a s.1.n s.1.c) (.slice s.2.a s.2.n s.2.c)
   have hym := Lib.hid (show ∀ x, x ∈ [w.heap.size] → x = w.heap.size from fun x hx => by simpa using hx)
   clear RES_0 RES_1 RES_2 RES_3 RES_l
   clear rf
   have RES7 := DBox.row4 RES rfl (.int .i64 Y.now) (.int .i64 Y.seq) (.slice s.1.a s.1.n s.1.c) (.slice s.2.a s.2.n s.2.c)
   have h7 := h.chg hCo (fun x hx => by have := hym.out _ hx; omega)
   have hP7 := hbb.out.chgLow hCo (by omega)
   have oy7 := yardD.ow_chg (F := F) (x := Y) (s := s) oy hCo (fun x hx hx2 => by have h8 := hym.out x hx2; have h9 := (hF.out x hx).1; omega)
   have hC7 := hC.more hCo (Nat.le_refl _)
   obtain ⟨A7, c7, hv7, -⟩ := _root_.id (Rd.of_own hP7.1)
   subst hv7
   have hol := hP7.owl hmap.out
   have hGb := hP7.2.2.2
   have hvb := Lib.hid (fun g (hg : (Value.slice A7 rs.length c7).ownBlock = some g) => (hP7.1.within g hg).1)
   clear RES h oy hC hbb hCo hP7
   generalize (((w5.setCell ⟨w.heap.size, 0, none⟩ (.int .i64 Y.now)).setCell ⟨w.heap.size, 1, none⟩ (.int .i64 Y.seq)).setCell ⟨w.heap.size, 2, none⟩ (.slice s.1.a s.1.n s.1.c)).setCell ⟨w.heap.size, 3, none⟩ (.slice s.2.a s.2.n s.2.c) = w7 at *
   go_wp2
   refine bodyPost_ret (Deeds_res RES7) rfl ⟨⟨A7, rs.length, c7⟩, _, s, F, by rw [he.out], by rw [he.out]; exact hol, fun x hx => ?_, by rw [he.out]; exact oy7, fun x hx => by have := (hF.out x hx).1; omega, by rw [he.out]; exact h7, hC7⟩
   rcases List.mem_append.1 hx with hx | hx
   ·have h1 := hvb.out x (blocks_sub _ _ _ hx); omega
   ·have h1 := (hGb x hx).1; omega
end Go.Proofs.Ytonlnjdempbfoaa
end
