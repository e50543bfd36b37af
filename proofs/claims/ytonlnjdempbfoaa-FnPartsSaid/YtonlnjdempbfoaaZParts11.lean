/-
  Forget of the reference. Written by program (kzc.py). Tick of the reference. Written by program (kza.py). Restart of the reference. Written by program (kza.py).
-/
import Derived.Test.YtonlnjdempbfoaaZParts10
section
namespace Go.Proofs.Ytonlnjdempbfoaa
open Go.RowKit
set_option maxRecDepth 100000
set_option maxHeartbeats 4000000
set_option linter.unusedVariables false
set_option linter.unusedSimpArgs false
/-- of one's own yard, a run is cut out; the row of runs is laid anew -/
theorem yard_cut {y : Yard} {w : World} {F : List Nat} {s1 : Sl} {g o n c : Nat} (h : yardD.ow w F y (s1, ⟨some ⟨g, o, none⟩, n, c⟩)) {k : Nat} (hk : k < y.runs.length) :
  ∃ rs : List (Run × (Sl × Sl)), rs.length = n ∧ rs.length ≤ c ∧ n = y.runs.length ∧ Rd runD.enc w w.heap.size (.slice (some ⟨g, o, none⟩) n c) rs ∧
   ∀ (E : TypeId) (w8 : World) (A9 : Option Addr) (n9 c9 : Nat), Below w.heap.size w w8 → Ow runD.enc E w8 w.heap.size (.slice A9 n9 c9) (rs.take k ++ rs.drop (k + 1)) →
    ∃ F8, yardD.ow w8 F8 ⟨y.now, y.seq, y.shelf, y.runs.take k ++ y.runs.drop (k + 1)⟩ (s1, ⟨A9, n9, c9⟩) ∧ ∀ x ∈ F8, x ∈ F ∨ w.heap.size ≤ x := by
 obtain ⟨F1, F2, rfl, hnd, os, orr⟩ := h
 replace os : OwL (Dt.list entryD) w F1 s1.v y.shelf := os
 replace orr : OwL runD w F2 (.slice (some ⟨g, o, none⟩) n c) y.runs := orr
 have hn : n = y.runs.length := RdL.at1 (s := ⟨some ⟨g, o, none⟩, n, c⟩) orr.rd
 have hFl := orr.lt
 obtain ⟨rs, Hh, G, hm, hh, hG, rfl, hnG⟩ := orr
 have hrl : rs.length = y.runs.length := by have := congrArg List.length hm; rw [List.length_map] at this; exact this
 obtain ⟨G1, G2, rfl, hGa, hGb⟩ := hG.split k (by omega)
 rw [List.drop_eq_getElem_cons (show k < rs.length by omega)] at hGb
 obtain ⟨Gx, G3, rfl, _, hGc⟩ := hGb.head
 refine ⟨rs, by omega, hh.rd.cap, hn, hh.rd, fun E w8 A9 n9 c9 hb ho => ?_⟩
 obtain ⟨h5, h6⟩ := Hw.of_ow ho
 have hnG2 := (List.nodup_append.1 hnG).2.1
 have hG13 : (G1 ++ G3).Nodup := by
  rw [List.nodup_append] at hnG2 ⊢
  refine ⟨hnG2.1, (List.nodup_append.1 hnG2.2.1).2.1, fun a ha b hb' => hnG2.2.2 a ha b (List.mem_append_right _ hb')⟩
 have hGsub : ∀ x ∈ G1 ++ G3, x ∈ Hh ++ (G1 ++ (Gx ++ G3)) := fun x hx => by
  rcases List.mem_append.1 hx with h | h
  ·exact List.mem_append_right _ (List.mem_append_left _ h)
  ·exact List.mem_append_right _ (List.mem_append_right _ (List.mem_append_right _ h))
 refine ⟨F1 ++ (blocks (.slice A9 n9 c9) (rs.take k ++ rs.drop (k + 1)).length ++ (G1 ++ G3)), ⟨F1, _, rfl, ?_, os.below hb, ⟨rs.take k ++ rs.drop (k + 1), _, G1 ++ G3, ?_, h5, (hGa.append hGc).bel hb, rfl, ?_⟩⟩, fun x hx => ?_⟩
 ·rw [List.nodup_append]
  refine ⟨os.nodup, ?_, fun a ha b hb' e => ?_⟩
  ·rw [List.nodup_append]
   refine ⟨blocks_nodup _ _, hG13, fun a ha b hb' e => ?_⟩
   subst e
   have := h6 a ha
   have := hFl a (hGsub a hb')
   omega
  ·subst e
   rcases List.mem_append.1 hb' with h | h
   ·have := h6 a h; have := os.lt a ha; omega
   ·exact (List.nodup_append.1 hnd).2.2 a ha a (hGsub a h) rfl
 ·rw [List.map_append, List.map_take, List.map_drop, hm]
 ·rw [List.nodup_append]
  refine ⟨blocks_nodup _ _, hG13, fun a ha b hb' e => ?_⟩
  subst e
  have := h6 a ha
  have := hFl a (hGsub a hb')
  omega
 ·rcases List.mem_append.1 hx with h | h
  ·exact .inl (List.mem_append_left _ h)
  ·rcases List.mem_append.1 h with h | h
   ·exact .inr (h6 x h)
   ·exact .inl (List.mem_append_right _ (hGsub x h))
theorem map_set_atE (f : List Entry → List Entry) {l : List (List Entry)} {k : Nat} (hk : k < l.length) : ((l.take k).map f ++ l.drop k).set k (f l[k]) = (l.take (k + 1)).map f ++ l.drop (k + 1) := by
 rw [List.drop_eq_getElem_cons hk, List.set_append_right _ _ (by simp; omega)]
 rw [show k - ((l.take k).map f).length = 0 by simp; omega, List.set_cons_zero, List.take_succ_eq_append_getElem hk, List.map_append, List.append_assoc]
 rfl
theorem map_at_E (f : List Entry → List Entry) {l : List (List Entry)} {k : Nat} (hk : k < l.length) (h : k < ((l.take k).map f ++ l.drop k).length) : ((l.take k).map f ++ l.drop k)[k] = l[k] := by
 rw [List.getElem_append_right (by simp; omega)]
 simp [Nat.min_eq_left (Nat.le_of_lt hk)]
open Classical in
noncomputable def forgC (y : Yard) (id : Int) : Int :=
 if ¬ yardP y then 8 else if runAt y id < 0 then 10 else if (runK y id).state = 1 then 13 else 0
def othersE (id : Int) (l : List Entry) : List Entry := l.filter fun e => e.run != id
noncomputable def forgY (y : Yard) (id : Int) : Yard := if forgC y id = 0 then ⟨y.now, y.seq, y.shelf.map (othersE id), y.runs.take (runAt y id).toNat ++ y.runs.drop ((runAt y id).toNat + 1)⟩ else y
theorem Forget_res {b : Nat} {w : World} {u0 u1 u2 u3 : Value} (X : DBox b [u0, u1, u2, u3] w) {v0 v1 v2 v3 v5 : Value} {rest : List Value} :
  (results Try.f53 (v0 :: v1 :: v2 :: v3 :: .pointer (some ⟨b, 0, none⟩) :: v5 :: rest).toArray).run Try.prog w = .ok (.tuple #[.agg #[u0, u1, u2, u3], v5]) w := by
 have c0 := X.cell 0 _ rfl
 have c1 := X.cell 1 _ rfl
 have c2 := X.cell 2 _ rfl
 have c3 := X.cell 3 _ rfl
 simp [results, Try.results53, go_sem, c0, c1, c2, c3]
theorem specForget_own (y : Yard) (s : Sl × Sl) (id : Int) (w : World) (hl : cntYard y ≤ 2000000) (h : yardD.rd w w.heap.size y s) :
  Calls Try.prog 53 #[yardW y s, .int .i64 id] w (CodePost (forgY y id) (forgC y id) w) := by
 have HR := Lib.hid (show ∀ W, Below w.heap.size w W → yardD.rd W W.heap.size y s from fun W hW => yardD.rd_more (yardD.rd_below h hW) hW.size)
 obtain ⟨⟨A1, n1, c1⟩, ⟨A2, n2, c2⟩⟩ := s
 have CC := Lib.hid (fun W hW => specCopyYard_own y (⟨A1, n1, c1⟩, ⟨A2, n2, c2⟩) W hl (HR.out W hW))
 have CY := Lib.hid (fun W hW => specYardOk_any y (⟨A1, n1, c1⟩, ⟨A2, n2, c2⟩) W hl (HR.out W hW))
 have CA := Lib.hid (fun W hW => specRunAt_own y (⟨A1, n1, c1⟩, ⟨A2, n2, c2⟩) id W hl (HR.out W hW))
 have CX := Lib.hid (fun W hW => show RdL runD W W.heap.size (.slice A2 n2 c2) y.runs from (HR.out W hW).2)
 clear h HR
 have X := (DBox.new 61 [.int .i64 y.now, .int .i64 y.seq, .slice A1 n1 c1, .slice A2 n2 c2] w (b := w.heap.size) rfl).below ((Below.refl _ _).alloc (Nat.le_refl _) (.cells #[.int .i64 0, .int .i64 0, .slice none 0 0, .slice none 0 0] 61))
 have RES := DBox.new 61 [.int .i64 0, .int .i64 0, .slice none 0 0, .slice none 0 0] (w.alloc (.cells #[.int .i64 y.now, .int .i64 y.seq, .slice A1 n1 c1, .slice A2 n2 c2] 61)) (b := w.heap.size + 1) (by simp)
 have B0 : Below w.heap.size w ((w.alloc (.cells #[.int .i64 y.now, .int .i64 y.seq, .slice A1 n1 c1, .slice A2 n2 c2] 61)).alloc (.cells #[.int .i64 0, .int .i64 0, .slice none 0 0, .slice none 0 0] 61)) := by repeat (first | exact Below.refl _ _ | refine Below.alloc ?_ (by simp <;> omega) _)
 go_enter Try.func53, Try.ntmps53
 go_wp2_with fail
 generalize ((w.alloc (.cells #[.int .i64 y.now, .int .i64 y.seq, .slice A1 n1 c1, .slice A2 n2 c2] 61)).alloc (.cells #[.int .i64 0, .int .i64 0, .slice none 0 0, .slice none 0 0] 61)) = W at *
 have hRl : w.heap.size + 1 < W.heap.size := RES.lt
 refine (CC.out _ B0).mono ?_
 rintro e1 w1 ⟨⟨⟨B1, m1, e1⟩, ⟨B2, m2, e2⟩⟩, F, rfl, oy, nF, b1⟩
 have hs1 := b1.size
 have hFl := yardD.ow_lt (F := F) (x := y) (s := (⟨B1, m1, e1⟩, ⟨B2, m2, e2⟩)) oy
 replace X := X.below b1
 replace RES := RES.below b1
 replace B0 := bnext B0 b1
 clear b1
 go_upto_region 2 with fail
 have OB := DBox.new 61 [.int .i64 y.now, .int .i64 y.seq, .slice B1 m1 e1, .slice B2 m2 e2] w1 (b := w1.heap.size) rfl
 have b2 : Below w1.heap.size w1 (w1.alloc (.cells #[.int .i64 y.now, .int .i64 y.seq, .slice B1 m1 e1, .slice B2 m2 e2] 61)) := (Below.refl _ _).alloc (Nat.le_refl _) _
 replace X := X.below b2
 replace RES := RES.below b2
 replace oy := yardD.ow_below (F := F) (x := y) (s := (⟨B1, m1, e1⟩, ⟨B2, m2, e2⟩)) oy b2
 replace B0 := bnext B0 b2
 have ow1 := OB.lt
 clear b2
 generalize w1.alloc (.cells #[.int .i64 y.now, .int .i64 y.seq, .slice B1 m1 e1, .slice B2 m2 e2] 61) = w2 at *
 generalize hob : w1.heap.size = ob at *
 obtain ⟨X_0, X_1, X_2, X_3, X_l⟩ := X.g4
 obtain ⟨OB_0, OB_1, OB_2, OB_3, OB_l⟩ := OB.g4
 go_wp2_with fail
 refine (CA.out _ B0).mono ?_
 rintro e1 w3 ⟨rfl, b3⟩
 clear X_0 X_1 X_2 X_3 X_l
 clear OB_0 OB_1 OB_2 OB_3 OB_l
 replace X := X.below b3
 replace OB := OB.below b3
 replace RES := RES.below b3
 replace oy : yardD.ow w3 F y (⟨B1, m1, e1⟩, ⟨B2, m2, e2⟩) := yardD.ow_below (F := F) (x := y) (s := (⟨B1, m1, e1⟩, ⟨B2, m2, e2⟩)) oy b3
 replace B0 := bnext B0 b3
 clear b3
 obtain ⟨X_0, X_1, X_2, X_3, X_l⟩ := X.g4
 obtain ⟨OB_0, OB_1, OB_2, OB_3, OB_l⟩ := OB.g4
 go_wp2_with fail
 refine (CY.out _ B0).mono ?_
 rintro e1 w4 ⟨rfl, b4⟩
 clear X_0 X_1 X_2 X_3 X_l
 clear OB_0 OB_1 OB_2 OB_3 OB_l
 replace X := X.below b4
 replace OB := OB.below b4
 replace RES := RES.below b4
 replace oy : yardD.ow w4 F y (⟨B1, m1, e1⟩, ⟨B2, m2, e2⟩) := yardD.ow_below (F := F) (x := y) (s := (⟨B1, m1, e1⟩, ⟨B2, m2, e2⟩)) oy b4
 replace B0 := bnext B0 b4
 clear b4
 obtain ⟨X_0, X_1, X_2, X_3, X_l⟩ := X.g4
 obtain ⟨OB_0, OB_1, OB_2, OB_3, OB_l⟩ := OB.g4
 by_cases p0 : yardP y
 case neg =>
  rw [tf_false p0]
  have H := Lib.hid (show forgC y id = 8 by unfold forgC; rw [if_pos p0])
  have H2 := Lib.hid (show forgY y id = y by unfold forgY; rw [H.out, if_neg (by decide)])
  obtain ⟨RES_0, RES_1, RES_2, RES_3, RES_l⟩ := RES.g4
  have rf := RES.free
  go_wp2
  have en1 : w.heap.size + 1 ∉ F := fun hx => by have := nF _ hx; omega
  refine bodyPost_ret (Forget_res (DBox.row4 RES rfl _ _ _ _)) rfl ⟨(⟨B1, m1, e1⟩, ⟨B2, m2, e2⟩), F, by rw [H.out, H2.out], by rw [H2.out]; exact (by (repeat (refine Dt.ow_set yardD ?_ en1 _)); exact (show yardD.ow _ F y (⟨B1, m1, e1⟩, ⟨B2, m2, e2⟩) from oy)), fun x hx => by have := nF x hx; omega, ?_⟩
  repeat (first | (with_reducible exact B0) | refine Below.setCell ?_ (by simp <;> omega) _)
 rw [tf_true p0]
 have P0 := Lib.hid p0
 clear p0
 by_cases p1 : runAt y id < 0
 case pos =>
  have H := Lib.hid (show forgC y id = 10 by unfold forgC; rw [if_neg (fun h => h P0.out), if_pos p1])
  have H2 := Lib.hid (show forgY y id = y by unfold forgY; rw [H.out, if_neg (by decide)])
  obtain ⟨RES_0, RES_1, RES_2, RES_3, RES_l⟩ := RES.g4
  have rf := RES.free
  go_wp2
  have en1 : w.heap.size + 1 ∉ F := fun hx => by have := nF _ hx; omega
  refine bodyPost_ret (Forget_res (DBox.row4 RES rfl _ _ _ _)) rfl ⟨(⟨B1, m1, e1⟩, ⟨B2, m2, e2⟩), F, by rw [H.out, H2.out], by rw [H2.out]; exact (by (repeat (refine Dt.ow_set yardD ?_ en1 _)); exact (show yardD.ow _ F y (⟨B1, m1, e1⟩, ⟨B2, m2, e2⟩) from oy)), fun x hx => by have := nF x hx; omega, ?_⟩
  repeat (first | (with_reducible exact B0) | refine Below.setCell ?_ (by simp <;> omega) _)
 rcases runAt_range y id with hr | ⟨k, hk, hr⟩
 ·exact absurd hr (by omega)
 have HK := Lib.hid (runK_get hk hr)
 have HR2 := Lib.hid hr
 rw [hr]
 clear hr p1
 have P1 := Lib.hid (show ¬ runAt y id < 0 by have := HR2.out; omega)
 have hkI : (k : Int) < (n2 : Int) := by have := RdL.at1 (s := ⟨A2, n2, c2⟩) (CX.out _ B0); dsimp only at this; omega
 have hk0 : (0 : Int) ≤ (k : Int) := by omega
 have hkn : ¬ (k : Int) < 0 := by omega
 obtain ⟨gx, ox, _, rfl, hgx, _, c0, c1_, c2_, c3_, c4_, c5_, c6, c7_⟩ := (CX.out _ B0).run hk
 clear c0 c1_ c2_ c3_ c4_ c5_ c7_
 by_cases p2 : y.runs[k].state = 1
 case pos =>
  have q2 : (y.runs[k].state == 1) = true := by simp [p2]
  have H := Lib.hid (show forgC y id = 13 by unfold forgC; rw [if_neg (fun h => h P0.out), if_neg P1.out, if_pos (by rw [HK.out]; exact p2)])
  clear p2
  have H2 := Lib.hid (show forgY y id = y by unfold forgY; rw [H.out, if_neg (by decide)])
  obtain ⟨RES_0, RES_1, RES_2, RES_3, RES_l⟩ := RES.g4
  have rf := RES.free
  go_wp2
  have en1 : w.heap.size + 1 ∉ F := fun hx => by have := nF _ hx; omega
  refine bodyPost_ret (Forget_res (DBox.row4 RES rfl _ _ _ _)) rfl ⟨(⟨B1, m1, e1⟩, ⟨B2, m2, e2⟩), F, by rw [H.out, H2.out], by rw [H2.out]; exact (by (repeat (refine Dt.ow_set yardD ?_ en1 _)); exact (show yardD.ow _ F y (⟨B1, m1, e1⟩, ⟨B2, m2, e2⟩) from oy)), fun x hx => by have := nF x hx; omega, ?_⟩
  repeat (first | (with_reducible exact B0) | refine Below.setCell ?_ (by simp <;> omega) _)
 have q2 : (y.runs[k].state == 1) = false := by simp [p2]
 have H := Lib.hid (show forgC y id = 0 by unfold forgC; rw [if_neg (fun h => h P0.out), if_neg P1.out, if_neg (by rw [HK.out]; exact p2)])
 have H2 := Lib.hid (show forgY y id = ⟨y.now, y.seq, y.shelf.map (othersE id), y.runs.take k ++ y.runs.drop (k + 1)⟩ by unfold forgY; rw [if_pos H.out, HR2.out, Int.toNat_natCast])
 clear p2
 go_upto_region 9 with fail
 obtain ⟨gr, orr, _, rfl, hgrw, _⟩ := RdL.run (show RdL runD w4 w4.heap.size (.slice B2 m2 e2) y.runs from (yardD.ow_rd (F := F) (x := y) (s := (⟨B1, m1, e1⟩, ⟨B2, m2, e2⟩)) oy).2) hk
 obtain ⟨rs, hrl, hcap, hm2, hrd0, hcut⟩ := yard_cut oy hk
 have hr8 : y.runs.length ≤ 8 := P0.out.2.2.2.2.2.2.1
 clear X_0 X_1 X_2 X_3 X_l
 clear X c6 q2 CC CY CA CX hkI
 have hkI : (k : Int) ≤ (m2 : Int) := by omega
 have hkI1 : (k : Int) + 1 ≤ (m2 : Int) := by omega
 have hk1 : (0 : Int) ≤ (k : Int) + 1 := by omega
 have hke : k ≤ e2 := by omega
 have hkeI : (k : Int) ≤ (e2 : Int) := by omega
 have hk1e : k + 1 ≤ e2 := by omega
 have hk1eI : (k : Int) + 1 ≤ (e2 : Int) := by omega
 have wr1 : IntKind.i64.wrap ((k : Int) + 1) = (k : Int) + 1 := IntWalk.i64_in _ (by omega)
 have tn1 : ((k : Int) + 1).toNat = k + 1 := by omega
 have hob4 : ob < w4.heap.size := OB.lt
 replace hm2 := Lib.hid hm2
 replace hrl := Lib.hid hrl
 replace hcut := Lib.hid hcut
 obtain ⟨j0, hj0, jz0, jz1, jz2⟩ := info_parts run_infoD
 have a0 := Lib.hid (show ∀ W, Below w4.heap.size w4 W → Rd runD.enc W w4.heap.size (.slice (some ⟨gr, orr, none⟩) k e2) (rs.take k) from fun W hW => (hrd0.take (by have := hrl.out; omega) e2 hke).below hW)
 have a1 := Lib.hid (show ∀ W, Below w4.heap.size w4 W → Rd runD.enc W w4.heap.size (.slice (some ⟨gr, orr + (k + 1) * 8, none⟩) (m2 - (k + 1)) (e2 - (k + 1))) (rs.drop (k + 1)) from fun W hW => by have h1 := (hrd0.fromL (k + 1) (by have := hrl.out; omega)).below hW; rw [hrl.out] at h1; exact h1)
 rcases (show k + 1 < e2 ∨ e2 = k + 1 by omega) with hlast | hlast
 ·have hlast2 : ¬ e2 = k + 1 := by omega
  go_wp2
  have b5 : Below w4.heap.size w4 w4.drew := (Below.refl _ _).drew
  have OB5 := DBox.drew4 OB
  refine wp_region_last (fun w' => w'.cell? ⟨ob, 3, none⟩ = some (.slice (some ⟨gr, orr, none⟩) m2 e2)) 13 (by kernel_rfl) ?_ (fun hHeld => ?_)
  ·exact OB_3
  refine aT 1 hHeld ?_
  try simp only [pS]
  refine aT 2 hHeld ?_
  try simp only [pS]
  refine aT 3 hHeld ?_
  try simp only [pS]
  refine aT 4 hHeld ?_
  try simp only [pS]
  refine aT 6 hHeld ?_
  try simp only [pS]
  refine aT 7 hHeld ?_
  try simp only [pS]
  refine aT 8 hHeld ?_
  try simp only [pS]
  refine aT 9 hHeld ?_
  try simp only [pS]
  refine aT 10 hHeld ?_
  try simp only [pS]
  refine oT 0 (fun K hK => ?_)
  (go_simp; have b6 : Below w4.drew.heap.size w4.drew (w4.drew.alloc (.cells #[] 98)) := (Below.refl _ _).alloc (Nat.le_refl _) _; have o6 := Ow.empty runD.enc 98 w4.drew (g := w4.heap.size) rfl; have B6 := bnext b5 b6; have OB6 := OB5.below b6; have hb6s := b6.size)
  refine hK.out _ _ (fun _ => ?_) ?_
  ·exact OB6.cell 3 _ rfl
  clear hK K
  try simp only [pS]
  refine oT 5 (fun K hK => ?_)
  (refine step_push_all _ runD.enc (by decide) (by rfl) (.tmp 34) (.tmp 38) (by rfl) Try.underlying59 hj0 jz0 jz1 jz2 (by rfl) (base := w4.heap.size) (v := .slice (some ⟨w4.heap.size, 0, none⟩) 0 0) (l := []) (by rfl) o6 (by rfl) (a0.out _ B6) (by simp) (by have := hrl.out; rw [List.length_take]; omega) (by decide) hb6s ?_; intro v7 w7 o7 gg7 f7; rw [List.nil_append] at o7; have B7 : Below w4.heap.size w4 w7 := B6.grown gg7 B6.size (fun g hg => by have := Option.some.inj (show some w4.heap.size = some g from hg); omega); have OB7 := OB6.off gg7 (fun e => by have := Option.some.inj (show some ob = some w4.heap.size from e); omega); have hg7s := gg7.size)
  refine hK.out _ _ (fun _ => ?_) ?_
  ·exact OB7.cell 3 _ rfl
  clear hK K
  try simp only [pS]
  refine oT 11 (fun K hK => ?_)
  (refine step_push_all _ runD.enc (by decide) (by rfl) (.tmp 39) (.tmp 44) (by rfl) Try.underlying59 hj0 jz0 jz1 jz2 (by rfl) (base := w4.heap.size) (v := v7) (l := rs.take k) (by rfl) o7 (by rfl) (a1.out _ B7) (by have := hrl.out; have := hm2.out; rw [List.length_take]; omega) (by have := hrl.out; have := hm2.out; rw [List.length_drop]; omega) (by decide) B7.size ?_; intro v8 w8 o8 gg8 f8; have B8 : Below w4.heap.size w4 w8 := B7.grown gg8 B7.size (fun g hg => (o7.within g hg).1); have OB8 := OB7.off gg8 (fun e => by have := (o7.within _ e.symm).1; omega); obtain ⟨A9, c9, hv8, -⟩ := _root_.id (Rd.of_own o8); generalize hn9 : (rs.take k ++ rs.drop (k + 1)).length = n9 at hv8; subst hv8; replace hn9 := Lib.hid hn9; have q3 := OB8.cell 3 _ rfl; have qf := OB8.free; have ql := OB8.lt)
  refine hK.out _ _ (fun _ => ?_) ?_
  ·exact q3
  clear hK K
  try simp only [pS]
  refine oT 12 (fun K hK => ?_)
  go_simp
  refine hK.out _ _ (fun _ => ?_) ?_
  ·exact q3
  clear hK K
  try simp only [pS]
  refine oT 13 (fun K hK => ?_)
  go_simp
  refine hK.out _ _ (fun hne => absurd rfl hne) ?_
  clear hK K
  try simp only [pS]
  refine wpAnyL_done (by kernel_rfl) ?_ _
  obtain ⟨F8, oy8, hF8⟩ := hcut.out 98 w8 A9 n9 c9 B8 o8
  have hF8n : ∀ x ∈ F8, w.heap.size + 1 < x ∧ x ≠ ob := fun x hx => by
   rcases hF8 x hx with h | h
   ·have h1 := nF x h; have h2 := hFl x h; omega
   ·have h3 := B0.size; omega
  have OB9 : DBox ob [.int .i64 y.now, .int .i64 y.seq, .slice B1 m1 e1, .slice A9 n9 c9] (w8.setCell ⟨ob, 3, none⟩ (.slice A9 n9 c9)) := OB8.set 3 (by simp) _
  have RES9 := (RES.below B8).setOther (a := ⟨ob, 3, none⟩) (by show w.heap.size + 1 ≠ ob; omega) (.slice A9 n9 c9)
  have oy9 : yardD.ow (w8.setCell ⟨ob, 3, none⟩ (.slice A9 n9 c9)) F8 ⟨y.now, y.seq, y.shelf, y.runs.take k ++ y.runs.drop (k + 1)⟩ (⟨B1, m1, e1⟩, ⟨A9, n9, c9⟩) := yardD.ow_set (F := F8) (x := ⟨y.now, y.seq, y.shelf, y.runs.take k ++ y.runs.drop (k + 1)⟩) (s := (⟨B1, m1, e1⟩, ⟨A9, n9, c9⟩)) oy8 (a := ⟨ob, 3, none⟩) (fun hx => (hF8n _ hx).2 rfl) _
  have B9 : Below w.heap.size w (w8.setCell ⟨ob, 3, none⟩ (.slice A9 n9 c9)) := Below.setCell (bnext B0 B8) (by show w.heap.size ≤ ob; omega) _
  have hob9 : ob < (w8.setCell ⟨ob, 3, none⟩ (.slice A9 n9 c9)).heap.size := OB9.lt
  have hm1 := Lib.hid (show m1 = y.shelf.length from RdL.at1 (s := ⟨B1, m1, e1⟩) (yardD.ow_rd (F := F8) (x := ⟨y.now, y.seq, y.shelf, y.runs.take k ++ y.runs.drop (k + 1)⟩) oy9).1)
  have hsh4 := Lib.hid (show y.shelf.length = 4 from P0.out.2.2.1)
  have hsh80 := Lib.hid (fun (i : Nat) (hi : i < y.shelf.length) => (P0.out.2.2.2.1 _ (List.getElem_mem hi)).1)
  obtain ⟨i0, hi0, hz0, hz1, hz2⟩ := info_parts entE_info
  clear OB_0 OB_1 OB_2 OB_3 OB_l
  clear OB RES OB8 oy8 o8 o7 OB7 OB6 o6 OB5 b5 b6 B6 B7 hHeld q3 qf ql gg7 gg8 f7 f8 hF8 hrd0 a0 a1 hcut oy B8 hb6s hg7s
  generalize y.runs.take k ++ y.runs.drop (k + 1) = RR at *
  generalize w8.setCell ⟨ob, 3, none⟩ (.slice A9 n9 c9) = w9 at *
  obtain ⟨OB9_0, OB9_1, OB9_2, OB9_3, OB9_l⟩ := OB9.g4
  go_wp2
  go_loopw [8, 9, 10] (fun iv u1 u2 wr => ∃ (i : Nat) (F : List Nat), i ≤ y.shelf.length ∧ iv = .int .i64 i ∧ Hid (yardD.ow wr F ⟨y.now, y.seq, (y.shelf.take i).map (othersE id) ++ y.shelf.drop i, RR⟩ (⟨B1, m1, e1⟩, ⟨A9, n9, c9⟩)) ∧ Hid (∀ x ∈ F, w.heap.size + 1 < x ∧ x ≠ ob) ∧ DBox ob [.int .i64 y.now, .int .i64 y.seq, .slice B1 m1 e1, .slice A9 n9 c9] wr ∧ DBox (w.heap.size + 1) [.int .i64 0, .int .i64 0, .slice none 0 0, .slice none 0 0] wr ∧ Below w.heap.size w wr ∧ ob < wr.heap.size) (fun i _ _ _ => y.shelf.length - (intOf i).toNat)
  case atStart => exact ⟨0, F8, Nat.zero_le _, rfl, by show yardD.ow w9 F8 ⟨y.now, y.seq, (y.shelf.take 0).map (othersE id) ++ y.shelf.drop 0, RR⟩ (⟨B1, m1, e1⟩, ⟨A9, n9, c9⟩); simpa using oy9, hF8n, OB9, RES9, B9, hob9⟩
  case round =>
   clear OB9_0 OB9_1 OB9_2 OB9_3 OB9_l
   clear OB9 RES9 oy9 B9 hob9 hF8n
   obtain ⟨i, F, hi, rfl, oy, hF, OB, RES, hb, hobw⟩ := hrel
   rename World => wo
   have h4 := hsh4.out
   replace h4 := Lib.hid h4
   have hRl9 := RES.lt
   obtain ⟨OB_0, OB_1, OB_2, OB_3, OB_l⟩ := OB.g4
   by_cases hlt : i < y.shelf.length
   ·have hltI : (i : Int) < (m1 : Int) := by have := hm1.out; omega
    have hi00 : (0 : Int) ≤ (i : Int) := by omega
    have hil : i < ((y.shelf.take i).map (othersE id) ++ y.shelf.drop i).length := by simp; omega
    obtain ⟨g, o, ⟨xa, xn, xc⟩, rfl, hgw, hrh, ch⟩ := RdL.entryS (show RdL (Dt.list entryD) wo wo.heap.size (.slice B1 m1 e1) ((y.shelf.take i).map (othersE id) ++ y.shelf.drop i) from (yardD.ow_rd (F := F) (x := ⟨y.now, y.seq, (y.shelf.take i).map (othersE id) ++ y.shelf.drop i, RR⟩) oy.out).1) hil
    rw [map_at_E (othersE id) hlt hil] at hrh
    replace hrh : RdL entryD wo wo.heap.size (.slice xa xn xc) y.shelf[i] := hrh
    have hxn : xn = y.shelf[i].length := RdL.at1 (s := ⟨xa, xn, xc⟩) hrh
    subst hxn
    have h80 := hsh80.out i hlt
    have hi3 : i ≤ 3 := by have := h4.out; omega
    have hfg : ∀ j, wo.frozen? ⟨g, j, none⟩ = false := by
     obtain ⟨G1, G2, _, _, os, _⟩ := oy.out
     exact OwL.free0 (show OwL (Dt.list entryD) wo G1 (.slice (some ⟨g, o, none⟩) m1 e1) _ from os) (Nat.lt_of_le_of_lt (Nat.zero_le _) hil)
    have hset := Lib.hid (map_set_atE (othersE id) hlt)
    have q0 : Below wo.heap.size wo (wo.alloc (.cells #[] 116)) := (Below.refl _ _).alloc (Nat.le_refl _) _
    have o0 := Ow.empty entE 116 wo rfl
    generalize y.shelf[i] = SH at *
    go_wp2
    go_loopw [9, 10] (fun v j wr => ∃ m : Nat, m ≤ SH.length ∧ j = .int .i64 m ∧ Hid (Ow entE 116 wr wo.heap.size v (othersE id (SH.take m))) ∧ Below wo.heap.size wo wr) (fun _ j _ => SH.length - (intOf j).toNat)
    case atStart => exact ⟨0, Nat.zero_le _, rfl, o0, q0⟩
    case round =>
     clear o0 q0
     obtain ⟨m, hm_, rfl, hO, hbi⟩ := hrel
     clear OB_0 OB_1 OB_2 OB_3 OB_l
     have OB2 := OB.below hbi
     obtain ⟨OB2_0, OB2_1, OB2_2, OB2_3, OB2_l⟩ := OB2.g4
     have ch2 := (hbi.cell (p := ⟨g, _, none⟩) hgw).trans ch
     have hwis := hbi.size
     by_cases hlt2 : m < SH.length
     ·have hltI2 : (m : Int) < (SH.length : Int) := by omega
      have hm0 : (0 : Int) ≤ (m : Int) := by omega
      obtain ⟨ge, oe, _, rfl, hge, _, d0, d1, d2, d3⟩ := (hrh.below hbi).entry hlt2
      have Hl := Lib.hid (show (othersE id (SH.take m)).length ≤ 3000000 by have h1 := List.length_filter_le (fun e : Entry => e.run != id) (SH.take m); rw [List.length_take] at h1; unfold othersE; omega)
      cases q : (SH[m].run != id)
      ·have S := Lib.hid (show othersE id (SH.take (m + 1)) = othersE id (SH.take m) from filter_take_no (p := fun e : Entry => e.run != id) hlt2 q)
       go_wp2
       exact ⟨⟨m + 1, by omega, by go_num, by rw [S.out]; exact hO, hbi⟩, by simp [intOf]; omega⟩
      ·have S := Lib.hid (show othersE id (SH.take (m + 1)) = othersE id (SH.take m) ++ [SH[m]] from filter_take_yes (p := fun e : Entry => e.run != id) hlt2 q)
       generalize SH[m] = e9 at *
       have ha : Hid (∀ w : World, Below w.heap.size w (w.alloc (.cells #[.int .i64 e9.prio, .int .i64 e9.seq, .int .i64 e9.run, .int .i64 e9.task] 116))) := fun w => (Below.refl _ _).alloc (Nat.le_refl _) _
       have hO3 := hO.out
       go_wp2_with (at_builtin; go_loud (refine wpList_push_all _ entE (by decide) rfl (.tmp 76) (.tmp 85) rfl Try.underlying77 hi0 hz0 hz1 hz2 rfl (base := wo.heap.size) (l := othersE id (SH.take m)) rfl (hO3.below (ha.out _)) rfl (Rd.one entE _ _ e9 rfl rfl 1 (Nat.le_refl _) (Nat.lt_succ_self _)) Hl.out (by simp) (by decide) (by simp; omega) ?_); intro v5 w5 o5 g5 _)
       have hb5 : Below wo.heap.size wo w5 := (bnext hbi (ha.out _)).grown g5 (bnext hbi (ha.out _)).size (fun g hg => by have := hO3.within _ hg; omega)
       exact ⟨⟨m + 1, by omega, by go_num, by rw [S.out]; exact o5, hb5⟩, by simp [intOf]; omega⟩
     ·have hltI2 : ¬ (m : Int) < (SH.length : Int) := by omega
      have hO1 := hO.out
      rw [List.take_of_length_le (by omega)] at hO1
      obtain ⟨⟨a8, n8, c8⟩, Ft, rfl, o9, nF9⟩ := entry_ow hO1
      have oy2 : yardD.ow wr F ⟨y.now, y.seq, (y.shelf.take i).map (othersE id) ++ y.shelf.drop i, RR⟩ (⟨some ⟨g, o, none⟩, m1, e1⟩, ⟨A9, n9, c9⟩) := yardD.ow_below (F := F) (x := ⟨y.now, y.seq, (y.shelf.take i).map (othersE id) ++ y.shelf.drop i, RR⟩) (s := (⟨some ⟨g, o, none⟩, m1, e1⟩, ⟨A9, n9, c9⟩)) oy.out hbi
      have hFlt2 : ∀ x ∈ F, x < wo.heap.size := yardD.ow_lt (F := F) (x := ⟨y.now, y.seq, (y.shelf.take i).map (othersE id) ++ y.shelf.drop i, RR⟩) (s := (⟨some ⟨g, o, none⟩, m1, e1⟩, ⟨A9, n9, c9⟩)) oy.out
      obtain ⟨F', p1, p2, p3⟩ := yard_setShelf oy2 hil (l := othersE id SH) (t := ⟨a8, n8, c8⟩) o9 (fun x hx hxF => by have h1 := nF9 x hx; have h2 := hFlt2 x hxF; omega)
      dsimp only at p1
      rw [hset.out] at p1
      have hgn := hF.out g p3
      have hfg2 : ∀ j, wr.frozen? ⟨g, j, none⟩ = false := fun j => (hbi.frozen (p := ⟨g, j, none⟩) hgw).trans (hfg j)
      have OB3 := OB2.setOther (a := ⟨g, o + i, none⟩) (by show ob ≠ g; omega) (.slice a8 n8 c8)
      have RES3 := (RES.below hbi).setOther (a := ⟨g, o + i, none⟩) (by show w.heap.size + 1 ≠ g; omega) (.slice a8 n8 c8)
      have hb3 : Below w.heap.size w (wr.setCell ⟨g, o + i, none⟩ (.slice a8 n8 c8)) := Below.setCell (bnext hb hbi) (by show w.heap.size ≤ g; omega) _
      have hF3 : Hid (∀ x ∈ F', w.heap.size + 1 < x ∧ x ≠ ob) := fun x hx => by
       rcases p2 x hx with h | h
       ·exact hF.out x h
       ·have := nF9 x h; omega
      have hob3 := OB3.lt
      clear hO hO1 hset o9 hfg
      go_wp2
      exact ⟨⟨i + 1, F', by omega, by go_num, p1, hF3, OB3, RES3, hb3, hob3⟩, by simp [intOf]; omega⟩
   ·have hltI : ¬ (i : Int) < (m1 : Int) := by have := hm1.out; omega
    have hii : i = y.shelf.length := by omega
    have oyz := oy.out
    rw [List.take_of_length_le (by omega), List.drop_eq_nil_of_le (by omega), List.append_nil] at oyz
    have rf := RES.free
    obtain ⟨RES_0, RES_1, RES_2, RES_3, RES_l⟩ := RES.g4
    clear hii oy
    go_wp2
    have en1 : w.heap.size + 1 ∉ F := fun hx => by have := hF.out _ hx; omega
    refine bodyPost_ret (Forget_res (DBox.row4 RES rfl _ _ _ _)) rfl ⟨(⟨B1, m1, e1⟩, ⟨A9, n9, c9⟩), F, by rw [H.out, H2.out], by rw [H2.out]; exact (by (repeat (refine Dt.ow_set yardD ?_ en1 _)); exact (show yardD.ow _ F ⟨y.now, y.seq, y.shelf.map (othersE id), RR⟩ (⟨B1, m1, e1⟩, ⟨A9, n9, c9⟩) from oyz)), fun x hx => by have := hF.out x hx; omega, ?_⟩
    repeat (first | (with_reducible exact hb) | refine Below.setCell ?_ (by simp <;> omega) _)
 ·subst hlast
  have hlast3 : (k : Int) ≤ (k : Int) + 1 := by omega
  have hm2k : m2 - (k + 1) = 0 := by have := hrl.out; omega
  replace hm2k := Lib.hid hm2k
  go_wp2
  have b5 : Below w4.heap.size w4 w4.drew := (Below.refl _ _).drew
  have OB5 := DBox.drew4 OB
  refine wp_region_last (fun w' => w'.cell? ⟨ob, 3, none⟩ = some (.slice (some ⟨gr, orr, none⟩) m2 (k + 1))) 13 (by kernel_rfl) ?_ (fun hHeld => ?_)
  ·exact OB_3
  refine aT 1 hHeld ?_
  try simp only [pS]
  refine aT 2 hHeld ?_
  try simp only [pS]
  refine aT 3 hHeld ?_
  try simp only [pS]
  refine aT 4 hHeld ?_
  try simp only [pS]
  refine aT 6 hHeld ?_
  try simp only [pS]
  refine aT 7 hHeld ?_
  try simp only [pS]
  refine aT 8 hHeld ?_
  try simp only [pS]
  refine aT 9 hHeld ?_
  try simp only [pS]
  refine aT 10 hHeld ?_
  try simp only [pS]
  refine oT 0 (fun K hK => ?_)
  (go_simp; have b6 : Below w4.drew.heap.size w4.drew (w4.drew.alloc (.cells #[] 98)) := (Below.refl _ _).alloc (Nat.le_refl _) _; have o6 := Ow.empty runD.enc 98 w4.drew (g := w4.heap.size) rfl; have B6 := bnext b5 b6; have OB6 := OB5.below b6; have hb6s := b6.size)
  refine hK.out _ _ (fun _ => ?_) ?_
  ·exact OB6.cell 3 _ rfl
  clear hK K
  try simp only [pS]
  refine oT 5 (fun K hK => ?_)
  (refine step_push_all _ runD.enc (by decide) (by rfl) (.tmp 34) (.tmp 38) (by rfl) Try.underlying59 hj0 jz0 jz1 jz2 (by rfl) (base := w4.heap.size) (v := .slice (some ⟨w4.heap.size, 0, none⟩) 0 0) (l := []) (by rfl) o6 (by rfl) (a0.out _ B6) (by simp) (by have := hrl.out; rw [List.length_take]; omega) (by decide) hb6s ?_; intro v7 w7 o7 gg7 f7; rw [List.nil_append] at o7; have B7 : Below w4.heap.size w4 w7 := B6.grown gg7 B6.size (fun g hg => by have := Option.some.inj (show some w4.heap.size = some g from hg); omega); have OB7 := OB6.off gg7 (fun e => by have := Option.some.inj (show some ob = some w4.heap.size from e); omega); have hg7s := gg7.size)
  refine hK.out _ _ (fun _ => ?_) ?_
  ·exact OB7.cell 3 _ rfl
  clear hK K
  try simp only [pS]
  refine oT 11 (fun K hK => ?_)
  (refine step_push_all _ runD.enc (by decide) (by rfl) (.tmp 39) (.tmp 44) (by rfl) Try.underlying59 hj0 jz0 jz1 jz2 (by rfl) (base := w4.heap.size) (v := v7) (l := rs.take k) (by rfl) o7 (by rfl) (Rd.fromNone (B := 0) (k + 1) (by have := hrl.out; have := hm2k.out; omega) hm2k.out) (by have := hrl.out; have := hm2.out; rw [List.length_take]; omega) (by have := hrl.out; have := hm2.out; rw [List.length_drop]; omega) (by decide) B7.size ?_; intro v8 w8 o8 gg8 f8; have B8 : Below w4.heap.size w4 w8 := B7.grown gg8 B7.size (fun g hg => (o7.within g hg).1); have OB8 := OB7.off gg8 (fun e => by have := (o7.within _ e.symm).1; omega); obtain ⟨A9, c9, hv8, -⟩ := _root_.id (Rd.of_own o8); generalize hn9 : (rs.take k ++ rs.drop (k + 1)).length = n9 at hv8; subst hv8; replace hn9 := Lib.hid hn9; have q3 := OB8.cell 3 _ rfl; have qf := OB8.free; have ql := OB8.lt)
  refine hK.out _ _ (fun _ => ?_) ?_
  ·exact q3
  clear hK K
  try simp only [pS]
  refine oT 12 (fun K hK => ?_)
  go_simp
  refine hK.out _ _ (fun _ => ?_) ?_
  ·exact q3
  clear hK K
  try simp only [pS]
  refine oT 13 (fun K hK => ?_)
  go_simp
  refine hK.out _ _ (fun hne => absurd rfl hne) ?_
  clear hK K
  try simp only [pS]
  refine wpAnyL_done (by kernel_rfl) ?_ _
  obtain ⟨F8, oy8, hF8⟩ := hcut.out 98 w8 A9 n9 c9 B8 o8
  have hF8n : ∀ x ∈ F8, w.heap.size + 1 < x ∧ x ≠ ob := fun x hx => by
   rcases hF8 x hx with h | h
   ·have h1 := nF x h; have h2 := hFl x h; omega
   ·have h3 := B0.size; omega
  have OB9 : DBox ob [.int .i64 y.now, .int .i64 y.seq, .slice B1 m1 e1, .slice A9 n9 c9] (w8.setCell ⟨ob, 3, none⟩ (.slice A9 n9 c9)) := OB8.set 3 (by simp) _
  have RES9 := (RES.below B8).setOther (a := ⟨ob, 3, none⟩) (by show w.heap.size + 1 ≠ ob; omega) (.slice A9 n9 c9)
  have oy9 : yardD.ow (w8.setCell ⟨ob, 3, none⟩ (.slice A9 n9 c9)) F8 ⟨y.now, y.seq, y.shelf, y.runs.take k ++ y.runs.drop (k + 1)⟩ (⟨B1, m1, e1⟩, ⟨A9, n9, c9⟩) := yardD.ow_set (F := F8) (x := ⟨y.now, y.seq, y.shelf, y.runs.take k ++ y.runs.drop (k + 1)⟩) (s := (⟨B1, m1, e1⟩, ⟨A9, n9, c9⟩)) oy8 (a := ⟨ob, 3, none⟩) (fun hx => (hF8n _ hx).2 rfl) _
  have B9 : Below w.heap.size w (w8.setCell ⟨ob, 3, none⟩ (.slice A9 n9 c9)) := Below.setCell (bnext B0 B8) (by show w.heap.size ≤ ob; omega) _
  have hob9 : ob < (w8.setCell ⟨ob, 3, none⟩ (.slice A9 n9 c9)).heap.size := OB9.lt
  have hm1 := Lib.hid (show m1 = y.shelf.length from RdL.at1 (s := ⟨B1, m1, e1⟩) (yardD.ow_rd (F := F8) (x := ⟨y.now, y.seq, y.shelf, y.runs.take k ++ y.runs.drop (k + 1)⟩) oy9).1)
  have hsh4 := Lib.hid (show y.shelf.length = 4 from P0.out.2.2.1)
  have hsh80 := Lib.hid (fun (i : Nat) (hi : i < y.shelf.length) => (P0.out.2.2.2.1 _ (List.getElem_mem hi)).1)
  obtain ⟨i0, hi0, hz0, hz1, hz2⟩ := info_parts entE_info
  clear OB_0 OB_1 OB_2 OB_3 OB_l
  clear OB RES OB8 oy8 o8 o7 OB7 OB6 o6 OB5 b5 b6 B6 B7 hHeld q3 qf ql gg7 gg8 f7 f8 hF8 hrd0 a0 a1 hcut oy B8 hb6s hg7s
  generalize y.runs.take k ++ y.runs.drop (k + 1) = RR at *
  generalize w8.setCell ⟨ob, 3, none⟩ (.slice A9 n9 c9) = w9 at *
  obtain ⟨OB9_0, OB9_1, OB9_2, OB9_3, OB9_l⟩ := OB9.g4
  go_wp2
  go_loopw [8, 9, 10] (fun iv u1 u2 wr => ∃ (i : Nat) (F : List Nat), i ≤ y.shelf.length ∧ iv = .int .i64 i ∧ Hid (yardD.ow wr F ⟨y.now, y.seq, (y.shelf.take i).map (othersE id) ++ y.shelf.drop i, RR⟩ (⟨B1, m1, e1⟩, ⟨A9, n9, c9⟩)) ∧ Hid (∀ x ∈ F, w.heap.size + 1 < x ∧ x ≠ ob) ∧ DBox ob [.int .i64 y.now, .int .i64 y.seq, .slice B1 m1 e1, .slice A9 n9 c9] wr ∧ DBox (w.heap.size + 1) [.int .i64 0, .int .i64 0, .slice none 0 0, .slice none 0 0] wr ∧ Below w.heap.size w wr ∧ ob < wr.heap.size) (fun i _ _ _ => y.shelf.length - (intOf i).toNat)
  case atStart => exact ⟨0, F8, Nat.zero_le _, rfl, by show yardD.ow w9 F8 ⟨y.now, y.seq, (y.shelf.take 0).map (othersE id) ++ y.shelf.drop 0, RR⟩ (⟨B1, m1, e1⟩, ⟨A9, n9, c9⟩); simpa using oy9, hF8n, OB9, RES9, B9, hob9⟩
  case round =>
   clear OB9_0 OB9_1 OB9_2 OB9_3 OB9_l
   clear OB9 RES9 oy9 B9 hob9 hF8n
   obtain ⟨i, F, hi, rfl, oy, hF, OB, RES, hb, hobw⟩ := hrel
   rename World => wo
   have h4 := hsh4.out
   replace h4 := Lib.hid h4
   have hRl9 := RES.lt
   obtain ⟨OB_0, OB_1, OB_2, OB_3, OB_l⟩ := OB.g4
   by_cases hlt : i < y.shelf.length
   ·have hltI : (i : Int) < (m1 : Int) := by have := hm1.out; omega
    have hi00 : (0 : Int) ≤ (i : Int) := by omega
    have hil : i < ((y.shelf.take i).map (othersE id) ++ y.shelf.drop i).length := by simp; omega
    obtain ⟨g, o, ⟨xa, xn, xc⟩, rfl, hgw, hrh, ch⟩ := RdL.entryS (show RdL (Dt.list entryD) wo wo.heap.size (.slice B1 m1 e1) ((y.shelf.take i).map (othersE id) ++ y.shelf.drop i) from (yardD.ow_rd (F := F) (x := ⟨y.now, y.seq, (y.shelf.take i).map (othersE id) ++ y.shelf.drop i, RR⟩) oy.out).1) hil
    rw [map_at_E (othersE id) hlt hil] at hrh
    replace hrh : RdL entryD wo wo.heap.size (.slice xa xn xc) y.shelf[i] := hrh
    have hxn : xn = y.shelf[i].length := RdL.at1 (s := ⟨xa, xn, xc⟩) hrh
    subst hxn
    have h80 := hsh80.out i hlt
    have hi3 : i ≤ 3 := by have := h4.out; omega
    have hfg : ∀ j, wo.frozen? ⟨g, j, none⟩ = false := by
     obtain ⟨G1, G2, _, _, os, _⟩ := oy.out
     exact OwL.free0 (show OwL (Dt.list entryD) wo G1 (.slice (some ⟨g, o, none⟩) m1 e1) _ from os) (Nat.lt_of_le_of_lt (Nat.zero_le _) hil)
    have hset := Lib.hid (map_set_atE (othersE id) hlt)
    have q0 : Below wo.heap.size wo (wo.alloc (.cells #[] 116)) := (Below.refl _ _).alloc (Nat.le_refl _) _
    have o0 := Ow.empty entE 116 wo rfl
    generalize y.shelf[i] = SH at *
    go_wp2
    go_loopw [9, 10] (fun v j wr => ∃ m : Nat, m ≤ SH.length ∧ j = .int .i64 m ∧ Hid (Ow entE 116 wr wo.heap.size v (othersE id (SH.take m))) ∧ Below wo.heap.size wo wr) (fun _ j _ => SH.length - (intOf j).toNat)
    case atStart => exact ⟨0, Nat.zero_le _, rfl, o0, q0⟩
    case round =>
     clear o0 q0
     obtain ⟨m, hm_, rfl, hO, hbi⟩ := hrel
     clear OB_0 OB_1 OB_2 OB_3 OB_l
     have OB2 := OB.below hbi
     obtain ⟨OB2_0, OB2_1, OB2_2, OB2_3, OB2_l⟩ := OB2.g4
     have ch2 := (hbi.cell (p := ⟨g, _, none⟩) hgw).trans ch
     have hwis := hbi.size
     by_cases hlt2 : m < SH.length
     ·have hltI2 : (m : Int) < (SH.length : Int) := by omega
      have hm0 : (0 : Int) ≤ (m : Int) := by omega
      obtain ⟨ge, oe, _, rfl, hge, _, d0, d1, d2, d3⟩ := (hrh.below hbi).entry hlt2
      have Hl := Lib.hid (show (othersE id (SH.take m)).length ≤ 3000000 by have h1 := List.length_filter_le (fun e : Entry => e.run != id) (SH.take m); rw [List.length_take] at h1; unfold othersE; omega)
      cases q : (SH[m].run != id)
      ·have S := Lib.hid (show othersE id (SH.take (m + 1)) = othersE id (SH.take m) from filter_take_no (p := fun e : Entry => e.run != id) hlt2 q)
       go_wp2
       exact ⟨⟨m + 1, by omega, by go_num, by rw [S.out]; exact hO, hbi⟩, by simp [intOf]; omega⟩
      ·have S := Lib.hid (show othersE id (SH.take (m + 1)) = othersE id (SH.take m) ++ [SH[m]] from filter_take_yes (p := fun e : Entry => e.run != id) hlt2 q)
       generalize SH[m] = e9 at *
       have ha : Hid (∀ w : World, Below w.heap.size w (w.alloc (.cells #[.int .i64 e9.prio, .int .i64 e9.seq, .int .i64 e9.run, .int .i64 e9.task] 116))) := fun w => (Below.refl _ _).alloc (Nat.le_refl _) _
       have hO3 := hO.out
       go_wp2_with (at_builtin; go_loud (refine wpList_push_all _ entE (by decide) rfl (.tmp 76) (.tmp 85) rfl Try.underlying77 hi0 hz0 hz1 hz2 rfl (base := wo.heap.size) (l := othersE id (SH.take m)) rfl (hO3.below (ha.out _)) rfl (Rd.one entE _ _ e9 rfl rfl 1 (Nat.le_refl _) (Nat.lt_succ_self _)) Hl.out (by simp) (by decide) (by simp; omega) ?_); intro v5 w5 o5 g5 _)
       have hb5 : Below wo.heap.size wo w5 := (bnext hbi (ha.out _)).grown g5 (bnext hbi (ha.out _)).size (fun g hg => by have := hO3.within _ hg; omega)
       exact ⟨⟨m + 1, by omega, by go_num, by rw [S.out]; exact o5, hb5⟩, by simp [intOf]; omega⟩
     ·have hltI2 : ¬ (m : Int) < (SH.length : Int) := by omega
      have hO1 := hO.out
      rw [List.take_of_length_le (by omega)] at hO1
      obtain ⟨⟨a8, n8, c8⟩, Ft, rfl, o9, nF9⟩ := entry_ow hO1
      have oy2 : yardD.ow wr F ⟨y.now, y.seq, (y.shelf.take i).map (othersE id) ++ y.shelf.drop i, RR⟩ (⟨some ⟨g, o, none⟩, m1, e1⟩, ⟨A9, n9, c9⟩) := yardD.ow_below (F := F) (x := ⟨y.now, y.seq, (y.shelf.take i).map (othersE id) ++ y.shelf.drop i, RR⟩) (s := (⟨some ⟨g, o, none⟩, m1, e1⟩, ⟨A9, n9, c9⟩)) oy.out hbi
      have hFlt2 : ∀ x ∈ F, x < wo.heap.size := yardD.ow_lt (F := F) (x := ⟨y.now, y.seq, (y.shelf.take i).map (othersE id) ++ y.shelf.drop i, RR⟩) (s := (⟨some ⟨g, o, none⟩, m1, e1⟩, ⟨A9, n9, c9⟩)) oy.out
      obtain ⟨F', p1, p2, p3⟩ := yard_setShelf oy2 hil (l := othersE id SH) (t := ⟨a8, n8, c8⟩) o9 (fun x hx hxF => by have h1 := nF9 x hx; have h2 := hFlt2 x hxF; omega)
      dsimp only at p1
      rw [hset.out] at p1
      have hgn := hF.out g p3
      have hfg2 : ∀ j, wr.frozen? ⟨g, j, none⟩ = false := fun j => (hbi.frozen (p := ⟨g, j, none⟩) hgw).trans (hfg j)
      have OB3 := OB2.setOther (a := ⟨g, o + i, none⟩) (by show ob ≠ g; omega) (.slice a8 n8 c8)
      have RES3 := (RES.below hbi).setOther (a := ⟨g, o + i, none⟩) (by show w.heap.size + 1 ≠ g; omega) (.slice a8 n8 c8)
      have hb3 : Below w.heap.size w (wr.setCell ⟨g, o + i, none⟩ (.slice a8 n8 c8)) := Below.setCell (bnext hb hbi) (by show w.heap.size ≤ g; omega) _
      have hF3 : Hid (∀ x ∈ F', w.heap.size + 1 < x ∧ x ≠ ob) := fun x hx => by
       rcases p2 x hx with h | h
       ·exact hF.out x h
       ·have := nF9 x h; omega
      have hob3 := OB3.lt
      clear hO hO1 hset o9 hfg
      go_wp2
      exact ⟨⟨i + 1, F', by omega, by go_num, p1, hF3, OB3, RES3, hb3, hob3⟩, by simp [intOf]; omega⟩
   ·have hltI : ¬ (i : Int) < (m1 : Int) := by have := hm1.out; omega
    have hii : i = y.shelf.length := by omega
    have oyz := oy.out
    rw [List.take_of_length_le (by omega), List.drop_eq_nil_of_le (by omega), List.append_nil] at oyz
    have rf := RES.free
    obtain ⟨RES_0, RES_1, RES_2, RES_3, RES_l⟩ := RES.g4
    clear hii oy
    go_wp2
    have en1 : w.heap.size + 1 ∉ F := fun hx => by have := hF.out _ hx; omega
    refine bodyPost_ret (Forget_res (DBox.row4 RES rfl _ _ _ _)) rfl ⟨(⟨B1, m1, e1⟩, ⟨A9, n9, c9⟩), F, by rw [H.out, H2.out], by rw [H2.out]; exact (by (repeat (refine Dt.ow_set yardD ?_ en1 _)); exact (show yardD.ow _ F ⟨y.now, y.seq, y.shelf.map (othersE id), RR⟩ (⟨B1, m1, e1⟩, ⟨A9, n9, c9⟩) from oyz)), fun x hx => by have := hF.out x hx; omega, ?_⟩
    repeat (first | (with_reducible exact hb) | refine Below.setCell ?_ (by simp <;> omega) _)
end Go.Proofs.Ytonlnjdempbfoaa
end
section
namespace Go.Proofs.Ytonlnjdempbfoaa
open Go.RowKit
set_option maxRecDepth 100000
set_option maxHeartbeats 4000000
set_option linter.unusedVariables false
set_option linter.unusedSimpArgs false
open Classical in
/-- a task of a yard's run fails, where it runs -/
noncomputable def failAt (z : Yard) (k t : Nat) : Yard := if (taskAt (runJ z k) t).state = 3 then turnY z k (failsR (runJ z k) t) else z
noncomputable def failsY (y : Yard) (l : List (Nat × Nat)) : Yard := l.foldl (fun z p => failAt z p.1 p.2) y
theorem failAt_no {z : Yard} {k t : Nat} (h : ¬ (taskAt (runJ z k) t).state = 3) : failAt z k t = z := if_neg h
theorem failAt_yes {z : Yard} {k t : Nat} (h : (taskAt (runJ z k) t).state = 3) : failAt z k t = turnY z k (failsR (runJ z k) t) := if_pos h
theorem Trn.fail {y z : Yard} {m : Nat} (h : Trn y m z) {k t : Nat} (hk : k < z.runs.length) (ht : t < z.runs[k].tasks.length) : Trn y (m + 1) (failAt z k t) := by
 by_cases q : (taskAt (runJ z k) t).state = 3
 ·rw [failAt_yes q, runJ_get hk]
  rw [runJ_get hk] at q
  exact h.step hk ⟨(h.run k hk (by rw [← h.len]; exact hk)).1, ⟨by omega, by omega⟩, q⟩
 ·rw [failAt_no q]
  exact h.mono (by omega)
open Classical in
noncomputable def tickC (y : Yard) : Int := if ¬ yardP y then 8 else if 999999980 < y.now + 1 then 7 else 0
noncomputable def tickZ (y : Yard) : Yard := failsY y (lateU y y.runs.length)
noncomputable def tickY (y : Yard) : Yard := if tickC y = 0 then ⟨(tickZ y).now + 1, (tickZ y).seq, (tickZ y).shelf, (tickZ y).runs⟩ else y
theorem lateU_mem {y : Yard} {n : Nat} {p : Nat × Nat} (h : p ∈ lateU y n) : p.1 < n ∧ p.2 < (runJ y p.1).tasks.length := by
 unfold lateU at h
 obtain ⟨j, hj, hp⟩ := List.mem_flatMap.1 h
 unfold lateR at hp
 obtain ⟨t, ht, rfl⟩ := List.mem_map.1 hp
 exact ⟨List.mem_range.1 hj, List.mem_range.1 (List.mem_filter.1 ht).1⟩
/-- one row of three ints, in a list of rows of one's own -/
theorem late_cells {w : World} {F : List Nat} {b o n c : Nat} {rows : List (List Int)} (h : OwL (Dt.flats intE) w F (.slice (some ⟨b, o, none⟩) n c) rows) {i : Nat} (hi : i < rows.length) {x y z : Int} (hr : rows[i] = [x, y, z]) :
  ∃ g p cc, b ∈ F ∧ g ∈ F ∧ w.cell? ⟨b, o + i, none⟩ = some (.slice (some ⟨g, p, none⟩) 3 cc) ∧ w.cell? ⟨g, p, none⟩ = some (.int .i64 x) ∧ w.cell? ⟨g, p + 1, none⟩ = some (.int .i64 y) ∧ w.cell? ⟨g, p + 2, none⟩ = some (.int .i64 z) := by
 obtain ⟨s, Fx, hx, hxF, _, hb, _, hc⟩ := h.elem hi
 rw [hr] at hx
 have hx' : Hw intE w Fx (.slice s.a s.n s.c) [x, y, z] := hx
 obtain ⟨g, p, hsa, hFx, _, _⟩ := hx'.at_ (by simp)
 obtain ⟨A', c', hv, _, hA⟩ := hx'.rd
 simp only [Value.slice.injEq] at hv
 obtain ⟨h1, h2, h3⟩ := hv
 obtain ⟨g', p', hA', _, hcell⟩ := hA (by simp)
 rw [← h1, hsa] at hA'
 simp only [Option.some.injEq, Addr.mk.injEq, and_true] at hA'
 obtain ⟨rfl, rfl⟩ := hA'
 refine ⟨g, p, s.c, hb, hxF _ (by rw [hFx]; simp), ?_, ?_, ?_, ?_⟩
 ·have := hc 0 (.slice s.a s.n s.c) rfl
  rw [show o + i * (Dt.flats intE).enc.sz + 0 = o + i from by show o + i * 1 + 0 = o + i; omega, hsa, h2] at this
  exact this
 ·exact hcell 0 (by simp) 0 _ rfl
 ·exact hcell 1 (by simp) 0 _ rfl
 ·exact hcell 2 (by simp) 0 _ rfl
theorem Tick_res {b : Nat} {w : World} {u0 u1 u2 u3 : Value} (X : DBox b [u0, u1, u2, u3] w) {v0 v1 v3 : Value} {rest : List Value} :
  (results Try.f51 (v0 :: v1 :: .pointer (some ⟨b, 0, none⟩) :: v3 :: rest).toArray).run Try.prog w = .ok (.tuple #[.agg #[u0, u1, u2, u3], v3]) w := by
 have c0 := X.cell 0 _ rfl
 have c1 := X.cell 1 _ rfl
 have c2 := X.cell 2 _ rfl
 have c3 := X.cell 3 _ rfl
 simp [results, Try.results51, go_sem, c0, c1, c2, c3]
theorem specTick_own (y : Yard) (s : Sl × Sl) (w : World) (hl : cntYard y ≤ 2000000) (h : yardD.rd w w.heap.size y s) :
  Calls Try.prog 51 #[yardW y s] w (CodePost (tickY y) (tickC y) w) := by
 have HR := Lib.hid (show ∀ W, Below w.heap.size w W → yardD.rd W W.heap.size y s from fun W hW => yardD.rd_more (yardD.rd_below h hW) hW.size)
 obtain ⟨⟨A1, n1, c1⟩, ⟨A2, n2, c2⟩⟩ := s
 have CC := Lib.hid (fun W hW => specCopyYard_own y (⟨A1, n1, c1⟩, ⟨A2, n2, c2⟩) W hl (HR.out W hW))
 have CY := Lib.hid (fun W hW => specYardOk_any y (⟨A1, n1, c1⟩, ⟨A2, n2, c2⟩) W hl (HR.out W hW))
 clear h
 have X := (DBox.new 61 [.int .i64 y.now, .int .i64 y.seq, .slice A1 n1 c1, .slice A2 n2 c2] w (b := w.heap.size) rfl).below ((Below.refl _ _).alloc (Nat.le_refl _) (.cells #[.int .i64 0, .int .i64 0, .slice none 0 0, .slice none 0 0] 61))
 have RES := DBox.new 61 [.int .i64 0, .int .i64 0, .slice none 0 0, .slice none 0 0] (w.alloc (.cells #[.int .i64 y.now, .int .i64 y.seq, .slice A1 n1 c1, .slice A2 n2 c2] 61)) (b := w.heap.size + 1) (by simp)
 have B0 : Below w.heap.size w ((w.alloc (.cells #[.int .i64 y.now, .int .i64 y.seq, .slice A1 n1 c1, .slice A2 n2 c2] 61)).alloc (.cells #[.int .i64 0, .int .i64 0, .slice none 0 0, .slice none 0 0] 61)) := by repeat (first | exact Below.refl _ _ | refine Below.alloc ?_ (by simp <;> omega) _)
 go_enter Try.func51, Try.ntmps51
 go_wp2_with fail
 generalize ((w.alloc (.cells #[.int .i64 y.now, .int .i64 y.seq, .slice A1 n1 c1, .slice A2 n2 c2] 61)).alloc (.cells #[.int .i64 0, .int .i64 0, .slice none 0 0, .slice none 0 0] 61)) = W at *
 have hRl : w.heap.size + 1 < W.heap.size := RES.lt
 refine (CC.out _ B0).mono ?_
 rintro e1 w1 ⟨⟨⟨B1, m1, e1⟩, ⟨B2, m2, e2⟩⟩, F, rfl, oy, nF, b1⟩
 have hs1 := b1.size
 have hFl := yardD.ow_lt (F := F) (x := y) (s := (⟨B1, m1, e1⟩, ⟨B2, m2, e2⟩)) oy
 replace X := X.below b1
 replace RES := RES.below b1
 replace B0 := bnext B0 b1
 clear b1
 go_upto_region 2 with fail
 have OB := DBox.new 61 [.int .i64 y.now, .int .i64 y.seq, .slice B1 m1 e1, .slice B2 m2 e2] w1 (b := w1.heap.size) rfl
 have b2 : Below w1.heap.size w1 (w1.alloc (.cells #[.int .i64 y.now, .int .i64 y.seq, .slice B1 m1 e1, .slice B2 m2 e2] 61)) := (Below.refl _ _).alloc (Nat.le_refl _) _
 replace X := X.below b2
 replace RES := RES.below b2
 replace oy := yardD.ow_below (F := F) (x := y) (s := (⟨B1, m1, e1⟩, ⟨B2, m2, e2⟩)) oy b2
 replace B0 := bnext B0 b2
 have ow1 := OB.lt
 clear b2
 generalize w1.alloc (.cells #[.int .i64 y.now, .int .i64 y.seq, .slice B1 m1 e1, .slice B2 m2 e2] 61) = w2 at *
 generalize hob : w1.heap.size = ob at *
 obtain ⟨X_0, X_1, X_2, X_3, X_l⟩ := X.g4
 obtain ⟨OB_0, OB_1, OB_2, OB_3, OB_l⟩ := OB.g4
 go_wp2_with fail
 refine (CY.out _ B0).mono ?_
 rintro e1 w3 ⟨rfl, b3⟩
 clear X_0 X_1 X_2 X_3 X_l
 clear OB_0 OB_1 OB_2 OB_3 OB_l
 replace X := X.below b3
 replace OB := OB.below b3
 replace RES := RES.below b3
 replace oy : yardD.ow w3 F y (⟨B1, m1, e1⟩, ⟨B2, m2, e2⟩) := yardD.ow_below (F := F) (x := y) (s := (⟨B1, m1, e1⟩, ⟨B2, m2, e2⟩)) oy b3
 replace B0 := bnext B0 b3
 clear b3
 obtain ⟨X_0, X_1, X_2, X_3, X_l⟩ := X.g4
 obtain ⟨OB_0, OB_1, OB_2, OB_3, OB_l⟩ := OB.g4
 by_cases p0 : yardP y
 case neg =>
  rw [tf_false p0]
  have H := Lib.hid (show tickC y = 8 by unfold tickC; rw [if_pos p0])
  have H2 := Lib.hid (show tickY y = y by unfold tickY; rw [H.out, if_neg (by decide)])
  obtain ⟨RES_0, RES_1, RES_2, RES_3, RES_l⟩ := RES.g4
  have rf := RES.free
  go_wp2
  have en1 : w.heap.size + 1 ∉ F := fun hx => by have := nF _ hx; omega
  refine bodyPost_ret (Tick_res (DBox.row4 RES rfl _ _ _ _)) rfl ⟨(⟨B1, m1, e1⟩, ⟨B2, m2, e2⟩), F, by rw [H.out, H2.out], by rw [H2.out]; exact (by (repeat (refine Dt.ow_set yardD ?_ en1 _)); exact (show yardD.ow _ F y (⟨B1, m1, e1⟩, ⟨B2, m2, e2⟩) from oy)), fun x hx => by have := nF x hx; omega, ?_⟩
  repeat (first | (with_reducible exact B0) | refine Below.setCell ?_ (by simp <;> omega) _)
 rw [tf_true p0]
 have P0 := Lib.hid p0
 have hnow := p0.1
 clear p0
 have wr1 : IntKind.i64.wrap (y.now + 1) = y.now + 1 := IntWalk.i64_in _ (by omega)
 by_cases p1 : 999999980 < y.now + 1
 case pos =>
  have H := Lib.hid (show tickC y = 7 by unfold tickC; rw [if_neg (fun h => h P0.out), if_pos p1])
  have H2 := Lib.hid (show tickY y = y by unfold tickY; rw [H.out, if_neg (by decide)])
  obtain ⟨RES_0, RES_1, RES_2, RES_3, RES_l⟩ := RES.g4
  have rf := RES.free
  go_wp2
  have en1 : w.heap.size + 1 ∉ F := fun hx => by have := nF _ hx; omega
  refine bodyPost_ret (Tick_res (DBox.row4 RES rfl _ _ _ _)) rfl ⟨(⟨B1, m1, e1⟩, ⟨B2, m2, e2⟩), F, by rw [H.out, H2.out], by rw [H2.out]; exact (by (repeat (refine Dt.ow_set yardD ?_ en1 _)); exact (show yardD.ow _ F y (⟨B1, m1, e1⟩, ⟨B2, m2, e2⟩) from oy)), fun x hx => by have := nF x hx; omega, ?_⟩
  repeat (first | (with_reducible exact B0) | refine Below.setCell ?_ (by simp <;> omega) _)
 have H := Lib.hid (show tickC y = 0 by unfold tickC; rw [if_neg (fun h => h P0.out), if_neg p1])
 have H2 := Lib.hid (show tickY y = ⟨(failsY y (lateU y y.runs.length)).now + 1, (failsY y (lateU y y.runs.length)).seq, (failsY y (lateU y y.runs.length)).shelf, (failsY y (lateU y y.runs.length)).runs⟩ by unfold tickY; rw [if_pos H.out]; rfl)
 have CL := Lib.hid (fun W hW => specLate_own y (⟨A1, n1, c1⟩, ⟨A2, n2, c2⟩) W hl P0.out (HR.out W hW))
 clear HR CC CY
 go_wp2_with fail
 refine (CL.out _ B0).mono ?_
 rintro e1 w4 ⟨⟨A9, n9, c9⟩, Fl, he, ol, nl, b4⟩
 replace he : e1 = .returned (.slice A9 n9 c9) := he
 subst he
 clear X_0 X_1 X_2 X_3 X_l
 clear OB_0 OB_1 OB_2 OB_3 OB_l
 clear X CL
 have hB3 := B0.size
 have hob3 : ob < w3.heap.size := OB.lt
 have hol := ol.lt
 replace OB := OB.below b4
 replace RES := RES.below b4
 replace oy : yardD.ow w4 F y (⟨B1, m1, e1⟩, ⟨B2, m2, e2⟩) := yardD.ow_below (F := F) (x := y) (s := (⟨B1, m1, e1⟩, ⟨B2, m2, e2⟩)) oy b4
 replace B0 := bnext B0 b4
 have hFF : Hid ((∀ x ∈ F, w.heap.size + 1 < x) ∧ ob ∉ F ∧ ∀ x ∈ Fl, x ∉ F) := ⟨fun x hx => by have := nF x hx; omega, fun hx => by have := hFl _ hx; omega, fun x hx hxF => by have h1 : w3.heap.size ≤ x := nl x hx; have h2 := hFl x hxF; omega⟩
 have hFln : ∀ x ∈ Fl, w3.heap.size ≤ x := nl
 have hmemL := Lib.hid (fun p (hp : p ∈ lateU y y.runs.length) => lateU_mem hp)
 have hw3 : w.heap.size + 1 < w3.heap.size := by omega
 have hw34 : w3.heap.size ≤ w4.heap.size := b4.size
 clear nF nl b4
 have hLs := Lib.hid (show (lateU y y.runs.length).length ≤ 96 by have h1 := lateU_len (runJ_len P0.out) y.runs.length; have h2 := P0.out.2.2.2.2.2.2.1; omega)
 generalize lateU y y.runs.length = L at *
 obtain rfl : n9 = L.length := by have := RdL.at1 (s := ⟨A9, n9, c9⟩) ol.rd; rw [List.length_map] at this; exact this
 go_wp2
 go_loopw [6, 7] (fun iv u wr => ∃ (i : Nat) (Z : Yard) (s : Sl × Sl) (F : List Nat), i ≤ L.length ∧ iv = .int .i64 i ∧ Hid (Trn y i Z) ∧ Hid (failsY y (L.take i) = Z) ∧ Hid (yardD.ow wr F Z s) ∧ Hid ((∀ x ∈ F, w.heap.size + 1 < x) ∧ ob ∉ F ∧ ∀ x ∈ Fl, x ∉ F) ∧ Hid (OwL (Dt.flats intE) wr Fl (.slice A9 L.length c9) (L.map (rowOf y))) ∧ DBox ob (yardCs Z s) wr ∧ DBox (w.heap.size + 1) [.int .i64 0, .int .i64 0, .slice none 0 0, .slice none 0 0] wr ∧ Below w.heap.size w wr ∧ w4.heap.size ≤ wr.heap.size) (fun i _ _ => L.length - (intOf i).toNat)
 case atStart => exact ⟨0, y, (⟨B1, m1, e1⟩, ⟨B2, m2, e2⟩), F, Nat.zero_le _, rfl, Trn.start P0.out, rfl, oy, hFF, ol, OB, RES, B0, Nat.le_refl _⟩
 case round =>
  clear oy hFF ol OB RES B0 hFl hol
  obtain ⟨i, Z, s, F, hi, rfl, hT, hZ, oy, hF, ol, OB, RES, hb, hw4⟩ := hrel
  obtain ⟨⟨B1, m1, e1⟩, ⟨B2, m2, e2⟩⟩ := s
  replace oy : yardD.ow wr F Z (⟨B1, m1, e1⟩, ⟨B2, m2, e2⟩) := oy.out
  have hFlt : ∀ x ∈ F, x < wr.heap.size := yardD.ow_lt (F := F) (x := Z) (s := (⟨B1, m1, e1⟩, ⟨B2, m2, e2⟩)) oy
  have hll := hLs.out
  obtain ⟨OB_0, OB_1, OB_2, OB_3, OB_l⟩ := OB.g4
  by_cases hlt : i < L.length
  ·have hltI : (i : Int) < (L.length : Int) := by omega
   have hi0 : (0 : Int) ≤ (i : Int) := by omega
   have hp := hmemL.out _ (List.getElem_mem hlt)
   have hstep : Hid (failsY y (L.take (i + 1)) = failAt Z L[i].1 L[i].2) := by
    show failsY y (L.take (i + 1)) = _
    unfold failsY
    rw [fold_take (fun z p => failAt z p.1 p.2) y L i hlt, ← hZ.out]
    rfl
   have hrow : (L.map (rowOf y))[i]'(by rw [List.length_map]; exact hlt) = [(runJ y L[i].1).id, (L[i].2 : Int), (taskAt (runJ y L[i].1) L[i].2).try_] := by
    rw [List.getElem_map]
    rfl
   generalize L[i] = p at *
   obtain ⟨k, t⟩ := p
   dsimp only at hp hstep hrow
   have hky : k < y.runs.length := hp.1
   have hkZ : k < Z.runs.length := by rw [hT.out.len]; exact hky
   rw [runJ_get hky] at hp hrow
   have hrn := hT.out.run k hkZ hky
   have htZ : t < Z.runs[k].tasks.length := by rw [hrn.2.2]; exact hp.2
   have hra := Lib.hid (show runAt Z y.runs[k].id = k from (hT.out.runAt _).trans (P0.out.2.2.2.2.2.2.2.1 k hky).2)
   have hcz := hT.out.cnt (by omega)
   have hN := hT.out.fail hkZ htZ
   replace hrow := Lib.hid hrow
   have hbln : ∀ z ∈ Fl, z ∉ F := hF.out.2.2
   obtain ⟨bl, lo, rfl⟩ : ∃ b o, A9 = some ⟨b, o, none⟩ := by
    obtain ⟨b, o, _, hA, _⟩ := RdL.at_ ol.out.rd i (by rw [List.length_map]; exact hlt)
    exact ⟨b, o, hA⟩
   obtain ⟨gl, pl, cl, hblF, hglF, l0, l1, l2, -⟩ := late_cells ol.out (i := i) (by rw [List.length_map]; exact hlt) hrow.out
   have hblw := ol.out.lt _ hblF
   have hglw := ol.out.lt _ hglF
   have oyr := (yardD.ow_rd (F := F) (x := Z) (s := (⟨B1, m1, e1⟩, ⟨B2, m2, e2⟩)) oy)
   have CA := Lib.hid (fun W (hW : Below wr.heap.size wr W) => specRunAt_own Z (⟨B1, m1, e1⟩, ⟨B2, m2, e2⟩) y.runs[k].id W hcz (yardD.rd_more (yardD.rd_below (x := Z) (s := (⟨B1, m1, e1⟩, ⟨B2, m2, e2⟩)) oyr hW) hW.size))
   clear oyr
   have hlc := later_cell wr
   go_wp2
   refine wp_region_pure (by kernel_rfl) (by kernel_rfl) ?_
   repeat (go_big_quiet_step ((go_at_call 62; rename_i x; have h1 := CA.out x.1 x.2; rw [hra.out] at h1; exact pure_of h1)))
   refine wpQuiet_nil ?_
   rintro w5 ⟨⟨_, b5⟩, rfl⟩
   clear hlc CA l0 l1 l2 hblw hglw
   clear OB_0 OB_1 OB_2 OB_3 OB_l
   replace OB := OB.below b5
   replace RES := RES.below b5
   replace oy : yardD.ow w5 F Z (⟨B1, m1, e1⟩, ⟨B2, m2, e2⟩) := yardD.ow_below (F := F) (x := Z) (s := (⟨B1, m1, e1⟩, ⟨B2, m2, e2⟩)) oy b5
   replace ol := Lib.hid (ol.out.below b5)
   replace hb := bnext hb b5
   replace hw4 := Nat.le_trans hw4 b5.size
   replace hFlt : ∀ x ∈ F, x < w5.heap.size := yardD.ow_lt (F := F) (x := Z) (s := (⟨B1, m1, e1⟩, ⟨B2, m2, e2⟩)) oy
   obtain ⟨gl, pl, cl, hblF, hglF, l0, l1, l2, -⟩ := late_cells ol.out (i := i) (by rw [List.length_map]; exact hlt) hrow.out
   have hblw := ol.out.lt _ hblF
   have hglw := ol.out.lt _ hglF
   obtain ⟨OB_0, OB_1, OB_2, OB_3, OB_l⟩ := OB.g4
   have oyr := (yardD.ow_rd (F := F) (x := Z) (s := (⟨B1, m1, e1⟩, ⟨B2, m2, e2⟩)) oy).2
   have hm2 := Lib.hid (show m2 = Z.runs.length from RdL.at1 (s := ⟨B2, m2, e2⟩) oyr)
   have hkI : (k : Int) < (m2 : Int) := by have := hm2.out; omega
   have hk0 : (0 : Int) ≤ (k : Int) := by omega
   obtain ⟨gr, orr, ⟨sk1, ⟨tka, tkn, tkc⟩⟩, rfl, hgrw, hrk, c0, c1, c2, c3, c4, c5, c6, c7⟩ := RdL.run (show RdL runD w5 w5.heap.size (.slice B2 m2 e2) Z.runs from oyr) hkZ
   have htkn : tkn = Z.runs[k].tasks.length := RdL.at1 (s := ⟨tka, tkn, tkc⟩) hrk.2
   have htI : (t : Int) < (tkn : Int) := by omega
   have ht0 : (0 : Int) ≤ (t : Int) := by omega
   obtain ⟨gt, ot, _, rfl, hgt, _, d0, d1, d2, d3⟩ := RdL.task (show RdL taskD w5 w5.heap.size (.slice tka tkn tkc) Z.runs[k].tasks from hrk.2) htZ
   have hrunP := Lib.hid hrn.1
   replace htkn := Lib.hid htkn
   have hlc := later_cell w5
   clear hrn oyr d1 d2 d3
   have hJ := Lib.hid (show taskAt (runJ Z k) t = Z.runs[k].tasks[t] by rw [runJ_get hkZ, taskAt_get htZ])
   have hJ2 := Lib.hid (runJ_get hkZ)
   generalize hrj : Z.runs[k] = r at *
   by_cases q : r.tasks[t].state = 3
   case neg =>
    have q1 : (r.tasks[t].state == 3) = false := by simp [q]
    have hsame := Lib.hid (show failAt Z k t = Z from failAt_no (by rw [hJ.out]; exact q))
    clear q
    go_wp2
    refine wp_region_pure (by kernel_rfl) (by kernel_rfl) ?_
    repeat (go_big_quiet_step (fail))
    refine wpQuiet_nil ?_
    rintro w6 ⟨⟨_, b6⟩, rfl⟩
    clear hlc
    go_wp2
    exact ⟨⟨i + 1, Z, (⟨B1, m1, e1⟩, ⟨some ⟨gr, orr, none⟩, m2, e2⟩), F, by omega, by go_num, hT.out.mono (by omega), hstep.out.trans hsame.out, yardD.ow_below (F := F) (x := Z) (s := (⟨B1, m1, e1⟩, ⟨some ⟨gr, orr, none⟩, m2, e2⟩)) oy b6, hF, ol.out.below b6, OB.below b6, RES.below b6, bnext hb b6, Nat.le_trans hw4 b6.size⟩, by simp [intOf]; omega⟩
   have q1 : (r.tasks[t].state == 3) = true := by simp [q]
   have hruns : Hid (runsP r t) := ⟨hrunP.out, ⟨by omega, by omega⟩, by rw [Int.toNat_natCast, taskAt_get htZ]; exact q⟩
   have hsame := Lib.hid (show failAt Z k t = turnY Z k (failsR r t) by rw [failAt_yes (by rw [hJ.out]; exact q), hJ2.out])
   replace hN : Hid (Trn y (i + 1) (failAt Z k t)) := hN
   clear q
   go_wp2
   refine wp_region_pure (by kernel_rfl) (by kernel_rfl) ?_
   repeat (go_big_quiet_step (fail))
   refine wpQuiet_nil ?_
   rintro w6 ⟨⟨_, b6⟩, rfl⟩
   clear hlc l0 l1 l2 hblw hglw c0 c1 c2 c3 c4 c5 c6 c7 d0 hgt
   clear OB_0 OB_1 OB_2 OB_3 OB_l
   replace OB := OB.below b6
   replace RES := RES.below b6
   replace oy : yardD.ow w6 F Z (⟨B1, m1, e1⟩, ⟨some ⟨gr, orr, none⟩, m2, e2⟩) := yardD.ow_below (F := F) (x := Z) (s := (⟨B1, m1, e1⟩, ⟨some ⟨gr, orr, none⟩, m2, e2⟩)) oy b6
   replace ol := Lib.hid (ol.out.below b6)
   replace hb := bnext hb b6
   replace hw4 := Nat.le_trans hw4 b6.size
   replace hFlt : ∀ x ∈ F, x < w6.heap.size := yardD.ow_lt (F := F) (x := Z) (s := (⟨B1, m1, e1⟩, ⟨some ⟨gr, orr, none⟩, m2, e2⟩)) oy
   obtain ⟨gl, pl, cl, hblF, hglF, l0, l1, l2, -⟩ := late_cells ol.out (i := i) (by rw [List.length_map]; exact hlt) hrow.out
   have hblw := ol.out.lt _ hblF
   have hglw := ol.out.lt _ hglF
   obtain ⟨OB_0, OB_1, OB_2, OB_3, OB_l⟩ := OB.g4
   obtain ⟨_, _, sk, hA9, hgrw6, hrk, c0, c1, c2, c3, c4, c5, c6, c7⟩ := RdL.run (show RdL runD w6 w6.heap.size (.slice (some ⟨gr, orr, none⟩) m2 e2) Z.runs from (yardD.ow_rd (F := F) (x := Z) (s := (⟨B1, m1, e1⟩, ⟨some ⟨gr, orr, none⟩, m2, e2⟩)) oy).2) hkZ
   simp only [Option.some.injEq, Addr.mk.injEq, and_true] at hA9
   obtain ⟨rfl, rfl⟩ := hA9
   rw [hrj] at hrk c0 c1 c2 c3 c4 c6
   have CF := Lib.hid (specFails_own r sk t w6.drew (by have := run_small hrunP.out; omega) hruns.out (runD.rd_below hrk (Below.refl _ _).drew))
   have hobw := OB.lt
   clear hrk
   go_wp2
   refine wp_region_last (fun w' => w'.cell? ⟨ob, 0, none⟩ = some (.int .i64 Z.now) ∧ w'.cell? ⟨ob, 1, none⟩ = some (.int .i64 Z.seq) ∧ w'.cell? ⟨ob, 2, none⟩ = some (.slice B1 m1 e1) ∧ w'.cell? ⟨ob, 3, none⟩ = some (.slice (some ⟨gr, orr, none⟩) m2 e2) ∧ w'.cell? ⟨bl, lo + i, none⟩ = some (.slice (some ⟨gl, pl, none⟩) 3 cl) ∧ w'.cell? ⟨gl, pl, none⟩ = some (.int .i64 y.runs[k].id) ∧ w'.cell? ⟨gl, pl + 1, none⟩ = some (.int .i64 (t : Int))) 15 (by kernel_rfl) ?_ (fun hHeld => ?_)
   ·exact ⟨OB_0, OB_1, OB_2, OB_3, l0, l1, l2⟩
   refine aT 0 hHeld ?_
   try simp only [pS]
   refine aT 1 hHeld ?_
   try simp only [pS]
   refine aT 2 hHeld ?_
   try simp only [pS]
   refine aT 3 hHeld ?_
   try simp only [pS]
   refine aT 4 hHeld ?_
   try simp only [pS]
   refine aT 5 hHeld ?_
   try simp only [pS]
   refine aT 7 hHeld ?_
   try simp only [pS]
   refine aT 8 hHeld ?_
   try simp only [pS]
   refine aT 9 hHeld ?_
   try simp only [pS]
   refine aT 10 hHeld ?_
   try simp only [pS]
   refine aT 11 hHeld ?_
   try simp only [pS]
   refine aT 12 hHeld ?_
   try simp only [pS]
   refine oT 6 (fun K hK => ?_)
   go_simp
   refine hK.out _ _ (fun _ => ?_) ?_
   ·exact ⟨OB_0, OB_1, OB_2, OB_3, l0, l1, l2⟩
   clear hK K
   try simp only [pS]
   refine oT 13 (fun K hK => ?_)
   (go_simp; refine CF.out.mono ?_; rintro e5 wa ⟨sr, Fr, rfl, orn, nFr, ba⟩; have hnFr : ∀ x ∈ Fr, w6.heap.size ≤ x := nFr; have oya : yardD.ow wa F Z (⟨B1, m1, e1⟩, ⟨some ⟨gr, orr, none⟩, m2, e2⟩) := yardD.ow_below (F := F) (x := Z) (s := (⟨B1, m1, e1⟩, ⟨some ⟨gr, orr, none⟩, m2, e2⟩)) oy (bnext (Below.refl _ _).drew ba); have CT := Lib.hid (specTurn_own Z (⟨B1, m1, e1⟩, ⟨some ⟨gr, orr, none⟩, m2, e2⟩) k (failsR r t) sr wa F Fr hT.out.four (fun s hs => by have := hT.out.all s hs; omega) (by have := hT.out.seq; omega) hkZ (by rw [failsR_len]; have := runP_len hrunP.out; omega) (by rw [hrj]; have := runP_len hrunP.out; omega) oya orn (fun x hx hxF => by have h1 := hnFr x hx; have h2 := hFlt x hxF; omega)))
   refine hK.out _ _ (fun _ => ?_) ?_
   ·exact ⟨(ba.cell (p := ⟨_, _, none⟩) (by show ob < w6.heap.size; omega)).trans OB_0, (ba.cell (p := ⟨_, _, none⟩) (by show ob < w6.heap.size; omega)).trans OB_1, (ba.cell (p := ⟨_, _, none⟩) (by show ob < w6.heap.size; omega)).trans OB_2, (ba.cell (p := ⟨_, _, none⟩) (by show ob < w6.heap.size; omega)).trans OB_3, (ba.cell (p := ⟨_, _, none⟩) (by show bl < w6.heap.size; omega)).trans l0, (ba.cell (p := ⟨_, _, none⟩) (by show gl < w6.heap.size; omega)).trans l1, (ba.cell (p := ⟨_, _, none⟩) (by show gl < w6.heap.size; omega)).trans l2⟩
   clear hK K
   try simp only [pS]
   refine oT 14 (fun K hK => ?_)
   (go_simp; refine CT.out.mono ?_; rintro e6 wb ⟨s6, F6, rfl, oy6, n6, cb⟩; have OB6 := (OB.below (bnext (Below.refl _ _).drew ba)).chg cb hF.out.2.1; have q0 := OB6.cell 0 _ rfl; have q1 := OB6.cell 1 _ rfl; have q2 := OB6.cell 2 _ rfl; have q3 := OB6.cell 3 _ rfl; have qf := OB6.free; have ql := OB6.lt; have u0 := (cb.cell (p := ⟨bl, _, none⟩) (by show bl < wa.heap.size; have := ba.size; have : w6.drew.heap.size = w6.heap.size := rfl; omega) (hF.out.2.2 _ hblF)).trans ((ba.cell (p := ⟨bl, _, none⟩) (by show bl < w6.heap.size; omega)).trans l0); have u1 := (cb.cell (p := ⟨gl, _, none⟩) (by show gl < wa.heap.size; have := ba.size; have : w6.drew.heap.size = w6.heap.size := rfl; omega) (hF.out.2.2 _ hglF)).trans ((ba.cell (p := ⟨gl, _, none⟩) (by show gl < w6.heap.size; omega)).trans l1); have u2 := (cb.cell (p := ⟨gl, _, none⟩) (by show gl < wa.heap.size; have := ba.size; have : w6.drew.heap.size = w6.heap.size := rfl; omega) (hF.out.2.2 _ hglF)).trans ((ba.cell (p := ⟨gl, _, none⟩) (by show gl < w6.heap.size; omega)).trans l2); generalize turnY Z k (failsR r t) = Z1 at *)
   refine hK.out _ _ (fun _ => ?_) ?_
   ·exact ⟨q0, q1, q2, q3, u0, u1, u2⟩
   clear hK K
   try simp only [pS]
   refine oT 15 (fun K hK => ?_)
   go_simp
   refine hK.out _ _ (fun hne => absurd rfl hne) ?_
   clear hK K
   try simp only [pS]
   refine wpAnyL_done (by kernel_rfl) ?_ _
   have ba' : Below w6.heap.size w6 wa := bnext (Below.refl _ _).drew ba
   have hbas := ba'.size
   have hcbs := cb.size
   have hOl := OB.lt
   have hRl7 := RES.lt
   have hCo := Chg.cells4 wb ob 0 1 2 3 (.int .i64 Z1.now) (.int .i64 Z1.seq) (.slice s6.1.a s6.1.n s6.1.c) (.slice s6.2.a s6.2.n s6.2.c)
   have hom := Lib.hid (show ∀ x, x ∈ [ob] → x = ob from fun x hx => by simpa using hx)
   have OB7 := DBox.row4 OB6 rfl (.int .i64 Z1.now) (.int .i64 Z1.seq) (.slice s6.1.a s6.1.n s6.1.c) (.slice s6.2.a s6.2.n s6.2.c)
   have RES7 := ((RES.below ba').chg cb (fun hx => by have := hF.out.1 _ hx; omega)).chg hCo (fun hx => by have := hom.out _ hx; omega)
   have hlw := ol.out.lt
   have ol7 := ((ol.out.below ba').chg cb (fun x hx => hF.out.2.2 x hx)).chg hCo (fun x hx h2 => by have h3 := hom.out x h2; have h4 := hFln x hx; omega)
   have hb7 := ((bnext hb ba').trans (cb.below (by have := (bnext hb ba').size; omega) (fun x hx => by have := hF.out.1 x hx; omega))).trans (hCo.below (by have := hb.size; omega) (fun x hx => by have := hom.out x hx; omega))
   have hn6 : ∀ x ∈ F6, x ∈ F ∨ w6.heap.size ≤ x := fun x hx => by
    rcases n6 x hx with h | h | h
    ·exact .inl h
    ·exact .inr (hnFr x h)
    ·exact .inr (by omega)
   have hob6 : ob ∉ F6 := fun hx => by
    rcases hn6 _ hx with h | h
    ·exact hF.out.2.1 h
    ·omega
   have oy7 := yardD.ow_chg (F := F6) (x := Z1) (s := s6) oy6 hCo (fun x hx h => by have := hom.out x h; subst this; exact hob6 hx)
   have hF7 : Hid ((∀ x ∈ F6, w.heap.size + 1 < x) ∧ ob ∉ F6 ∧ ∀ x ∈ Fl, x ∉ F6) := ⟨fun x hx => by
    rcases hn6 x hx with h | h
    ·exact hF.out.1 x h
    ·have := hRl7; omega, hob6, fun x hx hx6 => by
    rcases hn6 x hx6 with h | h
    ·exact hF.out.2.2 x hx h
    ·have := hlw x hx; omega⟩
   have hw7 := Nat.le_trans hw4 (Nat.le_trans (Nat.le_trans hbas hcbs) hCo.size)
   clear hHeld q0 q1 q2 q3 qf ql OB6 oy6 CT CF oya orn nFr n6 ba cb
   clear OB_0 OB_1 OB_2 OB_3 OB_l
   clear OB
   generalize (((wb.setCell ⟨ob, 0, none⟩ (.int .i64 Z1.now)).setCell ⟨ob, 1, none⟩ (.int .i64 Z1.seq)).setCell ⟨ob, 2, none⟩ (.slice s6.1.a s6.1.n s6.1.c)).setCell ⟨ob, 3, none⟩ (.slice s6.2.a s6.2.n s6.2.c) = w7 at *
   go_wp2
   exact ⟨⟨i + 1, Z1, s6, F6, by omega, by go_num, by rw [← hsame.out]; exact hN.out, hstep.out.trans hsame.out, oy7, hF7, ol7, OB7, RES7, hb7, hw7⟩, by simp [intOf]; omega⟩
  ·have hltI : ¬ (i : Int) < (L.length : Int) := by omega
   have hzn := Lib.hid hT.out.now
   have hZ1 := Lib.hid (show failsY y L = Z by have := hZ.out; rw [List.take_of_length_le (by omega)] at this; exact this)
   have wr2 : IntKind.i64.wrap (Z.now + 1) = Z.now + 1 := IntWalk.i64_in _ (by have := hzn.out; omega)
   have H3 := Lib.hid (show tickY y = ⟨Z.now + 1, Z.seq, Z.shelf, Z.runs⟩ by rw [H2.out, hZ1.out])
   have obf := OB.free
   go_upto_region 14 with fail
   clear OB_0 OB_1 OB_2 OB_3 OB_l
   clear obf
   have hRl3 := RES.lt
   replace OB : DBox ob [.int .i64 (Z.now + 1), .int .i64 Z.seq, .slice B1 m1 e1, .slice B2 m2 e2] (wr.setCell ⟨ob, 0, none⟩ (.int .i64 (Z.now + 1))) := OB.set 0 (by simp) _
   replace RES := RES.setOther (a := ⟨ob, 0, none⟩) (by show w.heap.size + 1 ≠ ob; omega) (.int .i64 (Z.now + 1))
   have hobn := hF.out.2.1
   have oy8 : yardD.ow (wr.setCell ⟨ob, 0, none⟩ (.int .i64 (Z.now + 1))) F ⟨Z.now + 1, Z.seq, Z.shelf, Z.runs⟩ (⟨B1, m1, e1⟩, ⟨B2, m2, e2⟩) := yardD.ow_set (F := F) (x := Z) (s := (⟨B1, m1, e1⟩, ⟨B2, m2, e2⟩)) oy (a := ⟨ob, 0, none⟩) hobn _
   have hb8 : Below w.heap.size w (wr.setCell ⟨ob, 0, none⟩ (.int .i64 (Z.now + 1))) := Below.setCell hb (by show w.heap.size ≤ ob; omega) _
   generalize wr.setCell ⟨ob, 0, none⟩ (.int .i64 (Z.now + 1)) = w8 at *
   obtain ⟨OB_0, OB_1, OB_2, OB_3, OB_l⟩ := OB.g4
   obtain ⟨RES_0, RES_1, RES_2, RES_3, RES_l⟩ := RES.g4
   have rf := RES.free
   go_wp2
   have en1 : w.heap.size + 1 ∉ F := fun hx => by have := hF.out.1 _ hx; omega
   refine bodyPost_ret (Tick_res (DBox.row4 RES rfl _ _ _ _)) rfl ⟨(⟨B1, m1, e1⟩, ⟨B2, m2, e2⟩), F, by rw [H.out, H3.out], by rw [H3.out]; exact (by (repeat (refine Dt.ow_set yardD ?_ en1 _)); exact (show yardD.ow _ F ⟨Z.now + 1, Z.seq, Z.shelf, Z.runs⟩ (⟨B1, m1, e1⟩, ⟨B2, m2, e2⟩) from oy8)), fun x hx => by have := hF.out.1 x hx; omega, ?_⟩
   repeat (first | (with_reducible exact hb8) | refine Below.setCell ?_ (by simp <;> omega) _)
end Go.Proofs.Ytonlnjdempbfoaa
end
section
namespace Go.Proofs.Ytonlnjdempbfoaa
open Go.RowKit
set_option maxRecDepth 100000
set_option maxHeartbeats 4000000
set_option linter.unusedVariables false
set_option linter.unusedSimpArgs false
def pairsR (k n : Nat) : List (Nat × Nat) := (List.range n).map fun t => (k, t)
def pairsU (y : Yard) (k : Nat) : List (Nat × Nat) := (List.range k).flatMap fun j => pairsR j (runJ y j).tasks.length
theorem pairsR_succ (k n : Nat) : pairsR k (n + 1) = pairsR k n ++ [(k, n)] := by
 unfold pairsR
 rw [List.range_succ, List.map_append]
 rfl
theorem pairsU_succ (y : Yard) (k : Nat) : pairsU y (k + 1) = pairsU y k ++ pairsR k (runJ y k).tasks.length := by
 unfold pairsU
 rw [List.range_succ, List.flatMap_append]
 simp
open Classical in
noncomputable def restY (y : Yard) : Yard := if yardP y then failsY y (pairsU y y.runs.length) else y
theorem Restart_res {b : Nat} {w : World} {u0 u1 u2 u3 : Value} (X : DBox b [u0, u1, u2, u3] w) {v0 v1 : Value} {rest : List Value} :
  (results Try.f54 (v0 :: v1 :: .pointer (some ⟨b, 0, none⟩) :: rest).toArray).run Try.prog w = .ok (.agg #[u0, u1, u2, u3]) w := by
 have c0 := X.cell 0 _ rfl
 have c1 := X.cell 1 _ rfl
 have c2 := X.cell 2 _ rfl
 have c3 := X.cell 3 _ rfl
 simp [results, Try.results54, go_sem, c0, c1, c2, c3]
theorem specRestart_own (y : Yard) (s : Sl × Sl) (w : World) (hl : cntYard y ≤ 2000000) (h : yardD.rd w w.heap.size y s) :
  Calls Try.prog 54 #[yardW y s] w (OwnPost yardD yardW (restY y) w) := by
 have HR := Lib.hid (show ∀ W, Below w.heap.size w W → yardD.rd W W.heap.size y s from fun W hW => yardD.rd_more (yardD.rd_below h hW) hW.size)
 obtain ⟨⟨A1, n1, c1⟩, ⟨A2, n2, c2⟩⟩ := s
 have CC := Lib.hid (fun W hW => specCopyYard_own y (⟨A1, n1, c1⟩, ⟨A2, n2, c2⟩) W hl (HR.out W hW))
 have CY := Lib.hid (fun W hW => specYardOk_any y (⟨A1, n1, c1⟩, ⟨A2, n2, c2⟩) W hl (HR.out W hW))
 clear h
 have X := (DBox.new 61 [.int .i64 y.now, .int .i64 y.seq, .slice A1 n1 c1, .slice A2 n2 c2] w (b := w.heap.size) rfl).below ((Below.refl _ _).alloc (Nat.le_refl _) (.cells #[.int .i64 0, .int .i64 0, .slice none 0 0, .slice none 0 0] 61))
 have RES := DBox.new 61 [.int .i64 0, .int .i64 0, .slice none 0 0, .slice none 0 0] (w.alloc (.cells #[.int .i64 y.now, .int .i64 y.seq, .slice A1 n1 c1, .slice A2 n2 c2] 61)) (b := w.heap.size + 1) (by simp)
 have B0 : Below w.heap.size w ((w.alloc (.cells #[.int .i64 y.now, .int .i64 y.seq, .slice A1 n1 c1, .slice A2 n2 c2] 61)).alloc (.cells #[.int .i64 0, .int .i64 0, .slice none 0 0, .slice none 0 0] 61)) := by repeat (first | exact Below.refl _ _ | refine Below.alloc ?_ (by simp <;> omega) _)
 go_enter Try.func54, Try.ntmps54
 go_wp2_with fail
 generalize ((w.alloc (.cells #[.int .i64 y.now, .int .i64 y.seq, .slice A1 n1 c1, .slice A2 n2 c2] 61)).alloc (.cells #[.int .i64 0, .int .i64 0, .slice none 0 0, .slice none 0 0] 61)) = W at *
 have hRl : w.heap.size + 1 < W.heap.size := RES.lt
 refine (CC.out _ B0).mono ?_
 rintro e1 w1 ⟨⟨⟨B1, m1, e1⟩, ⟨B2, m2, e2⟩⟩, F, rfl, oy, nF, b1⟩
 have hs1 := b1.size
 have hFl := yardD.ow_lt (F := F) (x := y) (s := (⟨B1, m1, e1⟩, ⟨B2, m2, e2⟩)) oy
 replace X := X.below b1
 replace RES := RES.below b1
 replace B0 := bnext B0 b1
 clear b1
 go_upto_region 2 with fail
 have OB := DBox.new 61 [.int .i64 y.now, .int .i64 y.seq, .slice B1 m1 e1, .slice B2 m2 e2] w1 (b := w1.heap.size) rfl
 have b2 : Below w1.heap.size w1 (w1.alloc (.cells #[.int .i64 y.now, .int .i64 y.seq, .slice B1 m1 e1, .slice B2 m2 e2] 61)) := (Below.refl _ _).alloc (Nat.le_refl _) _
 replace X := X.below b2
 replace RES := RES.below b2
 replace oy := yardD.ow_below (F := F) (x := y) (s := (⟨B1, m1, e1⟩, ⟨B2, m2, e2⟩)) oy b2
 replace B0 := bnext B0 b2
 have ow1 := OB.lt
 clear b2
 generalize w1.alloc (.cells #[.int .i64 y.now, .int .i64 y.seq, .slice B1 m1 e1, .slice B2 m2 e2] 61) = w2 at *
 generalize hob : w1.heap.size = ob at *
 obtain ⟨X_0, X_1, X_2, X_3, X_l⟩ := X.g4
 obtain ⟨OB_0, OB_1, OB_2, OB_3, OB_l⟩ := OB.g4
 go_wp2_with fail
 refine (CY.out _ B0).mono ?_
 rintro e1 w3 ⟨rfl, b3⟩
 clear X_0 X_1 X_2 X_3 X_l
 clear OB_0 OB_1 OB_2 OB_3 OB_l
 replace X := X.below b3
 replace OB := OB.below b3
 replace RES := RES.below b3
 replace oy : yardD.ow w3 F y (⟨B1, m1, e1⟩, ⟨B2, m2, e2⟩) := yardD.ow_below (F := F) (x := y) (s := (⟨B1, m1, e1⟩, ⟨B2, m2, e2⟩)) oy b3
 replace B0 := bnext B0 b3
 clear b3
 obtain ⟨X_0, X_1, X_2, X_3, X_l⟩ := X.g4
 obtain ⟨OB_0, OB_1, OB_2, OB_3, OB_l⟩ := OB.g4
 by_cases p0 : yardP y
 case neg =>
  rw [tf_false p0]
  have H2 := Lib.hid (show restY y = y from if_neg p0)
  clear p0
  obtain ⟨RES_0, RES_1, RES_2, RES_3, RES_l⟩ := RES.g4
  have rf := RES.free
  go_wp2
  have en1 : w.heap.size + 1 ∉ F := fun hx => by have := nF _ hx; omega
  refine bodyPost_ret (Restart_res (DBox.row4 RES rfl _ _ _ _)) rfl ⟨(⟨B1, m1, e1⟩, ⟨B2, m2, e2⟩), F, by rw [H2.out], by rw [H2.out]; exact (by (repeat (refine Dt.ow_set yardD ?_ en1 _)); exact (show yardD.ow _ F y (⟨B1, m1, e1⟩, ⟨B2, m2, e2⟩) from oy)), fun x hx => by have := nF x hx; omega, ?_⟩
  repeat (first | (with_reducible exact B0) | refine Below.setCell ?_ (by simp <;> omega) _)
 rw [tf_true p0]
 have P0 := Lib.hid p0
 have H2 := Lib.hid (show restY y = failsY y (pairsU y y.runs.length) from if_pos p0)
 clear p0
 have hob3 : ob < w3.heap.size := OB.lt
 have hB3 := B0.size
 have hw3 : w.heap.size + 1 < w3.heap.size := by omega
 have hr8 : y.runs.length ≤ 8 := P0.out.2.2.2.2.2.2.1
 have hFF : Hid ((∀ x ∈ F, w.heap.size + 1 < x) ∧ ob ∉ F ∧ True) := ⟨fun x hx => by have := nF x hx; omega, fun hx => by have := hFl _ hx; omega, trivial⟩
 clear X_0 X_1 X_2 X_3 X_l
 clear OB_0 OB_1 OB_2 OB_3 OB_l
 clear X HR CC CY nF hFl
 go_wp2
 go_loopw [4] (fun iv wr => ∃ (k : Nat) (Z : Yard) (s : Sl × Sl) (F : List Nat), k ≤ y.runs.length ∧ iv = .int .i64 k ∧ Hid (Trn y (12 * k) Z) ∧ Hid (failsY y (pairsU y k) = Z) ∧ Hid (yardD.ow wr F Z s) ∧ Hid ((∀ x ∈ F, w.heap.size + 1 < x) ∧ ob ∉ F ∧ True) ∧ DBox ob (yardCs Z s) wr ∧ DBox (w.heap.size + 1) [.int .i64 0, .int .i64 0, .slice none 0 0, .slice none 0 0] wr ∧ Below w.heap.size w wr ∧ w3.heap.size ≤ wr.heap.size) (fun i _ => y.runs.length - (intOf i).toNat)
 case atStart => exact ⟨0, y, (⟨B1, m1, e1⟩, ⟨B2, m2, e2⟩), F, Nat.zero_le _, rfl, Trn.start P0.out, rfl, oy, hFF, OB, RES, B0, Nat.le_refl _⟩
 case round =>
  clear oy hFF OB RES B0
  obtain ⟨k, Z, s, F, hk, rfl, hT, hZ, oy, hF, OB, RES, hb, hw4⟩ := hrel
  obtain ⟨⟨B1, m1, e1⟩, ⟨B2, m2, e2⟩⟩ := s
  have hm2 := Lib.hid (show m2 = y.runs.length from (RdL.at1 (s := ⟨B2, m2, e2⟩) (yardD.ow_rd oy.out).2).trans hT.out.len)
  obtain ⟨OB_0, OB_1, OB_2, OB_3, OB_l⟩ := OB.g4
  by_cases hlt : k < y.runs.length
  ·have hltI : (k : Int) < (m2 : Int) := by have := hm2.out; omega
   have hk0 : (0 : Int) ≤ (k : Int) := by omega
   go_wp2
   go_loopw [5] (fun iv wr => ∃ (t : Nat) (Z : Yard) (s : Sl × Sl) (F : List Nat), t ≤ y.runs[k].tasks.length ∧ iv = .int .i64 t ∧ Hid (Trn y (12 * k + t) Z) ∧ Hid (failsY y (pairsU y k ++ pairsR k t) = Z) ∧ Hid (yardD.ow wr F Z s) ∧ Hid ((∀ x ∈ F, w.heap.size + 1 < x) ∧ ob ∉ F ∧ True) ∧ DBox ob (yardCs Z s) wr ∧ DBox (w.heap.size + 1) [.int .i64 0, .int .i64 0, .slice none 0 0, .slice none 0 0] wr ∧ Below w.heap.size w wr ∧ w3.heap.size ≤ wr.heap.size) (fun i _ => y.runs[k].tasks.length - (intOf i).toNat)
   case atStart => exact ⟨0, Z, (⟨B1, m1, e1⟩, ⟨B2, m2, e2⟩), F, Nat.zero_le _, rfl, hT, by rw [show pairsR k 0 = [] from rfl, List.append_nil]; exact hZ, oy, hF, OB, RES, hb, hw4⟩
   case round =>
    clear OB_0 OB_1 OB_2 OB_3 OB_l
    clear oy hF OB RES hb hw4 hT hZ hm2 hltI
    obtain ⟨t, Z, s, F, ht, rfl, hT, hZ, oy, hF, OB, RES, hb, hw4⟩ := hrel
    obtain ⟨⟨B1, m1, e1⟩, ⟨B2, m2, e2⟩⟩ := s
    replace oy : yardD.ow wr F Z (⟨B1, m1, e1⟩, ⟨B2, m2, e2⟩) := oy.out
    have hFlt : ∀ x ∈ F, x < wr.heap.size := yardD.ow_lt (F := F) (x := Z) (s := (⟨B1, m1, e1⟩, ⟨B2, m2, e2⟩)) oy
    have hT12 := (runP_len (yard_runs P0.out hlt)).2
    have hkZ : k < Z.runs.length := by rw [hT.out.len]; exact hlt
    have hrn := hT.out.run k hkZ hlt
    have oyr := (yardD.ow_rd (F := F) (x := Z) (s := (⟨B1, m1, e1⟩, ⟨B2, m2, e2⟩)) oy).2
    have hm2 := Lib.hid (show m2 = Z.runs.length from RdL.at1 (s := ⟨B2, m2, e2⟩) oyr)
    have hkI : (k : Int) < (m2 : Int) := by have := hm2.out; omega
    obtain ⟨gr, orr, ⟨sk1, ⟨tka, tkn, tkc⟩⟩, rfl, hgrw, hrk, c0, c1, c2, c3, c4, c5, c6, c7⟩ := RdL.run (show RdL runD wr wr.heap.size (.slice B2 m2 e2) Z.runs from oyr) hkZ
    have htkn := Lib.hid (show tkn = Z.runs[k].tasks.length from RdL.at1 (s := ⟨tka, tkn, tkc⟩) hrk.2)
    have hrl := Lib.hid hrn.2.2
    have hrunP := Lib.hid hrn.1
    clear hrn oyr
    obtain ⟨OB_0, OB_1, OB_2, OB_3, OB_l⟩ := OB.g4
    by_cases hlt2 : t < y.runs[k].tasks.length
    ·have htI : (t : Int) < (tkn : Int) := by have := htkn.out; have := hrl.out; omega
     have ht0 : (0 : Int) ≤ (t : Int) := by omega
     have htZ : t < Z.runs[k].tasks.length := by have := hrl.out; omega
     have hN := Lib.hid (hT.out.fail hkZ htZ)
     have hstep : Hid (failsY y (pairsU y k ++ pairsR k (t + 1)) = failAt Z k t) := by
      show failsY y (pairsU y k ++ pairsR k (t + 1)) = _
      rw [pairsR_succ, ← List.append_assoc]
      unfold failsY
      rw [List.foldl_append, ← hZ.out]
      rfl
     obtain ⟨gt, ot, _, rfl, hgt, _, d0, d1, d2, d3⟩ := RdL.task (show RdL taskD wr wr.heap.size (.slice tka tkn tkc) Z.runs[k].tasks from hrk.2) htZ
     have hJ := Lib.hid (show taskAt (runJ Z k) t = Z.runs[k].tasks[t] by rw [runJ_get hkZ, taskAt_get htZ])
     have hJ2 := Lib.hid (runJ_get hkZ)
     clear d1 d2 d3
     generalize hrj : Z.runs[k] = r at *
     replace hrj := Lib.hid hrj
     by_cases q : r.tasks[t].state = 3
     case neg =>
      have q1 : (r.tasks[t].state == 3) = false := by simp [q]
      have hsame := Lib.hid (show failAt Z k t = Z from failAt_no (by rw [hJ.out]; exact q))
      clear q
      go_wp2
      exact ⟨⟨t + 1, Z, (⟨B1, m1, e1⟩, ⟨some ⟨gr, orr, none⟩, m2, e2⟩), F, hlt2, by go_num, by rw [hsame.out] at hN; exact hN, hstep.out.trans hsame.out, oy, hF, OB, RES, hb, hw4⟩, by simp [intOf]; omega⟩
     have q1 : (r.tasks[t].state == 3) = true := by simp [q]
     have hruns : Hid (runsP r t) := ⟨hrunP.out, ⟨by omega, by omega⟩, by rw [Int.toNat_natCast, taskAt_get htZ]; exact q⟩
     have hsame := Lib.hid (show failAt Z k t = turnY Z k (failsR r t) by rw [failAt_yes (by rw [hJ.out]; exact q), hJ2.out])
     have CF := Lib.hid (specFails_own r (sk1, ⟨some ⟨gt, ot, none⟩, tkn, tkc⟩) t wr.drew (by have := run_small hrunP.out; omega) hruns.out (runD.rd_below hrk (Below.refl _ _).drew))
     have hobw := OB.lt
     clear q hrk
     go_wp2
     refine wp_region_last (fun w' => w'.cell? ⟨ob, 0, none⟩ = some (.int .i64 Z.now) ∧ w'.cell? ⟨ob, 1, none⟩ = some (.int .i64 Z.seq) ∧ w'.cell? ⟨ob, 2, none⟩ = some (.slice B1 m1 e1) ∧ w'.cell? ⟨ob, 3, none⟩ = some (.slice (some ⟨gr, orr, none⟩) m2 e2)) 10 (by kernel_rfl) ?_ (fun hHeld => ?_)
     ·exact ⟨OB_0, OB_1, OB_2, OB_3⟩
     refine aT 0 hHeld ?_
     try simp only [pS]
     refine aT 1 hHeld ?_
     try simp only [pS]
     refine aT 2 hHeld ?_
     try simp only [pS]
     refine aT 3 hHeld ?_
     try simp only [pS]
     refine aT 4 hHeld ?_
     try simp only [pS]
     refine aT 5 hHeld ?_
     try simp only [pS]
     refine aT 7 hHeld ?_
     try simp only [pS]
     refine oT 6 (fun K hK => ?_)
     go_simp
     refine hK.out _ _ (fun _ => ?_) ?_
     ·exact ⟨OB_0, OB_1, OB_2, OB_3⟩
     clear hK K
     try simp only [pS]
     refine oT 8 (fun K hK => ?_)
     (go_simp; refine CF.out.mono ?_; rintro e5 wa ⟨sr, Fr, rfl, orn, nFr, ba⟩; have hnFr : ∀ x ∈ Fr, wr.heap.size ≤ x := nFr; have oya : yardD.ow wa F Z (⟨B1, m1, e1⟩, ⟨some ⟨gr, orr, none⟩, m2, e2⟩) := yardD.ow_below (F := F) (x := Z) (s := (⟨B1, m1, e1⟩, ⟨some ⟨gr, orr, none⟩, m2, e2⟩)) oy (bnext (Below.refl _ _).drew ba); have CT := Lib.hid (specTurn_own Z (⟨B1, m1, e1⟩, ⟨some ⟨gr, orr, none⟩, m2, e2⟩) k (failsR r t) sr wa F Fr hT.out.four (fun s hs => by have := hT.out.all s hs; omega) (by have := hT.out.seq; omega) hkZ (by rw [failsR_len]; have := runP_len hrunP.out; omega) (by rw [hrj.out]; have := runP_len hrunP.out; omega) oya orn (fun x hx hxF => by have h1 := hnFr x hx; have h2 := hFlt x hxF; omega)))
     refine hK.out _ _ (fun _ => ?_) ?_
     ·exact ⟨(ba.cell (p := ⟨_, _, none⟩) (by show ob < wr.heap.size; omega)).trans OB_0, (ba.cell (p := ⟨_, _, none⟩) (by show ob < wr.heap.size; omega)).trans OB_1, (ba.cell (p := ⟨_, _, none⟩) (by show ob < wr.heap.size; omega)).trans OB_2, (ba.cell (p := ⟨_, _, none⟩) (by show ob < wr.heap.size; omega)).trans OB_3⟩
     clear hK K
     try simp only [pS]
     refine oT 9 (fun K hK => ?_)
     (go_simp; refine CT.out.mono ?_; rintro e6 wb ⟨s6, F6, rfl, oy6, n6, cb⟩; have OB6 := (OB.below (bnext (Below.refl _ _).drew ba)).chg cb hF.out.2.1; have q0 := OB6.cell 0 _ rfl; have q1 := OB6.cell 1 _ rfl; have q2 := OB6.cell 2 _ rfl; have q3 := OB6.cell 3 _ rfl; have qf := OB6.free; have ql := OB6.lt; generalize turnY Z k (failsR r t) = Z1 at *)
     refine hK.out _ _ (fun _ => ?_) ?_
     ·exact ⟨q0, q1, q2, q3⟩
     clear hK K
     try simp only [pS]
     refine oT 10 (fun K hK => ?_)
     go_simp
     refine hK.out _ _ (fun hne => absurd rfl hne) ?_
     clear hK K
     try simp only [pS]
     refine wpAnyL_done (by kernel_rfl) ?_ _
     have ba' : Below wr.heap.size wr wa := bnext (Below.refl _ _).drew ba
     have hbas := ba'.size
     have hcbs := cb.size
     have hOl := OB.lt
     have hRl7 := RES.lt
     have hCo := Chg.cells4 wb ob 0 1 2 3 (.int .i64 Z1.now) (.int .i64 Z1.seq) (.slice s6.1.a s6.1.n s6.1.c) (.slice s6.2.a s6.2.n s6.2.c)
     have hom := Lib.hid (show ∀ x, x ∈ [ob] → x = ob from fun x hx => by simpa using hx)
     have OB7 := DBox.row4 OB6 rfl (.int .i64 Z1.now) (.int .i64 Z1.seq) (.slice s6.1.a s6.1.n s6.1.c) (.slice s6.2.a s6.2.n s6.2.c)
     have RES7 := ((RES.below ba').chg cb (fun hx => by have := hF.out.1 _ hx; omega)).chg hCo (fun hx => by have := hom.out _ hx; omega)
     have hb7 := ((bnext hb ba').trans (cb.below (by have := (bnext hb ba').size; omega) (fun x hx => by have := hF.out.1 x hx; omega))).trans (hCo.below (by have := hb.size; omega) (fun x hx => by have := hom.out x hx; omega))
     have hn6 : ∀ x ∈ F6, x ∈ F ∨ wr.heap.size ≤ x := fun x hx => by
      rcases n6 x hx with h | h | h
      ·exact .inl h
      ·exact .inr (hnFr x h)
      ·exact .inr (by omega)
     have hob6 : ob ∉ F6 := fun hx => by
      rcases hn6 _ hx with h | h
      ·exact hF.out.2.1 h
      ·omega
     have oy7 := yardD.ow_chg (F := F6) (x := Z1) (s := s6) oy6 hCo (fun x hx h => by have := hom.out x h; subst this; exact hob6 hx)
     have hF7 : Hid ((∀ x ∈ F6, w.heap.size + 1 < x) ∧ ob ∉ F6 ∧ True) := ⟨fun x hx => by
      rcases hn6 x hx with h | h
      ·exact hF.out.1 x h
      ·have := hRl7; omega, hob6, trivial⟩
     have hw7 := Nat.le_trans hw4 (Nat.le_trans (Nat.le_trans hbas hcbs) hCo.size)
     clear hHeld q0 q1 q2 q3 qf ql OB6 oy6 CT CF oya orn nFr n6 ba cb
     clear OB_0 OB_1 OB_2 OB_3 OB_l
     clear OB
     generalize (((wb.setCell ⟨ob, 0, none⟩ (.int .i64 Z1.now)).setCell ⟨ob, 1, none⟩ (.int .i64 Z1.seq)).setCell ⟨ob, 2, none⟩ (.slice s6.1.a s6.1.n s6.1.c)).setCell ⟨ob, 3, none⟩ (.slice s6.2.a s6.2.n s6.2.c) = w7 at *
     go_wp2
     exact ⟨⟨t + 1, Z1, s6, F6, hlt2, by go_num, by rw [← hsame.out]; exact hN, hstep.out.trans hsame.out, oy7, hF7, OB7, RES7, hb7, hw7⟩, by simp [intOf]; omega⟩
    ·have htI : ¬ (t : Int) < (tkn : Int) := by have := htkn.out; have := hrl.out; omega
     have hS := Lib.hid (show failsY y (pairsU y (k + 1)) = Z by
      rw [pairsU_succ, show (runJ y k).tasks.length = t by rw [runJ_get hlt]; omega]
      exact hZ.out)
     have hM := Lib.hid (show Trn y (12 * (k + 1)) Z from hT.out.mono (by omega))
     go_wp2
     exact ⟨⟨k + 1, Z, (⟨B1, m1, e1⟩, ⟨some ⟨gr, orr, none⟩, m2, e2⟩), F, by omega, by go_num, hM, hS, oy, hF, OB, RES, hb, hw4⟩, by simp [intOf]; omega⟩
  ·have hltI : ¬ (k : Int) < (m2 : Int) := by have := hm2.out; omega
   have hkk : k = y.runs.length := by omega
   have H3 := Lib.hid (show restY y = Z by rw [H2.out, ← hZ.out, hkk])
   clear hkk
   replace oy : yardD.ow wr F Z (⟨B1, m1, e1⟩, ⟨B2, m2, e2⟩) := oy.out
   have rf := RES.free
   obtain ⟨RES_0, RES_1, RES_2, RES_3, RES_l⟩ := RES.g4
   go_wp2
   have en1 : w.heap.size + 1 ∉ F := fun hx => by have := hF.out.1 _ hx; omega
   refine bodyPost_ret (Restart_res (DBox.row4 RES rfl _ _ _ _)) rfl ⟨(⟨B1, m1, e1⟩, ⟨B2, m2, e2⟩), F, by rw [H3.out], by rw [H3.out]; exact (by (repeat (refine Dt.ow_set yardD ?_ en1 _)); exact (show yardD.ow _ F Z (⟨B1, m1, e1⟩, ⟨B2, m2, e2⟩) from oy)), fun x hx => by have := hF.out.1 x hx; omega, ?_⟩
   repeat (first | (with_reducible exact hb) | refine Below.setCell ?_ (by simp <;> omega) _)
end Go.Proofs.Ytonlnjdempbfoaa
end
