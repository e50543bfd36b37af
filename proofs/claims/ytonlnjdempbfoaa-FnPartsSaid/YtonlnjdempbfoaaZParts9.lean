/-
  Complete of the reference. VictimsOf of the reference. TasksIn of the reference. Poll of the reference. Written by program (kv.py). RunNew of the reference.
-/
import Derived.Test.YtonlnjdempbfoaaZParts8
section
namespace Go.Proofs.Ytonlnjdempbfoaa
open Go.RowKit
set_option maxRecDepth 100000
set_option maxHeartbeats 2000000
set_option linter.unusedVariables false
set_option linter.unusedSimpArgs false
theorem Complete_res {b : Nat} {w : World} {u0 u1 u2 u3 : Value} (X : DBox b [u0, u1, u2, u3] w) {v0 v1 v2 v3 v4 v5 v6 v7 v9 : Value} {rest : List Value} :
  (results Try.f49 (v0 :: v1 :: v2 :: v3 :: v4 :: v5 :: v6 :: v7 :: .pointer (some ⟨b, 0, none⟩) :: v9 :: rest).toArray).run Try.prog w = .ok (.tuple #[.agg #[u0, u1, u2, u3], v9]) w := by
 have c0 := X.cell 0 _ rfl
 have c1 := X.cell 1 _ rfl
 have c2 := X.cell 2 _ rfl
 have c3 := X.cell 3 _ rfl
 simp [results, Try.results49, go_sem, c0, c1, c2, c3]
theorem doneR_len (r : Run) (t : Nat) : (doneR r t).tasks.length = r.tasks.length := by
 show (doneT r t).length = _
 unfold doneT
 rw [doneL_len r t, modT_len]
open Classical in
noncomputable def compY (y : Yard) (id tk tr : Int) : Yard := if askC y id tk tr = 0 then turnY y (runAt y id).toNat (doneR (runK y id) tk.toNat) else y
theorem specComplete_own (y : Yard) (s : Sl × Sl) (id tk tr : Int) (w : World) (hl : cntYard y ≤ 2000000) (h : yardD.rd w w.heap.size y s) :
  Calls Try.prog 49 #[yardW y s, .int .i64 id, .int .i64 tk, .int .i64 tr] w (CodePost (compY y id tk tr) (askC y id tk tr) w) := by
 have HR := Lib.hid (show ∀ W, Below w.heap.size w W → yardD.rd W W.heap.size y s from fun W hW => yardD.rd_more (yardD.rd_below h hW) hW.size)
 obtain ⟨⟨A1, n1, c1⟩, ⟨A2, n2, c2⟩⟩ := s
 have CC := Lib.hid (fun W hW => specCopyYard_own y (⟨A1, n1, c1⟩, ⟨A2, n2, c2⟩) W hl (HR.out W hW))
 have CK := Lib.hid (fun W hW => specAsk_any y (⟨A1, n1, c1⟩, ⟨A2, n2, c2⟩) id tk tr W hl (HR.out W hW))
 have CA := Lib.hid (fun W hW => specRunAt_own y (⟨A1, n1, c1⟩, ⟨A2, n2, c2⟩) id W hl (HR.out W hW))
 clear h
 have X := (DBox.new 61 [.int .i64 y.now, .int .i64 y.seq, .slice A1 n1 c1, .slice A2 n2 c2] w (b := w.heap.size) rfl).below ((Below.refl _ _).alloc (Nat.le_refl _) (.cells #[.int .i64 0, .int .i64 0, .slice none 0 0, .slice none 0 0] 61))
 have RES := DBox.new 61 [.int .i64 0, .int .i64 0, .slice none 0 0, .slice none 0 0] (w.alloc (.cells #[.int .i64 y.now, .int .i64 y.seq, .slice A1 n1 c1, .slice A2 n2 c2] 61)) (b := w.heap.size + 1) (by simp)
 have B0 : Below w.heap.size w ((w.alloc (.cells #[.int .i64 y.now, .int .i64 y.seq, .slice A1 n1 c1, .slice A2 n2 c2] 61)).alloc (.cells #[.int .i64 0, .int .i64 0, .slice none 0 0, .slice none 0 0] 61)) := by repeat (first | exact Below.refl _ _ | refine Below.alloc ?_ (by simp <;> omega) _)
 go_enter Try.func49, Try.ntmps49
 go_wp2_with fail
 generalize ((w.alloc (.cells #[.int .i64 y.now, .int .i64 y.seq, .slice A1 n1 c1, .slice A2 n2 c2] 61)).alloc (.cells #[.int .i64 0, .int .i64 0, .slice none 0 0, .slice none 0 0] 61)) = W at *
 refine (CC.out _ B0).mono ?_
 rintro e1 w1 ⟨⟨⟨B1, m1, e1⟩, ⟨B2, m2, e2⟩⟩, F, rfl, oy, nF, b1⟩
 have hXl := X.lt
 have hRl := RES.lt
 replace X := X.below b1
 replace RES := RES.below b1
 replace B0 := bnext B0 b1
 have hFlt := yardD.ow_lt (F := F) (x := y) (s := (⟨B1, m1, e1⟩, ⟨B2, m2, e2⟩)) oy
 have hs1 := b1.size
 clear b1
 go_upto_region 2 with fail
 have OB := DBox.new 61 [.int .i64 y.now, .int .i64 y.seq, .slice B1 m1 e1, .slice B2 m2 e2] w1 (b := w1.heap.size) rfl
 have b2 : Below w1.heap.size w1 (w1.alloc (.cells #[.int .i64 y.now, .int .i64 y.seq, .slice B1 m1 e1, .slice B2 m2 e2] 61)) := (Below.refl _ _).alloc (Nat.le_refl _) _
 replace B0 := bnext B0 b2
 replace X := X.below b2
 replace RES := RES.below b2
 replace oy := yardD.ow_below (F := F) (x := y) (s := (⟨B1, m1, e1⟩, ⟨B2, m2, e2⟩)) oy b2
 have hs2 := b2.size
 have ow1 := OB.lt
 generalize w1.alloc (.cells #[.int .i64 y.now, .int .i64 y.seq, .slice B1 m1 e1, .slice B2 m2 e2] 61) = w2 at *
 obtain ⟨X_0, X_1, X_2, X_3, X_l⟩ := X.g4
 go_wp2_with fail
 refine (CK.out _ B0).mono ?_
 rintro e1 w3 ⟨rfl, b3⟩
 replace B0 := bnext B0 b3
 clear X_0 X_1 X_2 X_3 X_l
 replace X := X.below b3
 replace RES := RES.below b3
 replace OB := OB.below b3
 replace oy := yardD.ow_below (F := F) (x := y) (s := (⟨B1, m1, e1⟩, ⟨B2, m2, e2⟩)) oy b3
 have hs3 := b3.size
 clear b3 b2 CC CK
 obtain ⟨X_0, X_1, X_2, X_3, X_l⟩ := X.g4
 obtain ⟨OB_0, OB_1, OB_2, OB_3, OB_l⟩ := OB.g4
 by_cases q : askC y id tk tr = 0
 case neg =>
  have q2 : (askC y id tk tr != 0) = true := by simp [q]
  have H := Lib.hid (show compY y id tk tr = y from if_neg q)
  clear q
  obtain ⟨RES_0, RES_1, RES_2, RES_3, RES_l⟩ := RES.g4
  have rf := RES.free
  go_wp2
  have en1 : w.heap.size + 1 ∉ F := fun hx => by have := nF _ hx; omega
  refine bodyPost_ret (Complete_res (DBox.row4 RES rfl _ _ _ _)) rfl ⟨(⟨B1, m1, e1⟩, ⟨B2, m2, e2⟩), F, by rw [H.out], by rw [H.out]; exact (yardD.set4 (F := F) (x := y) (s := (⟨B1, m1, e1⟩, ⟨B2, m2, e2⟩)) oy en1), fun x hx => by have := nF x hx; omega, ?_⟩
  repeat (first | (with_reducible exact B0) | refine Below.setCell ?_ (by simp <;> omega) _)
 have q2 : (askC y id tk tr != 0) = false := by simp [q]
 have H := Lib.hid (show compY y id tk tr = turnY y (runAt y id).toNat (doneR (runK y id) tk.toNat) from if_pos q)
 have HP : Hid (yardP y ∧ 0 ≤ runAt y id ∧ holdsP y id tk tr) := by
  unfold askC at q
  by_cases p0 : yardP y
  ·by_cases p1 : runAt y id < 0
   ·rw [if_neg (fun h => h p0), if_pos p1] at q; cases q
   ·by_cases p2 : holdsP y id tk tr
    ·exact ⟨p0, by omega, p2⟩
    ·rw [if_neg (fun h => h p0), if_neg p1, if_pos p2] at q; cases q
  ·rw [if_pos p0] at q; cases q
 have Hq := Lib.hid q
 clear q
 rcases runAt_range y id with hr | ⟨k, hk, hr⟩
 ·exact absurd HP.out.2.1 (by omega)
 have HK := Lib.hid (runK_get hk hr)
 have HR2 := Lib.hid hr
 clear hr
 have hrunP := Lib.hid (yard_runs HP.out.1 hk)
 have hth := Lib.hid HP.out.2.2
 have htk : Hid ((0 ≤ tk ∧ tk < (y.runs[k].tasks.length : Int)) ∧ (taskAt y.runs[k] tk.toNat).state = 3) := by
  have := hth.out
  unfold holdsP at this
  rw [HK.out] at this
  exact ⟨this.2.1, this.2.2.1⟩
 obtain ⟨u, rfl⟩ := Int.eq_ofNat_of_zero_le htk.out.1.1
 have hu : u < y.runs[k].tasks.length := by have := htk.out.1.2; omega
 have hruns : Hid (runsP y.runs[k] u) := ⟨hrunP.out, ⟨by omega, by omega⟩, htk.out.2⟩
 go_wp2_with fail
 refine (CA.out _ B0).mono ?_
 rintro e2' w4 ⟨rfl, b4⟩
 rw [HR2.out]
 replace B0 := bnext B0 b4
 clear X_0 X_1 X_2 X_3 X_l
 clear OB_0 OB_1 OB_2 OB_3 OB_l
 clear X
 replace RES := RES.below b4
 replace OB := OB.below b4
 replace oy : yardD.ow w4 F y (⟨B1, m1, e1⟩, ⟨B2, m2, e2⟩) := yardD.ow_below (F := F) (x := y) (s := (⟨B1, m1, e1⟩, ⟨B2, m2, e2⟩)) oy b4
 have hs4 := b4.size
 clear b4 CA
 have oy2 := oy
 obtain ⟨F1, F2, rfl, hnd, os, orr⟩ := oy2
 replace orr : OwL runD w4 F2 (.slice B2 m2 e2) y.runs := orr
 obtain rfl : m2 = y.runs.length := RdL.at1 (s := ⟨B2, m2, e2⟩) orr.rd
 obtain ⟨gr, o2, sk, rfl, hgrw, hrk, c0, c1_, c2_, c3, c4, c5, c6, c7⟩ := orr.rd.run hk
 have hkI : (k : Int) < (y.runs.length : Int) := by omega
 have hk0 : (0 : Int) ≤ (k : Int) := by omega
 go_wp2
 refine Go.wp_region_noPanic ?_
 refine wp_region_held_drew (S := (fun w' => DBox w1.heap.size [.int .i64 y.now, .int .i64 y.seq, .slice B1 m1 e1, .slice (some ⟨gr, o2, none⟩) y.runs.length e2] w')) (by kernel_rfl) (DBox.drew4 OB) (fun hHeld => ?_)
 refine tY 0 ?_
 (try simp only [pS])
 refine tY 1 ?_
 (try simp only [pS])
 refine tY 2 ?_
 (try simp only [pS])
 refine tY 3 ?_
 (try simp only [pS])
 refine tY 4 ?_
 (try simp only [pS])
 refine tY 5 ?_
 (try simp only [pS])
 refine tY 7 ?_
 (try simp only [pS])
 have bd : Below w4.heap.size w4 w4.drew := (Below.refl _ _).drew
 replace B0 := bnext B0 bd
 replace RES := RES.below bd
 replace OB := OB.below bd
 replace oy : yardD.ow w4.drew (F1 ++ F2) y (⟨B1, m1, e1⟩, ⟨some ⟨gr, o2, none⟩, y.runs.length, e2⟩) := yardD.ow_below (F := F1 ++ F2) (x := y) (s := (⟨B1, m1, e1⟩, ⟨some ⟨gr, o2, none⟩, y.runs.length, e2⟩)) oy bd
 refine rC 6 (fun K_ hK => ?_)
 go_simp
 refine hK.out _ _ OB (fun hHeld => ?_)
 clear hK K_
 (try simp only [pS])
 have hcr := cnt_run_tasks hl hk
 have hrk2 : runD.rd w4.drew w4.drew.heap.size y.runs[k] sk := runD.rd_below hrk bd
 have hcrun : cntRun y.runs[k] ≤ 2000000 := by
  have h1 := cntL_mem (cnt := cntRun) (List.getElem_mem hk)
  unfold cntYard at hl
  omega
 have CF := Lib.hid (specDone_own y.runs[k] sk u w4.drew hcrun hruns.out hrk2)
 clear c0 c1_ c2_ c3 c4 c5 c6 c7
 refine rC 8 (fun K_ hK => ?_)
 go_simp
 refine CF.out.mono ?_
 rintro e3 w5 ⟨sr, Fr, rfl, orn, nFr, b5⟩
 refine hK.out _ _ (OB.below b5) (fun hHeld => ?_)
 clear hK K_
 (try simp only [pS])
 have hwd : w4.drew.heap.size = w4.heap.size := rfl
 have hs5 := b5.size
 have hT2 := runP_len hrunP.out
 have CT := Lib.hid (specTurn_own y (⟨B1, m1, e1⟩, ⟨some ⟨gr, o2, none⟩, y.runs.length, e2⟩) k (doneR y.runs[k] u) sr w5 (F1 ++ F2) Fr HP.out.1.2.2.1 (fun s hs => by have := (HP.out.1.2.2.2.1 s hs).1; omega) (by have := HP.out.1.2.1; omega) hk (by rw [doneR_len]; omega) (by omega) (yardD.ow_below (F := F1 ++ F2) (x := y) (s := (⟨B1, m1, e1⟩, ⟨some ⟨gr, o2, none⟩, y.runs.length, e2⟩)) oy b5) orn (fun x hx hxF => by have h1 := nFr x hx; have h2 := hFlt x hxF; omega))
 have HF := Lib.hid (show compY y id u tr = turnY y k (doneR y.runs[k] u) by rw [H.out, HR2.out, HK.out, Int.toNat_natCast, Int.toNat_natCast])
 clear H
 refine rC 9 (fun K_ hK => ?_)
 go_simp
 refine CT.out.mono ?_
 rintro e4 w6 ⟨s5, F5, rfl, oy7, n5, c6⟩
 have hne : w1.heap.size ∉ F1 ++ F2 := fun h => by have := hFlt _ h; omega
 have hne2 : w.heap.size + 1 ∉ F1 ++ F2 := fun h => by have := nF _ h; omega
 have OB6 := (OB.below b5).chg c6 hne
 have RES6 := (RES.below b5).chg c6 hne2
 have B6 : Below w.heap.size w w6 := (bnext B0 b5).trans (c6.below (by have := (bnext B0 b5).size; omega) (fun x hx => by have := nF _ hx; omega))
 generalize turnY y k (doneR y.runs[k] u) = Z at *
 refine hK.out _ _ OB6 (fun hHeld => ?_)
 clear hK K_
 (try simp only [pS])
 have r0 := RES6.cell 0 _ rfl
 have r1 := RES6.cell 1 _ rfl
 have r2 := RES6.cell 2 _ rfl
 have r3 := RES6.cell 3 _ rfl
 have rl := RES6.lt
 have rf := RES6.free
 refine rC 10 (fun K_ hK => ?_)
 go_simp
 have hob : w1.heap.size ≠ w.heap.size + 1 := by omega
 refine hK.out _ _ ((((OB6.setOther (a := ⟨w.heap.size + 1, _, none⟩) hob _).setOther (a := ⟨w.heap.size + 1, _, none⟩) hob _).setOther (a := ⟨w.heap.size + 1, _, none⟩) hob _).setOther (a := ⟨w.heap.size + 1, _, none⟩) hob _) (fun hHeld => ?_)
 clear hK K_
 (try simp only [pS])
 refine rC 11 (fun K_ hK => ?_)
 go_simp
 refine hK.out _ _ hHeld (fun hHeld => ?_)
 clear hK K_
 (try simp only [pS])
 refine wpAnyH_done (by kernel_rfl) ?_ _
 refine NoPanic.normal ?_
 clear hHeld r0 r1 r2 r3 rf
 have en5 : w.heap.size + 1 ∉ F5 := fun hx => by
  rcases n5 _ hx with h | h | h
  ·exact hne2 h
  ·have := nFr _ h; omega
  ·omega
 have hZ : compY y id u tr = Z := HF.out
 have H2 := Lib.hid hZ
 clear hZ
 have Hq2 := Lib.hid (show askC y id u tr = 0 from Hq.out)
 go_wp2
 refine bodyPost_ret (Complete_res (DBox.row4 RES6 rfl _ _ _ _)) rfl ⟨s5, F5, by rw [H2.out, Hq2.out], by rw [H2.out]; exact (yardD.set4 (F := F5) (x := Z) (s := s5) oy7 en5), fun x hx => ?_, ?_⟩
 ·rcases n5 x hx with h | h | h
  ·have := nF x h; omega
  ·have := nFr x h; omega
  ·omega
 ·repeat (first | (with_reducible exact B6) | refine Below.setCell ?_ (by simp <;> omega) _)
end Go.Proofs.Ytonlnjdempbfoaa
end
section
namespace Go.Proofs.Ytonlnjdempbfoaa
open Go.RowKit
set_option maxRecDepth 100000
set_option maxHeartbeats 2000000
set_option linter.unusedVariables false
set_option linter.unusedSimpArgs false
theorem int_infoK : (Try.prog.info? 3).map (fun i => (i.zero, i.size, i.bytes)) = some (some (.int .i64 0), 1, 8) := by kernel_rfl
/-- a number is brought between two -/
def brought (n lo hi : Int) : Int := if n < lo then lo else if n > hi then hi else n
theorem specBrought_any (n lo hi : Int) (w : World) (h : lo ≤ hi) : Calls Try.prog 43 #[.int .i64 n, .int .i64 lo, .int .i64 hi] w fun e w' => e = .returned (.int .i64 (brought n lo hi)) ∧ w = w' := by
 by_cases h1 : n < lo
 ·have H := Lib.hid (show brought n lo hi = lo from if_pos h1)
  go_enter Try.func43, Try.ntmps43
  go_wp2
  go_ret
  exact ⟨ret_int H.out.symm, rfl⟩
 ·by_cases h2 : n > hi
  ·have H := Lib.hid (show brought n lo hi = hi by unfold brought; rw [if_neg h1, if_pos h2])
   have h2' : hi < n := h2
   go_enter Try.func43, Try.ntmps43
   go_wp2
   go_ret
   exact ⟨ret_int H.out.symm, rfl⟩
  ·have H := Lib.hid (show brought n lo hi = n by unfold brought; rw [if_neg h1, if_neg h2])
   have h2' : ¬ hi < n := h2
   go_enter Try.func43, Try.ntmps43
   go_wp2
   go_ret
   exact ⟨ret_int H.out.symm, rfl⟩
/-- the other shelves, in turn -/
def othersL (home : Nat) : List Nat := (List.range 3).map fun i => (home + (i + 1)) % 4
theorem othersL_take {home k : Nat} (h : k < 3) : (othersL home).take (k + 1) = (othersL home).take k ++ [(home + (k + 1)) % 4] := by
 rcases (show k = 0 ∨ k = 1 ∨ k = 2 by omega) with rfl | rfl | rfl <;> rfl
theorem victims_eq {home d : Nat} : victims home d = (othersL home).drop (d % 3) ++ (othersL home).take (d % 3) := by
 have h1 : (max (d : Int) 0 % 3).toNat = d % 3 := by omega
 unfold victims
 rw [h1, Int.toNat_natCast]
 have h2 := Nat.mod_lt d (show 0 < 3 by decide)
 generalize d % 3 = k at *
 rcases (show k = 0 ∨ k = 1 ∨ k = 2 by omega) with rfl | rfl | rfl <;> rfl
theorem specVictims_own (home d : Nat) (w : World) (hh : home < 4) (hd : d ≤ 1000000000) :
  Calls Try.prog 68 #[.int .i64 (home : Int), .int .i64 (d : Int)] w fun e w' => ∃ v, e = .returned v ∧ Ow natE 3 w' w.heap.size v (victims home d) ∧ Below w.heap.size w w' := by
 obtain ⟨j0, hj0, jz0, jz1, jz2⟩ := info_parts int_infoK
 have CB := Lib.hid (fun W => specBrought_any (home : Int) 0 3 W (by decide))
 have hI : ¬ (d : Int) < 0 := by omega
 have hbr : brought (home : Int) 0 3 = (home : Int) := by unfold brought; split <;> (try split) <;> omega
 rw [hbr] at CB
 have q0 : Below w.heap.size w (w.alloc (.cells #[] 3)) := (Below.refl _ _).alloc (Nat.le_refl _) _
 go_enter Try.func68, Try.ntmps68
 go_wp2_with (go_at_call 43; refine (CB.out _).mono ?_; rintro e w1 ⟨rfl, rfl⟩)
 have o0 := Ow.empty natE 3 w rfl
 go_loopw [5, 6] (fun v j wr => ∃ k : Nat, k ≤ 3 ∧ j = .int .i64 ((k : Int) + 1) ∧ Hid (Ow natE 3 wr w.heap.size v ((othersL home).take k)) ∧ Below w.heap.size w wr) (fun _ j _ => 4 - (intOf j).toNat)
 case atStart => exact ⟨0, Nat.zero_le _, rfl, o0, q0⟩
 case round =>
  clear o0 q0
  obtain ⟨k, hk, rfl, hO, hb⟩ := hrel
  by_cases hlt : k < 3
  ·have hltI : (k : Int) + 1 < 4 := by omega
   have S := Lib.hid (othersL_take (home := home) hlt)
   have wA : IntKind.i64.wrap ((home : Int) + ((k : Int) + 1)) = (home : Int) + ((k : Int) + 1) := IntWalk.i64_in _ (by omega)
   have rA : ((home : Int) + ((k : Int) + 1)).tmod 4 = (((home + (k + 1)) % 4 : Nat) : Int) := by
    rw [Int.tmod_eq_emod_of_nonneg (by omega)]; omega
   have wB : IntKind.i64.wrap (((home + (k + 1)) % 4 : Nat) : Int) = (((home + (k + 1)) % 4 : Nat) : Int) := IntWalk.i64_in _ (by omega)
   have Hl := Lib.hid (show ((othersL home).take k).length ≤ 3000000 by rw [List.length_take]; omega)
   generalize (home + (k + 1)) % 4 = x at *
   have ha : Hid (∀ w : World, Below w.heap.size w (w.alloc (.cells #[.int .i64 (x : Int)] 3))) := fun w => (Below.refl _ _).alloc (Nat.le_refl _) _
   have hO1 := hO.out
   have hbs := hb.size
   go_wp2_with (at_builtin; refine wpList_push_all _ natE (by decide) rfl (.tmp 17) (.tmp 22) rfl Try.underlying26 hj0 jz0 jz1 jz2 rfl (base := w.heap.size) (l := (othersL home).take k) rfl (hO1.below (ha.out wr)) rfl (Rd.one natE _ _ x rfl rfl 1 (Nat.le_refl _) (Nat.lt_succ_self _)) Hl.out (by simp) (by decide) (by simp; omega) ?_; intro v5 w5 o5 g5 _)
   have hb5 : Below w.heap.size w w5 := (bnext hb (ha.out wr)).grown g5 (bnext hb (ha.out wr)).size (fun g hg => by have := hO1.within _ hg; omega)
   exact ⟨⟨k + 1, by omega, by go_num, by rw [S.out]; exact o5, hb5⟩, by simp [intOf]; omega⟩
  ·have hltI : ¬ (k : Int) + 1 < 4 := by omega
   have hk3 : k = 3 := by omega
   subst hk3
   have hO1 := hO.out
   rw [show (othersL home).take 3 = othersL home from rfl] at hO1
   clear hO
   have HV := Lib.hid (victims_eq (home := home) (d := d))
   obtain ⟨-, h2⟩ | ⟨g, cap, rfl, h1, h2, h3, h4, h5, h6⟩ := hO1.form
   ·cases h2
   have hr1 := Rd.of_own hO1
   replace h3 := hr1.cap
   have h3' : 3 ≤ cap := h3
   have hm3 := Nat.mod_lt d (show 0 < 3 by decide)
   have rA : (d : Int).tmod 3 = ((d % 3 : Nat) : Int) := by
    rw [Int.tmod_eq_emod_of_nonneg (by omega)]; omega
   have wB : IntKind.i64.wrap ((d % 3 : Nat) : Int) = ((d % 3 : Nat) : Int) := IntWalk.i64_in _ (by omega)
   have hl3 : (othersL home).length = 3 := rfl
   generalize d % 3 = m at *
   generalize othersL home = L at *
   rw [hl3] at hr1
   have a0 := Lib.hid (show ∀ W, Below wr.heap.size wr W → Rd natE W wr.heap.size (.slice (some ⟨g, m, none⟩) (3 - m) (cap - m)) (L.drop m) from fun W hW => by have := (hr1.fromL m (by omega)).below hW; rw [hl3, show 0 + m * natE.sz = m from by show 0 + m * 1 = m; omega] at this; exact this)
   have a1 := Lib.hid (show ∀ W, Below wr.heap.size wr W → Rd natE W wr.heap.size (.slice (some ⟨g, 0, none⟩) m cap) (L.take m) from fun W hW => (hr1.take (by omega) cap (by omega)).below hW)
   have hmI : (m : Int) ≤ 3 := by omega
   have hm0 : (0 : Int) ≤ (m : Int) := by omega
   have hmc : m < cap := by omega
   have hmc2 : ¬ cap = m := by omega
   have hmc3 : m ≤ cap := by omega
   have hmcI : (m : Int) ≤ (cap : Int) := by omega
   have hlt1 := Lib.hid (show (L.drop m).length ≤ 3000000 by simp; omega)
   have hlt2 := Lib.hid (show (L.take m).length ≤ 3000000 by simp; omega)
   rw [hl3]
   have hbs := hb.size
   go_wp2
   refine Go.wp_region_noPanic ?_
   refine wp_region_held_drew (S := fun _ => True) (by kernel_rfl) trivial (fun hHeld => ?_)
   have B1 : Below wr.heap.size wr wr.drew := (Below.refl _ _).drew
   generalize wr.drew = w1 at *
   refine tY 1 ?_
   (try simp only [pS])
   refine tY 2 ?_
   (try simp only [pS])
   refine tY 3 ?_
   (try simp only [pS])
   refine tY 5 ?_
   (try simp only [pS])
   refine tY 6 ?_
   (try simp only [pS])
   refine tY 7 ?_
   (try simp only [pS])
   refine rC 0 (fun K_ hK => ?_)
   go_simp
   have bb : Below w1.heap.size w1 (w1.alloc (.cells #[] 3)) := (Below.refl _ _).alloc (Nat.le_refl _) _
   have o9 : Ow natE 3 (w1.alloc (.cells #[] 3)) w.heap.size (.slice (some ⟨w1.heap.size, 0, none⟩) 0 0) [] := (Ow.empty natE 3 w1 rfl).more (by have := B1.size; omega)
   have Ba := bnext B1 bb
   have y9 := B1.size
   generalize w1.heap.size = g9 at *
   generalize w1.alloc (.cells #[] 3) = w1a at *
   refine hK.out _ _ trivial (fun hHeld => ?_)
   clear hK K_
   (try simp only [pS])
   refine rC 4 (fun K_ hK => ?_)
   refine wp_append_rd _ natE (by decide) (.tmp 28) (.tmp 31) 26 rfl w.heap.size 3 _ _ _ Try.underlying26 hj0 jz0 jz1 jz2 rfl _ [] rfl o9 _ _ _ _ (L.drop m) rfl (a0.out _ Ba) (by simp) hlt1.out (by decide) (by have := Ba.size; omega) ?_
   intro v13 w1b o13 gg e13
   rw [List.nil_append] at o13
   have Bb : Below wr.heap.size wr w1b := Ba.grown gg Ba.size (fun g hg => by have := Option.some.inj (show some g9 = some g from hg); omega)
   clear gg
   refine hK.out _ _ trivial (fun hHeld => ?_)
   clear hK K_
   (try simp only [pS])
   refine rC 8 (fun K_ hK => ?_)
   refine wp_append_rd _ natE (by decide) (.tmp 32) (.tmp 35) 26 rfl w.heap.size 3 _ _ _ Try.underlying26 hj0 jz0 jz1 jz2 rfl _ (L.drop m) rfl o13 _ _ _ _ (L.take m) rfl (a1.out _ Bb) hlt1.out hlt2.out (by decide) (by have := Bb.size; omega) ?_
   intro v14 w1c o14 gg e14
   have Bc : Below w.heap.size w w1c := (bnext hb Bb).grown gg (bnext hb Bb).size (fun g hg => (o13.within g hg).1)
   clear gg
   refine hK.out _ _ trivial (fun hHeld => ?_)
   clear hK K_
   (try simp only [pS])
   refine rC 9 (fun K_ hK => ?_)
   go_simp
   refine hK.out _ _ trivial (fun hHeld => ?_)
   clear hK K_
   (try simp only [pS])
   refine wpAnyH_done (by kernel_rfl) ?_ _
   refine NoPanic.normal ?_
   go_wp2
   go_ret
   exact ⟨_, rfl, by rw [HV.out]; exact o14, Bc⟩
end Go.Proofs.Ytonlnjdempbfoaa
end
section
namespace Go.Proofs.Ytonlnjdempbfoaa
open Go.RowKit
set_option maxRecDepth 100000
set_option maxHeartbeats 2000000
set_option linter.unusedVariables false
set_option linter.unusedSimpArgs false
theorem specTasksIn_any (r : Run) (s : Sl × Sl) (st : Int) (w : World) (hl : r.tasks.length ≤ 2000000) (h : runD.rd w w.heap.size r s) :
  Calls Try.prog 57 #[runW r s, .int .i64 st] w fun e w' => ∃ v, e = .returned v ∧ Ow natE 3 w' w.heap.size v (tasksIn r.tasks st) ∧ Below w.heap.size w w' := by
 obtain ⟨⟨A1, n1, c1⟩, ⟨A2, n2, c2⟩⟩ := s
 obtain rfl : n2 = r.tasks.length := RdL.at1 (s := ⟨A2, n2, c2⟩) h.2
 have h2 : RdL taskD w w.heap.size (.slice A2 r.tasks.length c2) r.tasks := h.2
 have X := DBox.new 98 [.int .i64 r.id, .int .i64 r.plan.prio, .int .i64 r.plan.most, .int .i64 r.plan.wait, .int .i64 r.plan.tasks, .slice A1 n1 c1, .int .i64 r.state, .slice A2 r.tasks.length c2] w (b := w.heap.size) rfl
 have B0 : Below w.heap.size w (w.alloc (.cells #[.int .i64 r.id, .int .i64 r.plan.prio, .int .i64 r.plan.most, .int .i64 r.plan.wait, .int .i64 r.plan.tasks, .slice A1 n1 c1, .int .i64 r.state, .slice A2 r.tasks.length c2] 98)) := by repeat (first | exact Below.refl _ _ | refine Below.alloc ?_ (by simp <;> omega) _)
 obtain ⟨j0, hj0, jz0, jz1, jz2⟩ := info_parts int_infoK
 go_enter Try.func57, Try.ntmps57
 go_upto_region 1 with fail
 generalize (w.alloc (.cells #[.int .i64 r.id, .int .i64 r.plan.prio, .int .i64 r.plan.most, .int .i64 r.plan.wait, .int .i64 r.plan.tasks, .slice A1 n1 c1, .int .i64 r.state, .slice A2 r.tasks.length c2] 98)) = W at *
 have hWs : w.heap.size + 1 = W.heap.size ∨ w.heap.size + 1 ≤ W.heap.size := .inr X.lt
 have o0 := Ow.empty natE 3 W rfl
 have b0 : Below W.heap.size W (W.alloc (.cells #[] 3)) := (Below.refl _ _).alloc (Nat.le_refl _) _
 have hXl := X.lt
 replace X := X.below b0
 replace B0 := bnext B0 b0
 go_wp2
 go_loopw [5, 6] (fun vl i wr => ∃ k : Nat, k ≤ r.tasks.length ∧ i = .int .i64 k ∧ Hid (Ow natE 3 wr W.heap.size vl (tasksUpto r.tasks st k)) ∧ DBox w.heap.size [.int .i64 r.id, .int .i64 r.plan.prio, .int .i64 r.plan.most, .int .i64 r.plan.wait, .int .i64 r.plan.tasks, .slice A1 n1 c1, .int .i64 r.state, .slice A2 r.tasks.length c2] wr ∧ Below w.heap.size w wr ∧ W.heap.size ≤ wr.heap.size) (fun _ i _ => r.tasks.length - (intOf i).toNat)
 case atStart => exact ⟨0, Nat.zero_le _, rfl, (by show Ow natE 3 _ _ _ (tasksUpto r.tasks st 0); simpa [tasksUpto] using o0), X, B0, b0.size⟩
 case round =>
  clear X B0 o0 b0
  obtain ⟨k, hk, rfl, ho, X, hb, hsz⟩ := hrel
  obtain ⟨X_0, X_1, X_2, X_3, X_4, X_5, X_6, X_7, X_l⟩ := X.g8
  by_cases hlt : k < r.tasks.length
  ·have hltI : (k : Int) < (r.tasks.length : Int) := by omega
   have hk0 : (0 : Int) ≤ (k : Int) := by omega
   obtain ⟨b, o, _, rfl, hbb, _, d0, d1, d2, d3⟩ := (h2.below hb).task hlt
   have hS := tasksUpto_succ r.tasks st k hlt
   have Hl := Lib.hid (show (tasksUpto r.tasks st k).length ≤ 3000000 by have := tasksUpto_le r.tasks st k; omega)
   by_cases hx : r.tasks[k].state = st
   ·rw [if_pos hx] at hS
    have S := Lib.hid hS
    have t1 : (r.tasks[k].state == st) = true := beq_iff_eq.2 hx
    have ho1 := ho.out
    clear hS hx
    have ha : Hid (∀ w : World, Below w.heap.size w (w.alloc (.cells #[.int .i64 (k : Int)] 3))) := fun w => (Below.refl _ _).alloc (Nat.le_refl _) _
    go_wp2_with (at_builtin; refine wpList_push_all _ natE (by decide) rfl (.tmp 23) (.tmp 25) rfl Try.underlying26 hj0 jz0 jz1 jz2 rfl (base := W.heap.size) (l := tasksUpto r.tasks st k) rfl (ho1.below (ha.out wr)) rfl (Rd.one natE _ _ k rfl rfl 1 (Nat.le_refl _) (Nat.lt_succ_self _)) Hl.out (by simp) (by decide) (by simp; omega) ?_; intro v5 w5 o5 g5 _)
    have hb' := bnext hb (ha.out wr)
    have W5 := hb'.grown g5 hb'.size (fun g hg => by have := ho1.within _ hg; omega)
    have X5 := (X.below (ha.out wr)).off g5 (fun e => by have := (ho1.within _ e.symm).1; omega)
    have hz5 := g5.size
    simp only [World.size_alloc] at hz5
    refine ⟨⟨k + 1, by omega, by go_num, ?_, X5, W5, by omega⟩, by simp [intOf]; omega⟩
    rw [S.out]
    exact o5
   ·rw [if_neg hx, List.append_nil] at hS
    have S := Lib.hid hS
    have t1 : (r.tasks[k].state == st) = false := beq_eq_false_iff_ne.2 hx
    clear hS hx
    go_wp2
    refine ⟨⟨k + 1, by omega, by go_num, ?_, X, hb, hsz⟩, by simp [intOf]; omega⟩
    rw [S.out]
    exact ho
  ·have hltI : ¬ (k : Int) < (r.tasks.length : Int) := by omega
   have hk' : k = r.tasks.length := by omega
   subst hk'
   go_wp2
   go_ret
   exact ⟨_, rfl, ho.out.more (by omega), hb⟩
end Go.Proofs.Ytonlnjdempbfoaa
end
section
namespace Go.Proofs.Ytonlnjdempbfoaa
open Go.RowKit
set_option maxRecDepth 100000
set_option maxHeartbeats 4000000
set_option linter.unusedVariables false
set_option linter.unusedSimpArgs false
theorem startR_len (r : Run) (t : Nat) (now : Int) : (startR r t now).tasks.length = r.tasks.length := by
 simp [startR, modT_len]
theorem startR_try (r : Run) (t : Nat) (now : Int) (h : t < r.tasks.length) : ((startR r t now).tasks[t]'(by rw [startR_len]; exact h)).try_ = r.tasks[t].try_ + 1 := by
 unfold startR
 simp only [modT_at h, List.getElem_set_self]
/-- a yard of the call's own, and an answer -/
def RepPost (o : Yard × Reply) (w : World) (e : Ending) (w' : World) : Prop :=
 ∃ (s : Sl × Sl) (F : List Nat), e = .returned (.tuple #[yardW o.1 s, replyW o.2 ()]) ∧ yardD.ow w' F o.1 s ∧ (∀ b ∈ F, w.heap.size ≤ b) ∧ Below w.heap.size w w'
theorem Poll_res {b c : Nat} {w : World} {u0 u1 u2 u3 v0 v1 v2 v3 : Value} (X : DBox b [u0, u1, u2, u3] w) (Y : DBox c [v0, v1, v2, v3] w) {x0 x1 x2 x3 x4 x5 : Value} {rest : List Value} :
  (results Try.f48 (x0 :: x1 :: x2 :: x3 :: x4 :: x5 :: .pointer (some ⟨b, 0, none⟩) :: .pointer (some ⟨c, 0, none⟩) :: rest).toArray).run Try.prog w = .ok (.tuple #[.agg #[u0, u1, u2, u3], .agg #[v0, v1, v2, v3]]) w := by
 have c0 := X.cell 0 _ rfl
 have c1 := X.cell 1 _ rfl
 have c2 := X.cell 2 _ rfl
 have c3 := X.cell 3 _ rfl
 have d0 := Y.cell 0 _ rfl
 have d1 := Y.cell 1 _ rfl
 have d2 := Y.cell 2 _ rfl
 have d3 := Y.cell 3 _ rfl
 simp [results, Try.results48, go_sem, c0, c1, c2, c3, d0, d1, d2, d3]
theorem Chg.cells4 (w : World) (b i j k l : Nat) (u0 u1 u2 u3 : Value) : Chg [b] w ((((w.setCell ⟨b, i, none⟩ u0).setCell ⟨b, j, none⟩ u1).setCell ⟨b, k, none⟩ u2).setCell ⟨b, l, none⟩ u3) :=
 (((Chg.setCell w b i u0).trans (Chg.setCell _ b j u1)).trans (Chg.setCell _ b k u2)).trans (Chg.setCell _ b l u3)
theorem OwL.block_mem {α : Type} {d : Dt α} {w : World} {F : List Nat} {b o n c : Nat} {l : List α} (h : OwL d w F (.slice (some ⟨b, o, none⟩) n c) l) (hp : 0 < l.length) : b ∈ F := by
 obtain ⟨_, _, _, _, _, hb, _⟩ := h.elem hp
 exact hb
/-- what is read of a yard lies in its box -/
abbrev yardCs (y : Yard) (s : Sl × Sl) : List Value := [.int .i64 y.now, .int .i64 y.seq, .slice s.1.a s.1.n s.1.c, .slice s.2.a s.2.n s.2.c]
theorem specPoll_own (y : Yard) (s : Sl × Sl) (worker : Int) (d : Nat) (w : World) (hl : cntYard y ≤ 2000000) (hd : d ≤ 1000000000) (h : yardD.rd w w.heap.size y s) :
  Calls Try.prog 48 #[yardW y s, .int .i64 worker, .int .i64 (d : Int)] w (RepPost (pollR y worker d) w) := by
 have HR := Lib.hid (show ∀ W, Below w.heap.size w W → yardD.rd W W.heap.size y s from fun W hW => yardD.rd_more (yardD.rd_below h hW) hW.size)
 obtain ⟨⟨A1, n1, c1⟩, ⟨A2, n2, c2⟩⟩ := s
 have CC := Lib.hid (fun W hW => specCopyYard_own y (⟨A1, n1, c1⟩, ⟨A2, n2, c2⟩) W hl (HR.out W hW))
 have CY := Lib.hid (fun W hW => specYardOk_any y (⟨A1, n1, c1⟩, ⟨A2, n2, c2⟩) W hl (HR.out W hW))
 clear h
 have X := ((DBox.new 61 [.int .i64 y.now, .int .i64 y.seq, .slice A1 n1 c1, .slice A2 n2 c2] w (b := w.heap.size) rfl).below ((Below.refl _ _).alloc (Nat.le_refl _) (.cells #[.int .i64 0, .int .i64 0, .slice none 0 0, .slice none 0 0] 61))).below ((Below.refl _ _).alloc (Nat.le_refl _) (.cells #[.int .i64 0, .int .i64 0, .int .i64 0, .int .i64 0] 73))
 have RES := (DBox.new 61 [.int .i64 0, .int .i64 0, .slice none 0 0, .slice none 0 0] (w.alloc (.cells #[.int .i64 y.now, .int .i64 y.seq, .slice A1 n1 c1, .slice A2 n2 c2] 61)) (b := w.heap.size + 1) (by simp)).below ((Below.refl _ _).alloc (Nat.le_refl _) (.cells #[.int .i64 0, .int .i64 0, .int .i64 0, .int .i64 0] 73))
 have RP := DBox.new 73 [.int .i64 0, .int .i64 0, .int .i64 0, .int .i64 0] ((w.alloc (.cells #[.int .i64 y.now, .int .i64 y.seq, .slice A1 n1 c1, .slice A2 n2 c2] 61)).alloc (.cells #[.int .i64 0, .int .i64 0, .slice none 0 0, .slice none 0 0] 61)) (b := w.heap.size + 1 + 1) (by simp)
 have B0 : Below w.heap.size w (((w.alloc (.cells #[.int .i64 y.now, .int .i64 y.seq, .slice A1 n1 c1, .slice A2 n2 c2] 61)).alloc (.cells #[.int .i64 0, .int .i64 0, .slice none 0 0, .slice none 0 0] 61)).alloc (.cells #[.int .i64 0, .int .i64 0, .int .i64 0, .int .i64 0] 73)) := by repeat (first | exact Below.refl _ _ | refine Below.alloc ?_ (by simp <;> omega) _)
 go_enter Try.func48, Try.ntmps48
 go_wp2_with fail
 generalize (((w.alloc (.cells #[.int .i64 y.now, .int .i64 y.seq, .slice A1 n1 c1, .slice A2 n2 c2] 61)).alloc (.cells #[.int .i64 0, .int .i64 0, .slice none 0 0, .slice none 0 0] 61)).alloc (.cells #[.int .i64 0, .int .i64 0, .int .i64 0, .int .i64 0] 73)) = W at *
 have hPl : w.heap.size + 1 + 1 < W.heap.size := RP.lt
 refine (CY.out _ B0).mono ?_
 rintro e1 w1 ⟨rfl, b1⟩
 replace X := X.below b1
 replace RES := RES.below b1
 replace RP := RP.below b1
 obtain ⟨X_0, X_1, X_2, X_3, X_l⟩ := X.g4
 obtain ⟨RES_0, RES_1, RES_2, RES_3, RES_l⟩ := RES.g4
 obtain ⟨RP_0, RP_1, RP_2, RP_3, RP_l⟩ := RP.g4
 have hb1 := bnext B0 b1
 have hBs := B0.size
 have hXl := b1.size
 clear B0 b1 CY
 by_cases p0 : yardP y
 case neg =>
  have H := Lib.hid (show pollR y worker d = (y, ⟨8, 0, 0, 0⟩) from if_pos p0)
  rw [tf_false p0]
  clear p0
  clear RES_0 RES_1 RES_2 RES_3 RES_l
  clear RP_0 RP_1 RP_2 RP_3 RP_l
  go_wp2_with fail
  refine (CC.out _ hb1).mono ?_
  rintro e1 w2 ⟨⟨⟨B1, m1, e1⟩, ⟨B2, m2, e2⟩⟩, F, rfl, oy, nF, b2⟩
  replace RES := RES.below b2
  replace RP := RP.below b2
  obtain ⟨RES_0, RES_1, RES_2, RES_3, RES_l⟩ := RES.g4
  obtain ⟨RP_0, RP_1, RP_2, RP_3, RP_l⟩ := RP.g4
  have rf := RES.free
  have pf := RP.free
  have hb2 := bnext hb1 b2
  go_wp2
  have en1 : w.heap.size + 1 ∉ F := fun hx => by have := nF _ hx; omega
  have en2 : w.heap.size + 1 + 1 ∉ F := fun hx => by have := nF _ hx; omega
  have hne : w.heap.size + 1 + 1 ≠ w.heap.size + 1 := by omega
  have RES2 := DBox.row4 RES rfl (.int .i64 y.now) (.int .i64 y.seq) (.slice B1 m1 e1) (.slice B2 m2 e2)
  have RP2 := DBox.row4 ((((RP.setOther (a := ⟨w.heap.size + 1, 0, none⟩) hne (.int .i64 y.now)).setOther (a := ⟨w.heap.size + 1, 1, none⟩) hne (.int .i64 y.seq)).setOther (a := ⟨w.heap.size + 1, 2, none⟩) hne (.slice B1 m1 e1)).setOther (a := ⟨w.heap.size + 1, 3, none⟩) hne (.slice B2 m2 e2)) rfl (.int .i64 8) (.int .i64 0) (.int .i64 0) (.int .i64 0)
  have RES3 := (((RES2.setOther (a := ⟨w.heap.size + 1 + 1, 0, none⟩) hne.symm (.int .i64 8)).setOther (a := ⟨w.heap.size + 1 + 1, 1, none⟩) hne.symm (.int .i64 0)).setOther (a := ⟨w.heap.size + 1 + 1, 2, none⟩) hne.symm (.int .i64 0)).setOther (a := ⟨w.heap.size + 1 + 1, 3, none⟩) hne.symm (.int .i64 0)
  refine bodyPost_ret (Poll_res RES3 RP2) rfl ⟨(⟨B1, m1, e1⟩, ⟨B2, m2, e2⟩), F, by rw [H.out], by rw [H.out]; exact (by (repeat (refine Dt.ow_set yardD ?_ (by first | exact en1 | exact en2) _)); exact (show yardD.ow _ F y (⟨B1, m1, e1⟩, ⟨B2, m2, e2⟩) from oy)), fun x hx => by have := nF x hx; omega, ?_⟩
  repeat (first | (with_reducible exact hb2) | refine Below.setCell ?_ (by simp <;> omega) _)
 rw [tf_true p0]
 cases p1 : inB worker 0 99
 case false =>
  have H := Lib.hid (show pollR y worker d = (y, ⟨5, 0, 0, 0⟩) by unfold pollR; rw [if_neg (fun h => h p0), if_pos p1])
  clear p0
  clear RES_0 RES_1 RES_2 RES_3 RES_l
  clear RP_0 RP_1 RP_2 RP_3 RP_l
  go_wp2_with (go_at_call 30; refine (l01In_any _ _ _ _).mono ?_; rintro e w9 ⟨rfl, rfl⟩; rw [p1])
  refine (CC.out _ hb1).mono ?_
  rintro e1 w2 ⟨⟨⟨B1, m1, e1⟩, ⟨B2, m2, e2⟩⟩, F, rfl, oy, nF, b2⟩
  replace RES := RES.below b2
  replace RP := RP.below b2
  obtain ⟨RES_0, RES_1, RES_2, RES_3, RES_l⟩ := RES.g4
  obtain ⟨RP_0, RP_1, RP_2, RP_3, RP_l⟩ := RP.g4
  have rf := RES.free
  have pf := RP.free
  have hb2 := bnext hb1 b2
  go_wp2
  have en1 : w.heap.size + 1 ∉ F := fun hx => by have := nF _ hx; omega
  have en2 : w.heap.size + 1 + 1 ∉ F := fun hx => by have := nF _ hx; omega
  have hne : w.heap.size + 1 + 1 ≠ w.heap.size + 1 := by omega
  have RES2 := DBox.row4 RES rfl (.int .i64 y.now) (.int .i64 y.seq) (.slice B1 m1 e1) (.slice B2 m2 e2)
  have RP2 := DBox.row4 ((((RP.setOther (a := ⟨w.heap.size + 1, 0, none⟩) hne (.int .i64 y.now)).setOther (a := ⟨w.heap.size + 1, 1, none⟩) hne (.int .i64 y.seq)).setOther (a := ⟨w.heap.size + 1, 2, none⟩) hne (.slice B1 m1 e1)).setOther (a := ⟨w.heap.size + 1, 3, none⟩) hne (.slice B2 m2 e2)) rfl (.int .i64 5) (.int .i64 0) (.int .i64 0) (.int .i64 0)
  have RES3 := (((RES2.setOther (a := ⟨w.heap.size + 1 + 1, 0, none⟩) hne.symm (.int .i64 5)).setOther (a := ⟨w.heap.size + 1 + 1, 1, none⟩) hne.symm (.int .i64 0)).setOther (a := ⟨w.heap.size + 1 + 1, 2, none⟩) hne.symm (.int .i64 0)).setOther (a := ⟨w.heap.size + 1 + 1, 3, none⟩) hne.symm (.int .i64 0)
  refine bodyPost_ret (Poll_res RES3 RP2) rfl ⟨(⟨B1, m1, e1⟩, ⟨B2, m2, e2⟩), F, by rw [H.out], by rw [H.out]; exact (by (repeat (refine Dt.ow_set yardD ?_ (by first | exact en1 | exact en2) _)); exact (show yardD.ow _ F y (⟨B1, m1, e1⟩, ⟨B2, m2, e2⟩) from oy)), fun x hx => by have := nF x hx; omega, ?_⟩
  repeat (first | (with_reducible exact hb2) | refine Below.setCell ?_ (by simp <;> omega) _)
 have pp := inB_iff.1 p1
 have HP := Lib.hid p0
 obtain ⟨wk, rfl⟩ := Int.eq_ofNat_of_zero_le pp.1
 have hm : ((wk : Int).tmod 4) = ((wk % 4 : Nat) : Int) := by rw [Int.tmod_eq_emod_of_nonneg (by omega)]; omega
 have hmw : IntKind.i64.wrap ((wk % 4 : Nat) : Int) = ((wk % 4 : Nat) : Int) := IntWalk.i64_in _ (by omega)
 have hmI : (wk : Int) % 4 = ((wk % 4 : Nat) : Int) := by omega
 have hh := Nat.mod_lt wk (show 0 < 4 by decide)
 have H := Lib.hid (show pollR y wk d = pollO (gotY y ((wk % 4 : Nat) : Int) d) (wk % 4) by unfold pollR; rw [if_neg (fun h => h p0), if_neg (by rw [p1]; simp), hmI, Int.toNat_natCast])
 have hPol := Pol.start p0 hh
 have h4 := p0.2.2.1
 clear p0 pp hmI
 generalize wk % 4 = home at *
 have CS := Lib.hid (fun W hW => specSwept_own y (⟨A1, n1, c1⟩, ⟨A2, n2, c2⟩) home W (by omega) hl (HR.out W hW))
 have CV := Lib.hid (fun W => specVictims_own home d W hh hd)
 have HG : Hid (gotY y (home : Int) d = (victims home d).foldl (takeY_ home) (sweptY y home)) := by
  show gotY y (home : Int) d = _
  unfold gotY
  rw [Int.toNat_natCast]
 clear RES_0 RES_1 RES_2 RES_3 RES_l
 clear RP_0 RP_1 RP_2 RP_3 RP_l
 go_wp2_with (go_at_call 30; refine (l01In_any _ _ _ _).mono ?_; rintro e w9 ⟨rfl, rfl⟩; rw [p1])
 refine (CS.out _ hb1).mono ?_
 rintro e1 w2 ⟨s2, F, rfl, oy, nF, b2⟩
 clear X_0 X_1 X_2 X_3 X_l
 clear X CC HR CS
 replace RES := RES.below b2
 replace RP := RP.below b2
 have hb2 := bnext hb1 b2
 have hb2s := b2.size
 clear hb1 b2 hm hmw
 have hFl := yardD.ow_lt oy
 have hseq : Hid (sweptY y home = sweptY y home) := rfl
 go_upto_region 7 with fail
 have OB := DBox.new 61 (yardCs (sweptY y home) s2) w2 (b := w2.heap.size) rfl
 have b3 : Below w2.heap.size w2 (w2.alloc (.cells (yardCs (sweptY y home) s2).toArray 61)) := (Below.refl _ _).alloc (Nat.le_refl _) _
 replace RES := RES.below b3
 replace RP := RP.below b3
 replace oy := yardD.ow_below oy b3
 have hb3 := bnext hb2 b3
 have hb3s := b3.size
 have hOl := OB.lt
 have hPl2 : w.heap.size + 1 + 1 < w2.heap.size := by omega
 generalize w2.alloc (.cells (yardCs (sweptY y home) s2).toArray 61) = w3 at *
 go_wp2_with fail
 refine (CV.out _).mono ?_
 rintro e1 w4 ⟨v, rfl, ov, b4⟩
 replace RES := RES.below b4
 replace RP := RP.below b4
 replace OB := OB.below b4
 replace oy := yardD.ow_below oy b4
 have hb4 := bnext hb3 b4
 obtain ⟨hwv, hvB⟩ := Hw.of_ow ov
 obtain ⟨A9, c9, rfl, -⟩ := id (Rd.of_own ov)
 have hvl := victims_len home d
 have hvlt := Lib.hid (victims_lt (home := (home : Int)) (draw := d))
 have hvne := Lib.hid (show ∀ v ∈ victims home d, v ≠ home from fun v hv => by have := victims_ne (home := (home : Int)) (draw := d) (by omega) (by omega) v hv; omega)
 have hob : w2.heap.size < w3.heap.size := hOl
 have hne : ∀ x ∈ blocks (.slice A9 (victims home d).length c9) (victims home d).length, x ∉ F ∧ w2.heap.size < x := fun x hx => ⟨fun hF => by have h1 := hvB x hx; have h2 := hFl x hF; omega, by have := hvB x hx; omega⟩
 have hFF : (∀ x ∈ F, w.heap.size + 1 + 1 < x) ∧ w2.heap.size ∉ F := ⟨fun x hx => by have := nF x hx; omega, fun hx => by have := hFl _ hx; omega⟩
 generalize blocks (.slice A9 (victims home d).length c9) (victims home d).length = Fv at *
 generalize victims home d = L at *
 rw [hvl] at hwv
 rw [hvl]
 generalize sweptY y home = Z0 at *
 have hw2 : w.heap.size + 1 + 1 < w2.heap.size := hPl2
 generalize w2.heap.size = ob at *
 clear hFl nF hvB
 go_wp2
 go_loopw [11, 12, 13] (fun i u1 u2 wr => ∃ (k : Nat) (s : Sl × Sl) (F : List Nat), k ≤ 3 ∧ i = .int .i64 k ∧ Hid (Pol y home ((L.take k).foldl (takeY_ home) Z0)) ∧ Hid (yardD.ow wr F ((L.take k).foldl (takeY_ home) Z0) s) ∧ Hid ((∀ x ∈ F, w.heap.size + 1 + 1 < x) ∧ ob ∉ F ∧ ∀ x ∈ Fv, x ∉ F) ∧ Hid (Hw natE wr Fv (.slice A9 3 c9) L) ∧ DBox ob (yardCs ((L.take k).foldl (takeY_ home) Z0) s) wr ∧ DBox (w.heap.size + 1) [.int .i64 0, .int .i64 0, .slice none 0 0, .slice none 0 0] wr ∧ DBox (w.heap.size + 1 + 1) [.int .i64 0, .int .i64 0, .int .i64 0, .int .i64 0] wr ∧ Below w.heap.size w wr) (fun i _ _ _ => 3 - (intOf i).toNat)
 case atStart => exact ⟨0, s2, F, Nat.zero_le _, rfl, hPol, oy, ⟨hFF.1, hFF.2, fun x hx => (hne x hx).1⟩, hwv, OB, RES, RP, hb4⟩
 case round =>
  have hFv : ∀ x ∈ Fv, ob < x := fun x hx => (hne x hx).2
  clear hPol oy hFF hwv OB RES RP hb4 hne ov b4
  obtain ⟨k, s, F, hk, rfl, hPol, oy, hF, hwv, OB, RES, RP, hb⟩ := hrel
  have hstep : Hid (∀ h : k < L.length, (L.take (k + 1)).foldl (takeY_ home) Z0 = takeY_ home ((L.take k).foldl (takeY_ home) Z0) L[k]) := fun h => fold_take (takeY_ home) Z0 L k h
  have hend : Hid ((k = 3 ∨ ¬ (((L.take k).foldl (takeY_ home) Z0).shelf.getD home []).length = 0) → L.foldl (takeY_ home) Z0 = (L.take k).foldl (takeY_ home) Z0) := by
   intro h
   rcases h with h | h
   ·rw [List.take_of_length_le (by omega)]
   ·have e : L.foldl (takeY_ home) Z0 = (L.drop k).foldl (takeY_ home) ((L.take k).foldl (takeY_ home) Z0) := by
     rw [← List.foldl_append, List.take_append_drop]
    rw [e]
    exact takeY_fold_no _ _ h
  generalize (L.take k).foldl (takeY_ home) Z0 = Zk at *
  obtain ⟨⟨B1, m1, e1⟩, ⟨B2, m2, e2⟩⟩ := s
  have hn4 := hPol.out.four
  have oyr := yardD.ow_rd oy.out
  have hh4 : home < Zk.shelf.length := by omega
  obtain rfl : m1 = 4 := (RdL.at1 (s := ⟨B1, m1, e1⟩) oyr.1).trans hn4
  obtain ⟨g, o, ⟨xa, xn, xc⟩, rfl, hgw, hrh, ch⟩ := RdL.entryS (show RdL (Dt.list entryD) wr wr.heap.size (.slice B1 4 e1) Zk.shelf from oyr.1) hh4
  obtain rfl : xn = Zk.shelf[home].length := RdL.at1 (s := ⟨xa, xn, xc⟩) hrh
  have hhI : (home : Int) < 4 := by omega
  have hh0 : (0 : Int) ≤ (home : Int) := by omega
  have hzl := hPol.out.all _ (List.getElem_mem hh4)
  obtain ⟨OB_0, OB_1, OB_2, OB_3, OB_l⟩ := OB.g4
  have hgd := Lib.hid (shelf_getD hh4)
  have hwrs := hb.size
  have hRPl := RP.lt
  have hobl := OB.lt
  rcases (show (k < 3 ∧ Zk.shelf[home].length = 0) ∨ (k < 3 ∧ ¬ Zk.shelf[home].length = 0) ∨ ¬ k < 3 by by_cases k < 3 <;> by_cases Zk.shelf[home].length = 0 <;> simp [*]) with ⟨hlt, hq⟩ | ⟨hlt, hq⟩ | hlt
  ·have hltI : (k : Int) < 3 := by omega
   ·have hqz : ((Zk.shelf[home].length : Int) == 0) = true := by simp [hq]
    have hkL : k < L.length := by omega
    have hv4 : L[k] < 4 := hvlt.out _ (List.getElem_mem hkL)
    have hvn : L[k] ≠ home := hvne.out _ (List.getElem_mem hkL)
    obtain ⟨gv, ov, rfl, hgv, cv⟩ := hwv.out.rd.nat hkL
    replace hstep := Lib.hid (hstep.out hkL)
    have hxF := hwv.out.block (by omega)
    generalize L[k] = v at *
    have hP1 : Hid (Pol y home (stolen home Zk v)) := by
     have h1 := hPol.out.step hh hv4 hvn
     rw [takeY_yes (by rw [hgd.out]; exact hq) hvn] at h1
     exact h1
    replace hstep := Lib.hid (hstep.out.trans (takeY_yes (by rw [hgd.out]; exact hq) hvn))
    have hE0 := Lib.hid (show (sweptY Zk v).shelf.getD home [] = [] by rw [swept_off hvn, hgd.out]; exact List.eq_nil_of_length_eq_zero hq)
    have hvw := hwv.out.lt
    have hvI : (v : Int) < 4 := by omega
    have hv0 : (0 : Int) ≤ (v : Int) := by omega
    have hk0 : (0 : Int) ≤ (k : Int) := by omega
    have hzc := hPol.out.cnt HP.out
    have CS := Lib.hid (specSwept_own Zk (⟨some ⟨g, o, none⟩, 4, e1⟩, ⟨B2, m2, e2⟩) v wr.drew (by omega) hzc (yardD.rd_below oyr (Below.refl _ _).drew))
    clear hq
    go_wp2
    refine wp_region_last (fun w' => w'.cell? ⟨ob, 0, none⟩ = some (.int .i64 Zk.now) ∧ w'.cell? ⟨ob, 1, none⟩ = some (.int .i64 Zk.seq) ∧ w'.cell? ⟨ob, 2, none⟩ = some (.slice (some ⟨g, o, none⟩) 4 e1) ∧ w'.cell? ⟨ob, 3, none⟩ = some (.slice B2 m2 e2) ∧ w'.cell? ⟨gv, ov + k, none⟩ = some (.int .i64 (v : Int))) 6 (by kernel_rfl) ?_ (fun hHeld => ?_)
    ·exact ⟨OB_0, OB_1, OB_2, OB_3, cv⟩
    refine aT 0 hHeld ?_
    try simp only [pS]
    refine aT 1 hHeld ?_
    try simp only [pS]
    refine aT 2 hHeld ?_
    try simp only [pS]
    refine aT 3 hHeld ?_
    try simp only [pS]
    refine aT 4 hHeld ?_
    try simp only [pS]
    refine oT 5 (fun K hK => ?_)
    (go_simp; refine CS.out.mono ?_; rintro e w2 ⟨⟨⟨C1, p1, f1⟩, ⟨C2, p2, f2⟩⟩, F2, rfl, oy2, n2, b2⟩; have OB2 := OB.below (bnext (Below.refl _ _).drew b2); have k0 := OB2.cell 0 _ rfl; have k1 := OB2.cell 1 _ rfl; have k2 := OB2.cell 2 _ rfl; have k3 := OB2.cell 3 _ rfl; have kf := OB2.free; have kl := OB2.lt)
    refine hK.out _ _ (fun _ => ?_) ?_
    ·exact ⟨(b2.cell (p := ⟨_, _, none⟩) (by show ob < wr.heap.size; omega)).trans OB_0, (b2.cell (p := ⟨_, _, none⟩) (by show ob < wr.heap.size; omega)).trans OB_1, (b2.cell (p := ⟨_, _, none⟩) (by show ob < wr.heap.size; omega)).trans OB_2, (b2.cell (p := ⟨_, _, none⟩) (by show ob < wr.heap.size; omega)).trans OB_3, (b2.cell (p := ⟨_, _, none⟩) (by show gv < wr.heap.size; omega)).trans cv⟩
    clear hK K
    try simp only [pS]
    refine oT 6 (fun K hK => ?_)
    go_simp
    refine hK.out _ _ (fun hne => absurd rfl hne) ?_
    clear hK K
    try simp only [pS]
    refine wpAnyL_done (by kernel_rfl) ?_ _
    have b2' : Below wr.heap.size wr w2 := bnext (Below.refl _ _).drew b2
    clear k0 k1 k2 k3 kf kl hHeld
    have OB3 := DBox.row4 OB2 rfl (.int .i64 (sweptY Zk v).now) (.int .i64 (sweptY Zk v).seq) (.slice C1 p1 f1) (.slice C2 p2 f2)
    have hC3 := Chg.cells4 w2 ob 0 1 2 3 (.int .i64 (sweptY Zk v).now) (.int .i64 (sweptY Zk v).seq) (.slice C1 p1 f1) (.slice C2 p2 f2)
    have hobm := Lib.hid (show ∀ x, x ∈ [ob] → x = ob from fun x hx => by simpa using hx)
    have RES3 := (RES.below b2').chg hC3 (fun hx => by have := hobm.out _ hx; omega)
    have RP3 := (RP.below b2').chg hC3 (fun hx => by have := hobm.out _ hx; omega)
    have hwv3 := (hwv.out.below b2').chg hC3 (fun x hx hx2 => by have h1 := hobm.out _ hx2; have h2 := hFv x hx; omega)
    have hobF2 : ob ∉ F2 := fun hx => by have h1 := n2 _ hx; have h2 : wr.drew.heap.size = wr.heap.size := rfl; have h3 := OB_l; omega
    have oy3 := yardD.ow_chg oy2 hC3 (fun x hx hx2 => by have := hobm.out _ hx2; subst this; exact hobF2 hx)
    have hb3 : Below w.heap.size w _ := (bnext hb b2').trans (hC3.below (by have := b2'.size; omega) (fun x hx => by have := hobm.out _ hx; omega))
    have hn2 : ∀ x ∈ F2, wr.heap.size ≤ x := n2
    have hs2 := b2'.size
    have hs3 := hC3.size
    replace cv := (hC3.cell (p := ⟨gv, _, none⟩) (by show gv < w2.heap.size; omega) (fun hx => by have h1 : gv = ob := hobm.out _ hx; have h2 := hFv gv (by rw [hxF.1]; simp); omega)).trans ((b2'.cell (p := ⟨gv, _, none⟩) (by show gv < wr.heap.size; omega)).trans cv)
    have hFgt : ∀ x ∈ F2, w.heap.size + 1 + 1 < x := fun x hx => by have h1 := hn2 x hx; have h2 := RP.lt; omega
    clear OB_0 OB_1 OB_2 OB_3 OB_l
    clear OB RES RP hwv oy oy2 n2 b2 b2' hb OB2 oyr hrh ch hF CS
    generalize (((w2.setCell ⟨ob, 0, none⟩ (.int .i64 (sweptY Zk v).now)).setCell ⟨ob, 1, none⟩ (.int .i64 (sweptY Zk v).seq)).setCell ⟨ob, 2, none⟩ (.slice C1 p1 f1)).setCell ⟨ob, 3, none⟩ (.slice C2 p2 f2) = w3 at *
    have OB := OB3
    clear OB3
    obtain ⟨OB_0, OB_1, OB_2, OB_3, OB_l⟩ := OB.g4
    have h41 : (sweptY Zk v).shelf.length = 4 := by rw [swept_len]; exact hn4
    have oyr3 := yardD.ow_rd (F := F2) (x := sweptY Zk v) oy3
    obtain rfl : p1 = 4 := (RdL.at1 (s := ⟨C1, p1, f1⟩) oyr3.1).trans h41
    have hv41 : v < (sweptY Zk v).shelf.length := by omega
    obtain ⟨g2, o2, ⟨va, vn, vc⟩, rfl, hg2, hrv, cv2⟩ := RdL.entryS (show RdL (Dt.list entryD) w3 w3.heap.size (.slice C1 4 f1) (sweptY Zk v).shelf from oyr3.1) hv41
    have hal := swept_all (i := v) hPol.out.all
    have hvl80 := hal _ (List.getElem_mem hv41)
    have CH := Lib.hid (specHalf_own (sweptY Zk v).shelf[v] ⟨va, vn, vc⟩ w3.drew (by omega) (RdL.below hrv (Below.refl _ _).drew))
    have hgvw : gv < w3.heap.size := by omega
    go_wp2
    refine Go.wp_region_noPanic ?_
    refine wp_region_held_drew (S := (fun w' => w'.cell? ⟨ob, 2, none⟩ = some (.slice (some ⟨g2, o2, none⟩) 4 f1) ∧ w'.cell? ⟨gv, ov + k, none⟩ = some (.int .i64 (v : Int)) ∧ w'.cell? ⟨g2, o2 + v, none⟩ = some (.slice va vn vc))) (by kernel_rfl) ⟨OB_2, cv, cv2⟩ (fun hHeld => ?_)
    refine tY 0 ?_
    (try simp only [pS])
    refine tY 1 ?_
    (try simp only [pS])
    refine tY 2 ?_
    (try simp only [pS])
    refine tY 3 ?_
    (try simp only [pS])
    refine tY 4 ?_
    (try simp only [pS])
    refine tY 5 ?_
    (try simp only [pS])
    refine tY 6 ?_
    (try simp only [pS])
    refine tY 7 ?_
    (try simp only [pS])
    refine rC 8 (fun K_ hK => ?_)
    go_simp
    refine CH.out.mono ?_
    rintro e w4 ⟨⟨qa1, qn1, qc1⟩, Fh1, ⟨qa2, qn2, qc2⟩, Fh2, rfl, oh1, oh2, nh1, nh2, dh, b4⟩
    refine hK.out _ _ ⟨(b4.cell (p := ⟨_, _, none⟩) (by show ob < w3.heap.size; omega)).trans OB_2, (b4.cell (p := ⟨_, _, none⟩) (by show gv < w3.heap.size; omega)).trans cv, (b4.cell (p := ⟨_, _, none⟩) (by show g2 < w3.heap.size; omega)).trans cv2⟩ (fun hHeld => ?_)
    clear hK K_
    (try simp only [pS])
    refine tY 9 ?_
    (try simp only [pS])
    refine tY 10 ?_
    (try simp only [pS])
    refine tY 11 ?_
    (try simp only [pS])
    refine tY 12 ?_
    (try simp only [pS])
    refine tY 13 ?_
    (try simp only [pS])
    refine wpAnyH_done (by kernel_rfl) ?_ _
    refine NoPanic.normal ?_
    have b4' : Below w3.heap.size w3 w4 := bnext (Below.refl _ _).drew b4
    have hs4 := b4'.size
    have hnh1 : ∀ x ∈ Fh1, w3.heap.size ≤ x := nh1
    have hnh2 : ∀ x ∈ Fh2, w3.heap.size ≤ x := nh2
    replace oy3 : yardD.ow w3 F2 (sweptY Zk v) (⟨some ⟨g2, o2, none⟩, 4, f1⟩, ⟨C2, p2, f2⟩) := oy3
    have hfl2 := yardD.ow_lt (F := F2) (x := sweptY Zk v) (s := (⟨some ⟨g2, o2, none⟩, 4, f1⟩, ⟨C2, p2, f2⟩)) oy3
    clear OB_0 OB_1 OB_2 OB_3 OB_l
    replace OB := OB.below b4'
    replace RES3 := RES3.below b4'
    replace RP3 := RP3.below b4'
    replace hwv3 := hwv3.below b4'
    replace oy3 : yardD.ow w4 F2 (sweptY Zk v) (⟨some ⟨g2, o2, none⟩, 4, f1⟩, ⟨C2, p2, f2⟩) := yardD.ow_below (F := F2) (x := sweptY Zk v) (s := (⟨some ⟨g2, o2, none⟩, 4, f1⟩, ⟨C2, p2, f2⟩)) oy3 b4'
    replace hb3 := bnext hb3 b4'
    replace cv := (b4'.cell (p := ⟨gv, _, none⟩) (by show gv < w3.heap.size; omega)).trans cv
    replace cv2 := (b4'.cell (p := ⟨g2, _, none⟩) (by show g2 < w3.heap.size; omega)).trans cv2
    clear nh1 nh2 b4 b4' hHeld CH oyr3 hrv
    obtain ⟨OB_0, OB_1, OB_2, OB_3, OB_l⟩ := OB.g4
    have hfg : ∀ j, w4.frozen? ⟨g2, j, none⟩ = false := by
     obtain ⟨G1, G2, _, _, os, _⟩ := oy3
     exact OwL.free0 (show OwL (Dt.list entryD) w4 G1 (.slice (some ⟨g2, o2, none⟩) 4 f1) (sweptY Zk v).shelf from os) (by omega)
    have hg2w : g2 < w4.heap.size := by omega
    have hgvw4 : gv < w4.heap.size := by omega
    go_wp2
    refine wp_region_last (fun w' => w'.cell? ⟨ob, 2, none⟩ = some (.slice (some ⟨g2, o2, none⟩) 4 f1) ∧ w'.cell? ⟨gv, ov + k, none⟩ = some (.int .i64 (v : Int))) 8 (by kernel_rfl) ?_ (fun hHeld => ?_)
    ·exact ⟨OB_2, cv⟩
    refine aT 0 hHeld ?_
    try simp only [pS]
    refine aT 1 hHeld ?_
    try simp only [pS]
    refine aT 2 hHeld ?_
    try simp only [pS]
    refine aT 3 hHeld ?_
    try simp only [pS]
    refine aT 4 hHeld ?_
    try simp only [pS]
    refine aT 5 hHeld ?_
    try simp only [pS]
    refine aT 6 hHeld ?_
    try simp only [pS]
    refine aT 7 hHeld ?_
    try simp only [pS]
    refine oT 8 (fun K hK => ?_)
    go_simp
    refine hK.out _ _ (fun hne => absurd rfl hne) ?_
    clear hK K
    try simp only [pS]
    refine wpAnyL_done (by kernel_rfl) ?_ _
    obtain ⟨F5, oy5, hF5, hg2F⟩ := yard_setShelf oy3 hv41 (l := (sweptY Zk v).shelf[v].drop (halfN (sweptY Zk v).shelf[v])) (t := ⟨qa2, qn2, qc2⟩) oh2 (fun x hx hxF => by have h1 := hnh2 x hx; have h2 := hfl2 x hxF; omega)
    replace oy5 : yardD.ow (w4.setCell ⟨g2, o2 + v, none⟩ (.slice qa2 qn2 qc2)).drew F5 ⟨(sweptY Zk v).now, (sweptY Zk v).seq, (sweptY Zk v).shelf.set v ((sweptY Zk v).shelf[v].drop (halfN (sweptY Zk v).shelf[v])), (sweptY Zk v).runs⟩ (⟨some ⟨g2, o2, none⟩, 4, f1⟩, ⟨C2, p2, f2⟩) := yardD.ow_below (F := F5) (x := ⟨(sweptY Zk v).now, (sweptY Zk v).seq, (sweptY Zk v).shelf.set v ((sweptY Zk v).shelf[v].drop (halfN (sweptY Zk v).shelf[v])), (sweptY Zk v).runs⟩) (s := (⟨some ⟨g2, o2, none⟩, 4, f1⟩, ⟨C2, p2, f2⟩)) oy5 (Below.refl _ _).drew
    have hC5 : Chg [g2] w4 (w4.setCell ⟨g2, o2 + v, none⟩ (.slice qa2 qn2 qc2)).drew := (Chg.setCell w4 g2 _ _).drew
    have hgm := Lib.hid (show ∀ x, x ∈ [g2] → x = g2 from fun x hx => by simpa using hx)
    have hg2gt := hFgt _ hg2F
    have hg2n := hn2 _ hg2F
    have hobg : ob ≠ g2 := fun h => hobF2 (by rw [h]; exact hg2F)
    clear OB_0 OB_1 OB_2 OB_3 OB_l
    replace OB := OB.chg hC5 (fun hx => hobg (hgm.out _ hx))
    replace RES3 := RES3.chg hC5 (fun hx => by have := hgm.out _ hx; omega)
    replace RP3 := RP3.chg hC5 (fun hx => by have := hgm.out _ hx; omega)
    replace hwv3 := hwv3.chg hC5 (fun x hx hx2 => by have h1 := hgm.out _ hx2; have h2 := hvw x hx; omega)
    have oh1' := oh1.chg hC5 (fun x hx hx2 => by have h1 := hgm.out _ hx2; have h2 := hnh1 x hx; omega)
    replace hb3 := hb3.trans (hC5.below (by have := hb3.size; omega) (fun x hx => by have := hgm.out _ hx; omega))
    have hfg5 : ∀ j, (w4.setCell ⟨g2, o2 + v, none⟩ (.slice qa2 qn2 qc2)).drew.frozen? ⟨g2, j, none⟩ = false := fun j => (setCell_frozen w4 _ _ _).trans (hfg j)
    have hs5 := hC5.size
    clear hC5 hHeld oy3 oh1 oh2 hfg cv cv2
    generalize (w4.setCell ⟨g2, o2 + v, none⟩ (.slice qa2 qn2 qc2)).drew = w5 at *
    obtain ⟨OB_0, OB_1, OB_2, OB_3, OB_l⟩ := OB.g4
    have h42 : ((sweptY Zk v).shelf.set v ((sweptY Zk v).shelf[v].drop (halfN (sweptY Zk v).shelf[v]))).length = 4 := by rw [List.length_set]; exact h41
    have hE1 : ((sweptY Zk v).shelf.set v ((sweptY Zk v).shelf[v].drop (halfN (sweptY Zk v).shelf[v])))[home]'(by omega) = [] := by
     have h1 := hE0.out
     rw [shelf_getD (by omega)] at h1
     rw [List.getElem_set_ne hvn]
     exact h1
    have hS3 := Lib.hid (show stolen home Zk v = ⟨(sweptY Zk v).now, (sweptY Zk v).seq, ((sweptY Zk v).shelf.set v ((sweptY Zk v).shelf[v].drop (halfN (sweptY Zk v).shelf[v]))).set home (mergedE [] ((sweptY Zk v).shelf[v].take (halfN (sweptY Zk v).shelf[v]))), (sweptY Zk v).runs⟩ by
     unfold stolen
     rw [shelf_getD hv41]
     rfl)
    obtain ⟨_, _, ⟨xa2, xn2, xc2⟩, hA9, _, hrx, cx⟩ := RdL.entryS (show RdL (Dt.list entryD) w5 w5.heap.size (.slice (some ⟨g2, o2, none⟩) 4 f1) _ from (yardD.ow_rd oy5).1) (k := home) (by show home < (List.set _ _ _).length; omega)
    simp only [Option.some.injEq, Addr.mk.injEq, and_true] at hA9
    obtain ⟨rfl, rfl⟩ := hA9
    replace hrx : RdL entryD w5 w5.heap.size (.slice xa2 xn2 xc2) (((sweptY Zk v).shelf.set v ((sweptY Zk v).shelf[v].drop (halfN (sweptY Zk v).shelf[v])))[home]'(by omega)) := hrx
    rw [hE1] at hrx
    obtain rfl : xn2 = 0 := RdL.at1 (s := ⟨xa2, xn2, xc2⟩) hrx
    have htl : ((sweptY Zk v).shelf[v].take (halfN (sweptY Zk v).shelf[v])).length ≤ 80 := half_take_len _ hvl80
    have CM := Lib.hid (specMerged_own [] ((sweptY Zk v).shelf[v].take (halfN (sweptY Zk v).shelf[v])) ⟨xa2, 0, xc2⟩ ⟨qa1, qn1, qc1⟩ w5.drew (by simp) (by omega) (RdL.below hrx (Below.refl _ _).drew) (RdL.below oh1'.rd (Below.refl _ _).drew))
    have hobw5 : ob < w5.heap.size := OB_l
    have hg2w5 : g2 < w5.heap.size := by omega
    clear hE1 hrx hvl80
    generalize (sweptY Zk v).shelf[v].take (halfN (sweptY Zk v).shelf[v]) = lt_ at *
    go_wp2
    refine wp_region_last (fun w' => w'.cell? ⟨ob, 2, none⟩ = some (.slice (some ⟨g2, o2, none⟩) 4 f1) ∧ w'.cell? ⟨g2, o2 + home, none⟩ = some (.slice xa2 0 xc2)) 11 (by kernel_rfl) ?_ (fun hHeld => ?_)
    ·exact ⟨OB_2, cx⟩
    refine aT 0 hHeld ?_
    try simp only [pS]
    refine aT 1 hHeld ?_
    try simp only [pS]
    refine aT 2 hHeld ?_
    try simp only [pS]
    refine aT 3 hHeld ?_
    try simp only [pS]
    refine aT 4 hHeld ?_
    try simp only [pS]
    refine aT 5 hHeld ?_
    try simp only [pS]
    refine aT 6 hHeld ?_
    try simp only [pS]
    refine aT 7 hHeld ?_
    try simp only [pS]
    refine aT 8 hHeld ?_
    try simp only [pS]
    refine oT 9 (fun K hK => ?_)
    (go_simp; refine CM.out.mono ?_; rintro e w6 ⟨⟨ma, mn, mc⟩, Fm, rfl, om, nm, b6⟩; have hgc : w6.cell? ⟨g2, o2 + home, none⟩ = some (.slice xa2 0 xc2) := (b6.cell (p := ⟨_, _, none⟩) (by show g2 < w5.heap.size; omega)).trans cx; have hgf : ∀ j, w6.frozen? ⟨g2, j, none⟩ = false := fun j => (b6.frozen (p := ⟨_, _, none⟩) (by show g2 < w5.heap.size; omega)).trans (hfg5 j))
    refine hK.out _ _ (fun _ => ?_) ?_
    ·exact ⟨(b6.cell (p := ⟨_, _, none⟩) (by show ob < w5.heap.size; omega)).trans OB_2, (b6.cell (p := ⟨_, _, none⟩) (by show g2 < w5.heap.size; omega)).trans cx⟩
    clear hK K
    try simp only [pS]
    refine oT 10 (fun K hK => ?_)
    go_simp
    refine hK.out _ _ (fun _ => ?_) ?_
    ·exact ⟨(b6.cell (p := ⟨_, _, none⟩) (by show ob < w5.heap.size; omega)).trans OB_2, (b6.cell (p := ⟨_, _, none⟩) (by show g2 < w5.heap.size; omega)).trans cx⟩
    clear hK K
    try simp only [pS]
    refine oT 11 (fun K hK => ?_)
    go_simp
    refine hK.out _ _ (fun hne => absurd rfl hne) ?_
    clear hK K
    try simp only [pS]
    refine wpAnyL_done (by kernel_rfl) ?_ _
    have b6' : Below w5.heap.size w5 w6 := bnext (Below.refl _ _).drew b6
    have hs6 := b6'.size
    have hnm : ∀ x ∈ Fm, w5.heap.size ≤ x := nm
    replace oy5 : yardD.ow w5 F5 ⟨(sweptY Zk v).now, (sweptY Zk v).seq, (sweptY Zk v).shelf.set v ((sweptY Zk v).shelf[v].drop (halfN (sweptY Zk v).shelf[v])), (sweptY Zk v).runs⟩ (⟨some ⟨g2, o2, none⟩, 4, f1⟩, ⟨C2, p2, f2⟩) := oy5
    have hfl5 := yardD.ow_lt (F := F5) (x := ⟨(sweptY Zk v).now, (sweptY Zk v).seq, (sweptY Zk v).shelf.set v ((sweptY Zk v).shelf[v].drop (halfN (sweptY Zk v).shelf[v])), (sweptY Zk v).runs⟩) (s := (⟨some ⟨g2, o2, none⟩, 4, f1⟩, ⟨C2, p2, f2⟩)) oy5
    have oy6 := yardD.ow_below (F := F5) (x := ⟨(sweptY Zk v).now, (sweptY Zk v).seq, (sweptY Zk v).shelf.set v ((sweptY Zk v).shelf[v].drop (halfN (sweptY Zk v).shelf[v])), (sweptY Zk v).runs⟩) (s := (⟨some ⟨g2, o2, none⟩, 4, f1⟩, ⟨C2, p2, f2⟩)) oy5 b6'
    obtain ⟨F7, oy7, hF7, hg2F5⟩ := yard_setShelf oy6 (i := home) (by show home < (List.set _ _ _).length; omega) (l := mergedE [] lt_) (t := ⟨ma, mn, mc⟩) om (fun x hx hxF => by have h1 := hnm x hx; have h2 := hfl5 x hxF; omega)
    have hC7 : Chg [g2] w6 (w6.setCell ⟨g2, o2 + home, none⟩ (.slice ma mn mc)) := Chg.setCell w6 g2 _ _
    clear OB_0 OB_1 OB_2 OB_3 OB_l
    replace OB := (OB.below b6').chg hC7 (fun hx => hobg (hgm.out _ hx))
    replace RES3 := (RES3.below b6').chg hC7 (fun hx => by have := hgm.out _ hx; omega)
    replace RP3 := (RP3.below b6').chg hC7 (fun hx => by have := hgm.out _ hx; omega)
    replace hwv3 := (hwv3.below b6').chg hC7 (fun x hx hx2 => by have h1 := hgm.out _ hx2; have h2 := hvw x hx; omega)
    replace hb3 := (bnext hb3 b6').trans (hC7.below (by have := (bnext hb3 b6').size; omega) (fun x hx => by have := hgm.out _ hx; omega))
    have hFin : ∀ x ∈ F7, x ∈ F2 ∨ w3.heap.size ≤ x := fun x hx => by
     rcases hF7 x hx with h | h
     ·rcases hF5 x h with h' | h'
      ·exact .inl h'
      ·exact .inr (hnh2 x h')
     ·right; have := hnm x h; omega
    clear hHeld oy5 oy6 b6 b6' nm om hC7 CM cx
    generalize w6.setCell ⟨g2, o2 + home, none⟩ (.slice ma mn mc) = w7 at *
    go_wp2
    exact ⟨⟨k + 1, (⟨some ⟨g2, o2, none⟩, 4, f1⟩, ⟨C2, p2, f2⟩), F7, by omega, by go_num, by rw [hstep.out]; exact hP1, by rw [hstep.out, hS3.out]; exact oy7, ⟨fun x hx => by (rcases hFin x hx with h | h); exact hFgt x h; omega, fun hx => by (rcases hFin _ hx with h | h); exact hobF2 h; omega, fun x hx hxF => by have h1 := hvw x hx; (rcases hFin x hxF with h | h); have := hn2 x h; omega; omega⟩, hwv3, by rw [hstep.out, hS3.out]; exact OB, RES3, RP3, hb3⟩, by simp [intOf]; omega⟩
  have hltI : (k : Int) < 3 := by omega
  have hqz : ((Zk.shelf[home].length : Int) == 0) = false := by simp [hq]
  replace hend := Lib.hid (hend.out (.inr (by rw [hgd.out]; exact hq)))
  clear hq
  rotate_left
  have hltI : ¬ (k : Int) < 3 := by omega
  have hqz : True := trivial
  replace hend := Lib.hid (hend.out (.inl (by omega)))
  all_goals
   have HZ := Lib.hid (show pollR y (wk : Int) d = pollO Zk home by rw [H.out, HG.out, hend.out])
   have hfre : ∀ e ∈ Zk.shelf[home], freshP Zk e := fun e he => by
    have h1 := hPol.out.fresh e (by rw [hgd.out]; exact he)
    rw [← freshB_runs hPol.out.runs] at h1
    exact tf_iff.1 h1
   replace hrh : RdL entryD wr wr.heap.size (.slice xa Zk.shelf[home].length xc) Zk.shelf[home] := hrh
   have hsl := hPol.out.all _ (List.getElem_mem hh4)
   have hPO : Hid (pollO Zk home = pollM Zk home Zk.shelf[home]) := by
    show pollO Zk home = _
    unfold pollO
    rw [hgd.out]
   have CT := Lib.hid (specTakeEntry_own Zk.shelf[home] ⟨xa, Zk.shelf[home].length, xc⟩ wr (by omega) hrh)
   clear hstep hgd hwv hvlt hvne hseq hFv H HG hend
   generalize Zk.shelf[home] = SH at *
   go_wp2_with fail
   refine CT.out.mono ?_
   rintro e9 w2 ⟨⟨ta, tn, tc⟩, Ft, rfl, ot, nt, b2⟩
   replace oy : yardD.ow wr F Zk (⟨some ⟨g, o, none⟩, 4, e1⟩, ⟨B2, m2, e2⟩) := oy.out
   have hfl := yardD.ow_lt (F := F) (x := Zk) (s := (⟨some ⟨g, o, none⟩, 4, e1⟩, ⟨B2, m2, e2⟩)) oy
   replace oy : yardD.ow w2 F Zk (⟨some ⟨g, o, none⟩, 4, e1⟩, ⟨B2, m2, e2⟩) := yardD.ow_below (F := F) (x := Zk) (s := (⟨some ⟨g, o, none⟩, 4, e1⟩, ⟨B2, m2, e2⟩)) oy b2
   clear OB_0 OB_1 OB_2 OB_3 OB_l
   replace OB := OB.below b2
   replace RES := RES.below b2
   replace RP := RP.below b2
   have hb2 := bnext hb b2
   have hs2 := b2.size
   clear b2 CT ch hrh hb oyr
   have hne : w.heap.size + 1 + 1 ≠ w.heap.size + 1 := by omega
   cases SH with
   | nil =>
    have HF := Lib.hid (HZ.out.trans hPO.out)
    clear HZ hPO hfre ot
    have EB0 : Below w2.heap.size w2 (w2.alloc (.cells #[.int .i64 0, .int .i64 0, .int .i64 0, .int .i64 0] 116)) := (Below.refl _ _).alloc (Nat.le_refl _) _
    go_upto_region 16 with fail
    replace oy : yardD.ow _ F Zk (⟨some ⟨g, o, none⟩, 4, e1⟩, ⟨B2, m2, e2⟩) := yardD.ow_below (F := F) (x := Zk) (s := (⟨some ⟨g, o, none⟩, 4, e1⟩, ⟨B2, m2, e2⟩)) oy EB0
    replace OB := OB.below EB0
    replace RES := RES.below EB0
    replace RP := RP.below EB0
    replace hb2 := bnext hb2 EB0
    clear EB0
    generalize w2.alloc (.cells #[.int .i64 0, .int .i64 0, .int .i64 0, .int .i64 0] 116) = w3 at *
    obtain ⟨OB_0, OB_1, OB_2, OB_3, OB_l⟩ := OB.g4
    obtain ⟨RES_0, RES_1, RES_2, RES_3, RES_l⟩ := RES.g4
    obtain ⟨RP_0, RP_1, RP_2, RP_3, RP_l⟩ := RP.g4
    have rf := RES.free
    have pf := RP.free
    go_wp2
    have en1 : w.heap.size + 1 ∉ F := fun hx => by have := hF.out.1 _ hx; omega
    have en2 : w.heap.size + 1 + 1 ∉ F := fun hx => by have := hF.out.1 _ hx; omega
    have RES2 := DBox.row4 RES rfl (.int .i64 Zk.now) (.int .i64 Zk.seq) (.slice (some ⟨g, o, none⟩) 4 e1) (.slice B2 m2 e2)
    have RP2 := DBox.row4 ((((RP.setOther (a := ⟨w.heap.size + 1, 0, none⟩) hne (.int .i64 Zk.now)).setOther (a := ⟨w.heap.size + 1, 1, none⟩) hne (.int .i64 Zk.seq)).setOther (a := ⟨w.heap.size + 1, 2, none⟩) hne (.slice (some ⟨g, o, none⟩) 4 e1)).setOther (a := ⟨w.heap.size + 1, 3, none⟩) hne (.slice B2 m2 e2)) rfl (.int .i64 9) (.int .i64 0) (.int .i64 0) (.int .i64 0)
    have RES3 := (((RES2.setOther (a := ⟨w.heap.size + 1 + 1, 0, none⟩) hne.symm (.int .i64 9)).setOther (a := ⟨w.heap.size + 1 + 1, 1, none⟩) hne.symm (.int .i64 0)).setOther (a := ⟨w.heap.size + 1 + 1, 2, none⟩) hne.symm (.int .i64 0)).setOther (a := ⟨w.heap.size + 1 + 1, 3, none⟩) hne.symm (.int .i64 0)
    refine bodyPost_ret (Poll_res RES3 RP2) rfl ⟨(⟨some ⟨g, o, none⟩, 4, e1⟩, ⟨B2, m2, e2⟩), F, by rw [HF.out]; rfl, by rw [HF.out]; exact (by (repeat (refine Dt.ow_set yardD ?_ (by first | exact en1 | exact en2) _)); exact (show yardD.ow _ F Zk (⟨some ⟨g, o, none⟩, 4, e1⟩, ⟨B2, m2, e2⟩) from oy)), fun x hx => by have := hF.out.1 x hx; omega, ?_⟩
    repeat (first | (with_reducible exact hb2) | refine Below.setCell ?_ (by simp <;> omega) _)
   | cons e rest =>
    obtain ⟨hr0, ⟨ht0, ht1⟩, hst⟩ := hfre e (List.mem_cons_self ..)
    obtain ⟨pr, sq, rn, tk⟩ := e
    dsimp only at hr0 ht0 ht1 hst
    obtain ⟨t, rfl⟩ := Int.eq_ofNat_of_zero_le ht0
    rcases runAt_range Zk rn with hra | ⟨j, hj, hra⟩
    ·exact absurd hr0 (by omega)
    have hrk := runK_get hj hra
    rw [hrk] at ht1 hst
    have hjy : j < y.runs.length := by rw [← hPol.out.runs]; exact hj
    have hrP : Hid (runP Zk.runs[j]) := by
     have e : Zk.runs[j] = y.runs[j] := by simp only [hPol.out.runs]
     show runP Zk.runs[j]
     rw [e]
     exact yard_runs HP.out hjy
    have HF := Lib.hid (HZ.out.trans (hPO.out.trans (show _ = ((⟨Zk.now, Zk.seq, Zk.shelf.set home rest, Zk.runs.set j (startR Zk.runs[j] t Zk.now)⟩ : Yard), (⟨0, rn, t, (taskAt Zk.runs[j] t).try_ + 1⟩ : Reply)) by show pollM _ _ (_ :: _) = _; unfold pollM; dsimp only; rw [hra, hrk, Int.toNat_natCast, Int.toNat_natCast])))
    have hnow := Lib.hid (show 0 ≤ Zk.now ∧ Zk.now ≤ 999999980 by rw [hPol.out.now]; exact HP.out.1)
    have hrun8 : Zk.runs.length ≤ 8 := by rw [hPol.out.runs]; exact HP.out.2.2.2.2.2.2.1
    have htl : t < Zk.runs[j].tasks.length := by omega
    have htt := taskAt_get htl
    have hra2 := Lib.hid (show runAt ⟨Zk.now, Zk.seq, Zk.shelf.set home rest, Zk.runs⟩ rn = j from (runAt_runs (y := Zk) rfl rn).trans hra)
    have hcn := Lib.hid (show cntYard ⟨Zk.now, Zk.seq, Zk.shelf.set home rest, Zk.runs⟩ ≤ 2000000 by
     have := cnt_small (y := ⟨Zk.now, Zk.seq, Zk.shelf.set home rest, Zk.runs⟩) (M := 80) (by simpa using hn4) (fun s hs => by
      rcases List.mem_or_eq_of_mem_set hs with h | h
      ·exact hPol.out.all s h
      ·subst h; simp at hsl; omega) hrun8 (fun k hk => by
       have hk' : k < y.runs.length := by rw [← hPol.out.runs]; exact hk
       have e : Zk.runs[k] = y.runs[k] := by simp only [hPol.out.runs]
       show runP Zk.runs[k]
       rw [e]
       exact yard_runs HP.out hk')
     omega)
    clear HZ hPO hfre hra hrk hr0 ht0 ht1 hst hjy hzl hqz
    replace ot : OwL entryD w2 Ft (.slice ta tn tc) rest := ot
    have hnt : ∀ x ∈ Ft, wr.heap.size ≤ x ∧ x < w2.heap.size := fun x hx => ⟨nt x hx, ot.lt x hx⟩
    have EB := DBox.new 116 [.int .i64 pr, .int .i64 sq, .int .i64 rn, .int .i64 (t : Int)] w2 (b := w2.heap.size) rfl
    have EB0 : Below w2.heap.size w2 (w2.alloc (.cells #[.int .i64 pr, .int .i64 sq, .int .i64 rn, .int .i64 (t : Int)] 116)) := (Below.refl _ _).alloc (Nat.le_refl _) _
    go_upto_region 16 with fail
    replace oy : yardD.ow _ F Zk (⟨some ⟨g, o, none⟩, 4, e1⟩, ⟨B2, m2, e2⟩) := yardD.ow_below (F := F) (x := Zk) (s := (⟨some ⟨g, o, none⟩, 4, e1⟩, ⟨B2, m2, e2⟩)) oy EB0
    replace ot := ot.below EB0
    replace OB := OB.below EB0
    replace RES := RES.below EB0
    replace RP := RP.below EB0
    replace hb2 := bnext hb2 EB0
    clear nt EB0
    generalize w2.alloc (.cells #[.int .i64 pr, .int .i64 sq, .int .i64 rn, .int .i64 (t : Int)] 116) = w3 at *
    have hebl := EB.lt
    generalize w2.heap.size = eb at *
    obtain ⟨OB_0, OB_1, OB_2, OB_3, OB_l⟩ := OB.g4
    obtain ⟨EB_0, EB_1, EB_2, EB_3, EB_l⟩ := EB.g4
    replace oy : yardD.ow w3 F Zk (⟨some ⟨g, o, none⟩, 4, e1⟩, ⟨B2, m2, e2⟩) := oy
    have hfg : ∀ j, w3.frozen? ⟨g, j, none⟩ = false := by
     obtain ⟨G1, G2, _, _, os, _⟩ := oy
     exact OwL.free0 (show OwL (Dt.list entryD) w3 G1 (.slice (some ⟨g, o, none⟩) 4 e1) Zk.shelf from os) (by omega)
    obtain ⟨_, _, ⟨xa3, xn3, xc3⟩, hA9, hg3, _, ch⟩ := RdL.entryS (show RdL (Dt.list entryD) w3 w3.heap.size (.slice (some ⟨g, o, none⟩) 4 e1) Zk.shelf from (yardD.ow_rd (F := F) (x := Zk) oy).1) hh4
    simp only [Option.some.injEq, Addr.mk.injEq, and_true] at hA9
    obtain ⟨rfl, rfl⟩ := hA9
    obtain ⟨F4, oy4, hF4, hgF⟩ := yard_setShelf oy hh4 (l := rest) (t := ⟨ta, tn, tc⟩) ot (fun x hx hxF => by have h1 := (hnt x hx).1; have h2 := hfl x hxF; omega)
    go_upto_region 19 with fail
    have hC4 : Chg [g] w3 (w3.setCell ⟨g, o + home, none⟩ (.slice ta tn tc)) := Chg.setCell w3 g _ _
    have hgm := Lib.hid (show ∀ x, x ∈ [g] → x = g from fun x hx => by simpa using hx)
    have hgF2 := hF.out.1 g hgF
    have hobg : ob ≠ g := fun h => hF.out.2.1 (by rw [h]; exact hgF)
    clear OB_0 OB_1 OB_2 OB_3 OB_l
    clear EB_0 EB_1 EB_2 EB_3 EB_l
    replace OB := OB.chg hC4 (fun hx => hobg (hgm.out _ hx))
    replace EB := EB.chg hC4 (fun hx => by have := hgm.out _ hx; omega)
    replace RES := RES.chg hC4 (fun hx => by have := hgm.out _ hx; omega)
    replace RP := RP.chg hC4 (fun hx => by have := hgm.out _ hx; omega)
    have hs4 := hC4.size
    replace hb2 := hb2.trans (hC4.below (by have := hb2.size; omega) (fun x hx => by have := hgm.out _ hx; omega))
    clear hC4 oy hfg ch ot
    generalize w3.setCell ⟨g, o + home, none⟩ (.slice ta tn tc) = w4 at *
    replace oy4 : yardD.ow w4 F4 ⟨Zk.now, Zk.seq, Zk.shelf.set home rest, Zk.runs⟩ (⟨some ⟨g, o, none⟩, 4, e1⟩, ⟨B2, m2, e2⟩) := oy4
    have hF4n : ∀ x ∈ F4, (x ∈ F ∨ (wr.heap.size ≤ x ∧ x < eb)) := fun x hx => (hF4 x hx).imp id (fun h => hnt x h)
    have CA := Lib.hid (specRunAt_own ⟨Zk.now, Zk.seq, Zk.shelf.set home rest, Zk.runs⟩ (⟨some ⟨g, o, none⟩, 4, e1⟩, ⟨B2, m2, e2⟩) rn w4 hcn.out (yardD.ow_rd (F := F4) (x := ⟨Zk.now, Zk.seq, Zk.shelf.set home rest, Zk.runs⟩) oy4))
    obtain ⟨OB_0, OB_1, OB_2, OB_3, OB_l⟩ := OB.g4
    obtain ⟨EB_0, EB_1, EB_2, EB_3, EB_l⟩ := EB.g4
    go_wp2_with fail
    refine CA.out.mono ?_
    rintro e9 w5 ⟨rfl, b5⟩
    rw [hra2.out]
    clear OB_0 OB_1 OB_2 OB_3 OB_l
    clear EB_0 EB_1 EB_2 EB_3 EB_l
    replace OB := OB.below b5
    replace EB := EB.below b5
    replace RES := RES.below b5
    replace RP := RP.below b5
    replace hb2 := bnext hb2 b5
    replace oy4 : yardD.ow w5 F4 ⟨Zk.now, Zk.seq, Zk.shelf.set home rest, Zk.runs⟩ (⟨some ⟨g, o, none⟩, 4, e1⟩, ⟨B2, m2, e2⟩) := yardD.ow_below (F := F4) (x := ⟨Zk.now, Zk.seq, Zk.shelf.set home rest, Zk.runs⟩) (s := (⟨some ⟨g, o, none⟩, 4, e1⟩, ⟨B2, m2, e2⟩)) oy4 b5
    have hs5 := b5.size
    clear b5 CA hra2 hcn
    have oyr := (yardD.ow_rd (F := F4) (x := ⟨Zk.now, Zk.seq, Zk.shelf.set home rest, Zk.runs⟩) oy4).2
    have hm2 := Lib.hid (show m2 = Zk.runs.length from RdL.at1 (s := ⟨B2, m2, e2⟩) oyr)
    have hjI : (j : Int) < (m2 : Int) := by have := hm2.out; omega
    have hj0 : (0 : Int) ≤ (j : Int) := by omega
    obtain ⟨gr, orr, sk, rfl, hgrw, hrk, c0, c1, c2, c3, c4, c5, c6, c7⟩ := RdL.run (show RdL runD w5 w5.heap.size (.slice B2 m2 e2) Zk.runs from oyr) hj
    have hgrf : ∀ i, w5.frozen? ⟨gr, i, none⟩ = false := by
     obtain ⟨G1, G2, _, _, _, os⟩ := oy4
     exact OwL.free0 (show OwL runD w5 G2 (.slice (some ⟨gr, orr, none⟩) m2 e2) Zk.runs from os) (by omega)
    generalize hrj : Zk.runs[j] = r at *
    have hmk : -1000000 ≤ r.tasks[t].try_ ∧ r.tasks[t].try_ ≤ 2000000000 ∧ 0 ≤ r.plan.wait ∧ r.plan.wait ≤ 2000000000 := by
     have h1 := hrP.out.2.2.2.1 t htl
     have h2 := (planFault_zero.1 hrP.out.2.1).1
     simp only [manyOk, Bool.and_eq_true] at h2
     have h3 := inB_iff.1 h2.1.2
     have h4 := inB_iff.1 h2.2
     unfold taskP taskQ at h1
     rw [htt] at h1
     omega
    have CSt := Lib.hid (specStarted_own r sk t Zk.now w5.drew (by have := run_small hrP.out; omega) htl ⟨hmk.1, hmk.2.1⟩ (by have := hnow.out; omega) hmk.2.2 (runD.rd_below hrk (Below.refl _ _).drew))
    have hobw5 : ob < w5.heap.size := by omega
    have hebw5 : eb < w5.heap.size := by omega
    clear hrk oyr hmk hrP hrun8
    obtain ⟨OB_0, OB_1, OB_2, OB_3, OB_l⟩ := OB.g4
    obtain ⟨EB_0, EB_1, EB_2, EB_3, EB_l⟩ := EB.g4
    go_wp2
    refine wp_region_last (fun w' => w'.cell? ⟨ob, 3, none⟩ = some (.slice (some ⟨gr, orr, none⟩) m2 e2) ∧ w'.cell? ⟨ob, 0, none⟩ = some (.int .i64 Zk.now) ∧ w'.cell? ⟨eb, 3, none⟩ = some (.int .i64 (t : Int)) ∧ w'.cell? ⟨gr, orr + j * 8, none⟩ = some (.int .i64 r.id) ∧ w'.cell? ⟨gr, orr + j * 8 + 1, none⟩ = some (.int .i64 r.plan.prio) ∧ w'.cell? ⟨gr, orr + j * 8 + 2, none⟩ = some (.int .i64 r.plan.most) ∧ w'.cell? ⟨gr, orr + j * 8 + 3, none⟩ = some (.int .i64 r.plan.wait) ∧ w'.cell? ⟨gr, orr + j * 8 + 4, none⟩ = some (.int .i64 r.plan.tasks) ∧ w'.cell? ⟨gr, orr + j * 8 + 5, none⟩ = some (.slice sk.1.a sk.1.n sk.1.c) ∧ w'.cell? ⟨gr, orr + j * 8 + 6, none⟩ = some (.int .i64 r.state) ∧ w'.cell? ⟨gr, orr + j * 8 + 7, none⟩ = some (.slice sk.2.a sk.2.n sk.2.c)) 14 (by kernel_rfl) ?_ (fun hHeld => ?_)
    ·exact ⟨OB_3, OB_0, EB_3, c0, c1, c2, c3, c4, c5, c6, c7⟩
    refine aT 0 hHeld ?_
    try simp only [pS]
    refine aT 1 hHeld ?_
    try simp only [pS]
    refine aT 2 hHeld ?_
    try simp only [pS]
    refine aT 3 hHeld ?_
    try simp only [pS]
    refine aT 4 hHeld ?_
    try simp only [pS]
    refine aT 5 hHeld ?_
    try simp only [pS]
    refine aT 6 hHeld ?_
    try simp only [pS]
    refine aT 7 hHeld ?_
    try simp only [pS]
    refine aT 8 hHeld ?_
    try simp only [pS]
    refine aT 9 hHeld ?_
    try simp only [pS]
    refine aT 10 hHeld ?_
    try simp only [pS]
    refine aT 11 hHeld ?_
    try simp only [pS]
    refine oT 12 (fun K hK => ?_)
    (go_simp; refine CSt.out.mono ?_; rintro e9 w6 ⟨sr, Fr, rfl, orn, nr, b6⟩; have q0 : w6.cell? ⟨gr, orr + j * 8, none⟩ = some (.int .i64 r.id) := (b6.cell (p := ⟨_, _, none⟩) (by show gr < w5.heap.size; omega)).trans c0; have q1 : w6.cell? ⟨gr, orr + j * 8 + 1, none⟩ = some (.int .i64 r.plan.prio) := (b6.cell (p := ⟨_, _, none⟩) (by show gr < w5.heap.size; omega)).trans c1; have q2 : w6.cell? ⟨gr, orr + j * 8 + 2, none⟩ = some (.int .i64 r.plan.most) := (b6.cell (p := ⟨_, _, none⟩) (by show gr < w5.heap.size; omega)).trans c2; have q3 : w6.cell? ⟨gr, orr + j * 8 + 3, none⟩ = some (.int .i64 r.plan.wait) := (b6.cell (p := ⟨_, _, none⟩) (by show gr < w5.heap.size; omega)).trans c3; have q4 : w6.cell? ⟨gr, orr + j * 8 + 4, none⟩ = some (.int .i64 r.plan.tasks) := (b6.cell (p := ⟨_, _, none⟩) (by show gr < w5.heap.size; omega)).trans c4; have q5 : w6.cell? ⟨gr, orr + j * 8 + 5, none⟩ = some (.slice sk.1.a sk.1.n sk.1.c) := (b6.cell (p := ⟨_, _, none⟩) (by show gr < w5.heap.size; omega)).trans c5; have q6 : w6.cell? ⟨gr, orr + j * 8 + 6, none⟩ = some (.int .i64 r.state) := (b6.cell (p := ⟨_, _, none⟩) (by show gr < w5.heap.size; omega)).trans c6; have q7 : w6.cell? ⟨gr, orr + j * 8 + 7, none⟩ = some (.slice sk.2.a sk.2.n sk.2.c) := (b6.cell (p := ⟨_, _, none⟩) (by show gr < w5.heap.size; omega)).trans c7; have qf : ∀ j, w6.frozen? ⟨gr, j, none⟩ = false := fun j => (b6.frozen (p := ⟨_, _, none⟩) (by show gr < w5.heap.size; omega)).trans (hgrf j))
    refine hK.out _ _ (fun _ => ?_) ?_
    ·exact ⟨(b6.cell (p := ⟨_, _, none⟩) (by show ob < w5.heap.size; omega)).trans OB_3, (b6.cell (p := ⟨_, _, none⟩) (by show ob < w5.heap.size; omega)).trans OB_0, (b6.cell (p := ⟨_, _, none⟩) (by show eb < w5.heap.size; omega)).trans EB_3, (b6.cell (p := ⟨_, _, none⟩) (by show gr < w5.heap.size; omega)).trans c0, (b6.cell (p := ⟨_, _, none⟩) (by show gr < w5.heap.size; omega)).trans c1, (b6.cell (p := ⟨_, _, none⟩) (by show gr < w5.heap.size; omega)).trans c2, (b6.cell (p := ⟨_, _, none⟩) (by show gr < w5.heap.size; omega)).trans c3, (b6.cell (p := ⟨_, _, none⟩) (by show gr < w5.heap.size; omega)).trans c4, (b6.cell (p := ⟨_, _, none⟩) (by show gr < w5.heap.size; omega)).trans c5, (b6.cell (p := ⟨_, _, none⟩) (by show gr < w5.heap.size; omega)).trans c6, (b6.cell (p := ⟨_, _, none⟩) (by show gr < w5.heap.size; omega)).trans c7⟩
    clear hK K
    try simp only [pS]
    refine oT 13 (fun K hK => ?_)
    go_simp
    refine hK.out _ _ (fun _ => ?_) ?_
    ·exact ⟨(b6.cell (p := ⟨_, _, none⟩) (by show ob < w5.heap.size; omega)).trans OB_3, (b6.cell (p := ⟨_, _, none⟩) (by show ob < w5.heap.size; omega)).trans OB_0, (b6.cell (p := ⟨_, _, none⟩) (by show eb < w5.heap.size; omega)).trans EB_3, (b6.cell (p := ⟨_, _, none⟩) (by show gr < w5.heap.size; omega)).trans c0, (b6.cell (p := ⟨_, _, none⟩) (by show gr < w5.heap.size; omega)).trans c1, (b6.cell (p := ⟨_, _, none⟩) (by show gr < w5.heap.size; omega)).trans c2, (b6.cell (p := ⟨_, _, none⟩) (by show gr < w5.heap.size; omega)).trans c3, (b6.cell (p := ⟨_, _, none⟩) (by show gr < w5.heap.size; omega)).trans c4, (b6.cell (p := ⟨_, _, none⟩) (by show gr < w5.heap.size; omega)).trans c5, (b6.cell (p := ⟨_, _, none⟩) (by show gr < w5.heap.size; omega)).trans c6, (b6.cell (p := ⟨_, _, none⟩) (by show gr < w5.heap.size; omega)).trans c7⟩
    clear hK K
    try simp only [pS]
    refine oT 14 (fun K hK => ?_)
    go_simp
    refine hK.out _ _ (fun hne => absurd rfl hne) ?_
    clear hK K
    try simp only [pS]
    refine wpAnyL_done (by kernel_rfl) ?_ _
    have b6' : Below w5.heap.size w5 w6 := bnext (Below.refl _ _).drew b6
    have hs6 := b6'.size
    have hnr : ∀ x ∈ Fr, w5.heap.size ≤ x := nr
    have hfl4 : ∀ x ∈ F4, x < w5.heap.size := yardD.ow_lt (F := F4) (x := ⟨Zk.now, Zk.seq, Zk.shelf.set home rest, Zk.runs⟩) (s := (⟨some ⟨g, o, none⟩, 4, e1⟩, ⟨some ⟨gr, orr, none⟩, m2, e2⟩)) oy4
    have oy6 : yardD.ow w6 F4 ⟨Zk.now, Zk.seq, Zk.shelf.set home rest, Zk.runs⟩ (⟨some ⟨g, o, none⟩, 4, e1⟩, ⟨some ⟨gr, orr, none⟩, m2, e2⟩) := yardD.ow_below (F := F4) (x := ⟨Zk.now, Zk.seq, Zk.shelf.set home rest, Zk.runs⟩) (s := (⟨some ⟨g, o, none⟩, 4, e1⟩, ⟨some ⟨gr, orr, none⟩, m2, e2⟩)) oy4 b6'
    obtain ⟨F8, oy8, hF8, hgrF⟩ := yard_setRun oy6 (k := j) hj (r := startR r t Zk.now) (sr := sr) orn (fun x hx hxF => by have h1 := hnr x hx; have h2 := hfl4 x hxF; omega)
    have hC8 : Chg [gr] w6 ((((((((w6.setCell ⟨gr, orr + j * 8, none⟩ (.int .i64 (startR r t Zk.now).id)).setCell ⟨gr, orr + j * 8 + 1, none⟩ (.int .i64 (startR r t Zk.now).plan.prio)).setCell ⟨gr, orr + j * 8 + 2, none⟩ (.int .i64 (startR r t Zk.now).plan.most)).setCell ⟨gr, orr + j * 8 + 3, none⟩ (.int .i64 (startR r t Zk.now).plan.wait)).setCell ⟨gr, orr + j * 8 + 4, none⟩ (.int .i64 (startR r t Zk.now).plan.tasks)).setCell ⟨gr, orr + j * 8 + 5, none⟩ (.slice sr.1.a sr.1.n sr.1.c)).setCell ⟨gr, orr + j * 8 + 6, none⟩ (.int .i64 (startR r t Zk.now).state)).setCell ⟨gr, orr + j * 8 + 7, none⟩ (.slice sr.2.a sr.2.n sr.2.c)) := wSeq_chg (runD.enc.cells ((startR r t Zk.now), sr)) w6 gr (orr + j * 8)
    have hrm := Lib.hid (show ∀ x, x ∈ [gr] → x = gr from fun x hx => by simpa using hx)
    have hgrn := hF4n gr hgrF
    have hobgr : ob ≠ gr := fun h => by
     rcases hgrn with h1 | h1
     ·exact hF.out.2.1 (by rw [h]; exact h1)
     ·omega
    have hebgr : eb ≠ gr := fun h => by
     rcases hgrn with h1 | h1
     ·have := hfl _ h1; omega
     ·omega
    have hgr2 : w.heap.size + 1 + 1 < gr := by
     rcases hgrn with h1 | h1
     ·exact hF.out.1 _ h1
     ·omega
    clear OB_0 OB_1 OB_2 OB_3 OB_l
    clear EB_0 EB_1 EB_2 EB_3 EB_l
    replace OB := (OB.below b6').chg hC8 (fun hx => hobgr (hrm.out _ hx))
    replace EB := (EB.below b6').chg hC8 (fun hx => hebgr (hrm.out _ hx))
    replace RES := (RES.below b6').chg hC8 (fun hx => by have := hrm.out _ hx; omega)
    replace RP := (RP.below b6').chg hC8 (fun hx => by have := hrm.out _ hx; omega)
    replace hb2 := (bnext hb2 b6').trans (hC8.below (by have := (bnext hb2 b6').size; omega) (fun x hx => by have := hrm.out _ hx; omega))
    have hF8n : ∀ x ∈ F8, x ∈ F4 ∨ w5.heap.size ≤ x := fun x hx => (hF8 x hx).imp id (fun h => hnr x h)
    clear hHeld oy4 oy6 b6 b6' nr orn hC8 CSt c0 c1 c2 c3 c4 c5 c6 c7 hgrf q0 q1 q2 q3 q4 q5 q6 q7 qf
    generalize ((((((((w6.setCell ⟨gr, orr + j * 8, none⟩ (.int .i64 (startR r t Zk.now).id)).setCell ⟨gr, orr + j * 8 + 1, none⟩ (.int .i64 (startR r t Zk.now).plan.prio)).setCell ⟨gr, orr + j * 8 + 2, none⟩ (.int .i64 (startR r t Zk.now).plan.most)).setCell ⟨gr, orr + j * 8 + 3, none⟩ (.int .i64 (startR r t Zk.now).plan.wait)).setCell ⟨gr, orr + j * 8 + 4, none⟩ (.int .i64 (startR r t Zk.now).plan.tasks)).setCell ⟨gr, orr + j * 8 + 5, none⟩ (.slice sr.1.a sr.1.n sr.1.c)).setCell ⟨gr, orr + j * 8 + 6, none⟩ (.int .i64 (startR r t Zk.now).state)).setCell ⟨gr, orr + j * 8 + 7, none⟩ (.slice sr.2.a sr.2.n sr.2.c)) = w8 at *
    replace oy8 : yardD.ow w8 F8 ⟨Zk.now, Zk.seq, Zk.shelf.set home rest, Zk.runs.set j (startR r t Zk.now)⟩ (⟨some ⟨g, o, none⟩, 4, e1⟩, ⟨some ⟨gr, orr, none⟩, m2, e2⟩) := oy8
    have hjs : j < (Zk.runs.set j (startR r t Zk.now)).length := by rw [List.length_set]; exact hj
    have oyk := oy8
    obtain ⟨G1, G2, hGG, _, _, os8⟩ := oyk
    obtain ⟨⟨sx1, ⟨tva, tn2, tc2⟩⟩, Fx, hxo, hxF, _, _, _, hcx⟩ := OwL.elem (show OwL runD w8 G2 (.slice (some ⟨gr, orr, none⟩) m2 e2) (Zk.runs.set j (startR r t Zk.now)) from os8) hjs
    have cT : w8.cell? ⟨gr, orr + j * 8 + 7, none⟩ = some (.slice tva tn2 tc2) := hcx 7 _ rfl
    rw [List.getElem_set_self] at hxo
    obtain ⟨H1, H2, hHH, _, _, ot8⟩ := hxo
    have oh8 := task_hw (show OwL taskD w8 H2 (.slice tva tn2 tc2) (startR r t Zk.now).tasks from ot8)
    have hgr8 : gr < w8.heap.size := by have := yardD.ow_lt (F := F8) (x := ⟨Zk.now, Zk.seq, Zk.shelf.set home rest, Zk.runs.set j (startR r t Zk.now)⟩) (s := (⟨some ⟨g, o, none⟩, 4, e1⟩, ⟨some ⟨gr, orr, none⟩, m2, e2⟩)) oy8 gr (by rw [hGG]; exact List.mem_append_right _ (OwL.block_mem (show OwL runD w8 G2 (.slice (some ⟨gr, orr, none⟩) m2 e2) _ from os8) (Nat.lt_of_le_of_lt (Nat.zero_le _) hjs))); exact this
    have htn2 : tn2 = r.tasks.length := (RdL.at1 (s := ⟨tva, tn2, tc2⟩) (show OwL taskD w8 H2 (.slice tva tn2 tc2) (startR r t Zk.now).tasks from ot8).rd).trans (startR_len _ _ _)
    have htI : (t : Int) < (tn2 : Int) := by omega
    have ht0 : (0 : Int) ≤ (t : Int) := by omega
    have hts : t < (startR r t Zk.now).tasks.length := by rw [startR_len]; exact htl
    obtain ⟨gt, ot2, rfl, hgt, -, -, cY, -⟩ := oh8.rd.tsk hts
    have hgtF : gt ∈ F8 := by
     have h1 := (oh8.block (by omega)).1
     rw [hGG]
     refine List.mem_append_right _ (hxF _ ?_)
     rw [hHH, h1]
     exact List.mem_append_right _ (List.mem_singleton.2 rfl)
    have hty := startR_try r t Zk.now htl
    rw [hty] at cY
    have hobw8 : ob < w8.heap.size := OB.lt
    have hebw8 : eb < w8.heap.size := EB.lt
    have en1 : w.heap.size + 1 ∉ F8 := fun hx => by
     rcases hF8n _ hx with h | h
     ·rcases hF4n _ h with h1 | h1
      ·have := hF.out.1 _ h1; omega
      ·omega
     ·omega
    have en2 : w.heap.size + 1 + 1 ∉ F8 := fun hx => by
     rcases hF8n _ hx with h | h
     ·rcases hF4n _ h with h1 | h1
      ·have := hF.out.1 _ h1; omega
      ·omega
     ·omega
    have hF9 : ∀ x ∈ F8, w.heap.size ≤ x := fun x hx => by
     rcases hF8n _ hx with h | h
     ·rcases hF4n _ h with h1 | h1
      ·have := hF.out.1 _ h1; omega
      ·omega
     ·omega
    have HFF := Lib.hid (show pollR y (wk : Int) d = ((⟨Zk.now, Zk.seq, Zk.shelf.set home rest, Zk.runs.set j (startR r t Zk.now)⟩ : Yard), (⟨0, rn, t, r.tasks[t].try_ + 1⟩ : Reply)) by rw [HF.out, htt])
    have gn1 : gt ≠ w.heap.size + 1 := fun h => en1 (by rw [← h]; exact hgtF)
    have gn2 : gt ≠ w.heap.size + 1 + 1 := fun h => en2 (by rw [← h]; exact hgtF)
    clear HF hty hF4n hF8n hF8 hnr hfl4 hnt hF4 hfl htt
    go_wp2
    refine Go.wp_region_noPanic ?_
    refine wp_region_held_drew (S := (fun w' => DBox ob [.int .i64 Zk.now, .int .i64 Zk.seq, .slice (some ⟨g, o, none⟩) 4 e1, .slice (some ⟨gr, orr, none⟩) m2 e2] w' ∧ DBox eb [.int .i64 pr, .int .i64 sq, .int .i64 rn, .int .i64 (t : Int)] w' ∧ w'.cell? ⟨gr, orr + j * 8 + 7, none⟩ = some (.slice (some ⟨gt, ot2, none⟩) tn2 tc2) ∧ w'.cell? ⟨gt, ot2 + t * 4 + 2, none⟩ = some (.int .i64 (r.tasks[t].try_ + 1)))) (by kernel_rfl) ⟨DBox.drew4 OB, DBox.drew4 EB, cT, cY⟩ (fun hHeld => ?_)
    replace oy8 : yardD.ow w8.drew F8 ⟨Zk.now, Zk.seq, Zk.shelf.set home rest, Zk.runs.set j (startR r t Zk.now)⟩ (⟨some ⟨g, o, none⟩, 4, e1⟩, ⟨some ⟨gr, orr, none⟩, m2, e2⟩) := yardD.ow_below (F := F8) (x := ⟨Zk.now, Zk.seq, Zk.shelf.set home rest, Zk.runs.set j (startR r t Zk.now)⟩) (s := (⟨some ⟨g, o, none⟩, 4, e1⟩, ⟨some ⟨gr, orr, none⟩, m2, e2⟩)) oy8 (Below.refl _ _).drew
    replace RES : DBox _ _ w8.drew := DBox.drew4 RES
    replace RP : DBox _ _ w8.drew := DBox.drew4 RP
    replace hb2 := hb2.drew
    have hw8d : w8.drew.heap.size = w8.heap.size := rfl
    rw [← hw8d] at hgr8 hgt
    clear OB EB cT cY hw8d oh8 ot8 hcx hxF os8 hobw8 hebw8 hgtF
    generalize w8.drew = w8d at *
    refine tZ 0 ?_ (hy := by (intro w' hSw; (try dsimp only at hSw); have f0 := hSw.1.cell 0 _ rfl; have f1 := hSw.1.cell 1 _ rfl; have f2 := hSw.1.cell 2 _ rfl; have f3 := hSw.1.cell 3 _ rfl; have f4 := hSw.2.1.cell 2 _ rfl; have f5 := hSw.2.1.cell 3 _ rfl; have f6 := hSw.2.2.1; have f7 := hSw.2.2.2; go_simp; (try with_reducible rfl)))
    (try simp only [pS])
    refine tZ 1 ?_ (hy := by (intro w' hSw; (try dsimp only at hSw); have f0 := hSw.1.cell 0 _ rfl; have f1 := hSw.1.cell 1 _ rfl; have f2 := hSw.1.cell 2 _ rfl; have f3 := hSw.1.cell 3 _ rfl; have f4 := hSw.2.1.cell 2 _ rfl; have f5 := hSw.2.1.cell 3 _ rfl; have f6 := hSw.2.2.1; have f7 := hSw.2.2.2; go_simp; (try with_reducible rfl)))
    (try simp only [pS])
    refine tZ 2 ?_ (hy := by (intro w' hSw; (try dsimp only at hSw); have f0 := hSw.1.cell 0 _ rfl; have f1 := hSw.1.cell 1 _ rfl; have f2 := hSw.1.cell 2 _ rfl; have f3 := hSw.1.cell 3 _ rfl; have f4 := hSw.2.1.cell 2 _ rfl; have f5 := hSw.2.1.cell 3 _ rfl; have f6 := hSw.2.2.1; have f7 := hSw.2.2.2; go_simp; (try with_reducible rfl)))
    (try simp only [pS])
    refine tZ 3 ?_ (hy := by (intro w' hSw; (try dsimp only at hSw); have f0 := hSw.1.cell 0 _ rfl; have f1 := hSw.1.cell 1 _ rfl; have f2 := hSw.1.cell 2 _ rfl; have f3 := hSw.1.cell 3 _ rfl; have f4 := hSw.2.1.cell 2 _ rfl; have f5 := hSw.2.1.cell 3 _ rfl; have f6 := hSw.2.2.1; have f7 := hSw.2.2.2; go_simp; (try with_reducible rfl)))
    (try simp only [pS])
    refine tZ 4 ?_ (hy := by (intro w' hSw; (try dsimp only at hSw); have f0 := hSw.1.cell 0 _ rfl; have f1 := hSw.1.cell 1 _ rfl; have f2 := hSw.1.cell 2 _ rfl; have f3 := hSw.1.cell 3 _ rfl; have f4 := hSw.2.1.cell 2 _ rfl; have f5 := hSw.2.1.cell 3 _ rfl; have f6 := hSw.2.2.1; have f7 := hSw.2.2.2; go_simp; (try with_reducible rfl)))
    (try simp only [pS])
    refine tZ 5 ?_ (hy := by (intro w' hSw; (try dsimp only at hSw); have f0 := hSw.1.cell 0 _ rfl; have f1 := hSw.1.cell 1 _ rfl; have f2 := hSw.1.cell 2 _ rfl; have f3 := hSw.1.cell 3 _ rfl; have f4 := hSw.2.1.cell 2 _ rfl; have f5 := hSw.2.1.cell 3 _ rfl; have f6 := hSw.2.2.1; have f7 := hSw.2.2.2; go_simp; (try with_reducible rfl)))
    (try simp only [pS])
    refine tZ 6 ?_ (hy := by (intro w' hSw; (try dsimp only at hSw); have f0 := hSw.1.cell 0 _ rfl; have f1 := hSw.1.cell 1 _ rfl; have f2 := hSw.1.cell 2 _ rfl; have f3 := hSw.1.cell 3 _ rfl; have f4 := hSw.2.1.cell 2 _ rfl; have f5 := hSw.2.1.cell 3 _ rfl; have f6 := hSw.2.2.1; have f7 := hSw.2.2.2; go_simp; (try with_reducible rfl)))
    (try simp only [pS])
    refine tZ 7 ?_ (hy := by (intro w' hSw; (try dsimp only at hSw); have f0 := hSw.1.cell 0 _ rfl; have f1 := hSw.1.cell 1 _ rfl; have f2 := hSw.1.cell 2 _ rfl; have f3 := hSw.1.cell 3 _ rfl; have f4 := hSw.2.1.cell 2 _ rfl; have f5 := hSw.2.1.cell 3 _ rfl; have f6 := hSw.2.2.1; have f7 := hSw.2.2.2; go_simp; (try with_reducible rfl)))
    (try simp only [pS])
    refine tZ 8 ?_ (hy := by (intro w' hSw; (try dsimp only at hSw); have f0 := hSw.1.cell 0 _ rfl; have f1 := hSw.1.cell 1 _ rfl; have f2 := hSw.1.cell 2 _ rfl; have f3 := hSw.1.cell 3 _ rfl; have f4 := hSw.2.1.cell 2 _ rfl; have f5 := hSw.2.1.cell 3 _ rfl; have f6 := hSw.2.2.1; have f7 := hSw.2.2.2; go_simp; (try with_reducible rfl)))
    (try simp only [pS])
    refine tZ 9 ?_ (hy := by (intro w' hSw; (try dsimp only at hSw); have f0 := hSw.1.cell 0 _ rfl; have f1 := hSw.1.cell 1 _ rfl; have f2 := hSw.1.cell 2 _ rfl; have f3 := hSw.1.cell 3 _ rfl; have f4 := hSw.2.1.cell 2 _ rfl; have f5 := hSw.2.1.cell 3 _ rfl; have f6 := hSw.2.2.1; have f7 := hSw.2.2.2; go_simp; (try with_reducible rfl)))
    (try simp only [pS])
    refine tZ 10 ?_ (hy := by (intro w' hSw; (try dsimp only at hSw); have f0 := hSw.1.cell 0 _ rfl; have f1 := hSw.1.cell 1 _ rfl; have f2 := hSw.1.cell 2 _ rfl; have f3 := hSw.1.cell 3 _ rfl; have f4 := hSw.2.1.cell 2 _ rfl; have f5 := hSw.2.1.cell 3 _ rfl; have f6 := hSw.2.2.1; have f7 := hSw.2.2.2; go_simp; (try with_reducible rfl)))
    (try simp only [pS])
    refine tZ 11 ?_ (hy := by (intro w' hSw; (try dsimp only at hSw); have f0 := hSw.1.cell 0 _ rfl; have f1 := hSw.1.cell 1 _ rfl; have f2 := hSw.1.cell 2 _ rfl; have f3 := hSw.1.cell 3 _ rfl; have f4 := hSw.2.1.cell 2 _ rfl; have f5 := hSw.2.1.cell 3 _ rfl; have f6 := hSw.2.2.1; have f7 := hSw.2.2.2; go_simp; (try with_reducible rfl)))
    (try simp only [pS])
    refine tZ 12 ?_ (hy := by (intro w' hSw; (try dsimp only at hSw); have f0 := hSw.1.cell 0 _ rfl; have f1 := hSw.1.cell 1 _ rfl; have f2 := hSw.1.cell 2 _ rfl; have f3 := hSw.1.cell 3 _ rfl; have f4 := hSw.2.1.cell 2 _ rfl; have f5 := hSw.2.1.cell 3 _ rfl; have f6 := hSw.2.2.1; have f7 := hSw.2.2.2; go_simp; (try with_reducible rfl)))
    (try simp only [pS])
    refine tZ 13 ?_ (hy := by (intro w' hSw; (try dsimp only at hSw); have f0 := hSw.1.cell 0 _ rfl; have f1 := hSw.1.cell 1 _ rfl; have f2 := hSw.1.cell 2 _ rfl; have f3 := hSw.1.cell 3 _ rfl; have f4 := hSw.2.1.cell 2 _ rfl; have f5 := hSw.2.1.cell 3 _ rfl; have f6 := hSw.2.2.1; have f7 := hSw.2.2.2; go_simp; (try with_reducible rfl)))
    (try simp only [pS])
    refine tZ 14 ?_ (hy := by (intro w' hSw; (try dsimp only at hSw); have f0 := hSw.1.cell 0 _ rfl; have f1 := hSw.1.cell 1 _ rfl; have f2 := hSw.1.cell 2 _ rfl; have f3 := hSw.1.cell 3 _ rfl; have f4 := hSw.2.1.cell 2 _ rfl; have f5 := hSw.2.1.cell 3 _ rfl; have f6 := hSw.2.2.1; have f7 := hSw.2.2.2; go_simp; (try with_reducible rfl)))
    (try simp only [pS])
    refine tZ 15 ?_ (hy := by (intro w' hSw; (try dsimp only at hSw); have f0 := hSw.1.cell 0 _ rfl; have f1 := hSw.1.cell 1 _ rfl; have f2 := hSw.1.cell 2 _ rfl; have f3 := hSw.1.cell 3 _ rfl; have f4 := hSw.2.1.cell 2 _ rfl; have f5 := hSw.2.1.cell 3 _ rfl; have f6 := hSw.2.2.1; have f7 := hSw.2.2.2; go_simp; (try with_reducible rfl)))
    (try simp only [pS])
    refine tZ 16 ?_ (hy := by (intro w' hSw; (try dsimp only at hSw); have f0 := hSw.1.cell 0 _ rfl; have f1 := hSw.1.cell 1 _ rfl; have f2 := hSw.1.cell 2 _ rfl; have f3 := hSw.1.cell 3 _ rfl; have f4 := hSw.2.1.cell 2 _ rfl; have f5 := hSw.2.1.cell 3 _ rfl; have f6 := hSw.2.2.1; have f7 := hSw.2.2.2; go_simp; (try with_reducible rfl)))
    (try simp only [pS])
    have RES_0 := RES.cell 0 _ rfl
    have RES_1 := RES.cell 1 _ rfl
    have RES_2 := RES.cell 2 _ rfl
    have RES_3 := RES.cell 3 _ rfl
    have RP_0 := RP.cell 0 _ rfl
    have RP_1 := RP.cell 1 _ rfl
    have RP_2 := RP.cell 2 _ rfl
    have RP_3 := RP.cell 3 _ rfl
    have rf := RES.free
    have pf := RP.free
    have hm1 := Lib.hid (show ∀ x, x ∈ [w.heap.size + 1] → x = w.heap.size + 1 from fun x hx => by simpa using hx)
    have hm2' := Lib.hid (show ∀ x, x ∈ [w.heap.size + 1 + 1] → x = w.heap.size + 1 + 1 from fun x hx => by simpa using hx)
    have hCa := Chg.cells4 w8d (w.heap.size + 1) 0 1 2 3 (.int .i64 Zk.now) (.int .i64 Zk.seq) (.slice (some ⟨g, o, none⟩) 4 e1) (.slice (some ⟨gr, orr, none⟩) m2 e2)
    refine rC 17 (fun K_ hK => ?_)
    go_simp
    have hS1 := hCa.size
    have RES2 := DBox.row4 RES rfl (.int .i64 Zk.now) (.int .i64 Zk.seq) (.slice (some ⟨g, o, none⟩) 4 e1) (.slice (some ⟨gr, orr, none⟩) m2 e2)
    have RP2 := RP.chg hCa (fun hx => by have := hm1.out _ hx; omega)
    replace oy8 : yardD.ow _ F8 ⟨Zk.now, Zk.seq, Zk.shelf.set home rest, Zk.runs.set j (startR r t Zk.now)⟩ (⟨some ⟨g, o, none⟩, 4, e1⟩, ⟨some ⟨gr, orr, none⟩, m2, e2⟩) := yardD.ow_chg (F := F8) (x := ⟨Zk.now, Zk.seq, Zk.shelf.set home rest, Zk.runs.set j (startR r t Zk.now)⟩) (s := (⟨some ⟨g, o, none⟩, 4, e1⟩, ⟨some ⟨gr, orr, none⟩, m2, e2⟩)) oy8 hCa (fun x hx hx2 => by have h1 := hm1.out _ hx2; subst h1; exact en1 hx)
    replace hb2 := hb2.trans (hCa.below (by have := hb2.size; omega) (fun x hx => by have := hm1.out _ hx; omega))
    refine hK.out _ _ ⟨hHeld.1.chg hCa (fun hx => by have := hm1.out _ hx; omega), hHeld.2.1.chg hCa (fun hx => by have := hm1.out _ hx; omega), (hCa.cell (p := ⟨gr, _, none⟩) (by show gr < w8d.heap.size; omega) (fun hx => by have : gr = w.heap.size + 1 := hm1.out _ hx; omega)).trans hHeld.2.2.1, (hCa.cell (p := ⟨gt, _, none⟩) (by show gt < w8d.heap.size; omega) (fun hx => by have : gt = w.heap.size + 1 := hm1.out _ hx; omega)).trans hHeld.2.2.2⟩ (fun hHeld => ?_)
    clear hK K_ rf pf RES_0 RES_1 RES_2 RES_3 RP_0 RP_1 RP_2 RP_3 hCa
    (try simp only [pS])
    generalize (((w8d.setCell ⟨w.heap.size + 1, 0, none⟩ (.int .i64 Zk.now)).setCell ⟨w.heap.size + 1, 1, none⟩ (.int .i64 Zk.seq)).setCell ⟨w.heap.size + 1, 2, none⟩ (.slice (some ⟨g, o, none⟩) 4 e1)).setCell ⟨w.heap.size + 1, 3, none⟩ (.slice (some ⟨gr, orr, none⟩) m2 e2) = w9 at *
    have RP_0 := RP2.cell 0 _ rfl
    have RP_1 := RP2.cell 1 _ rfl
    have RP_2 := RP2.cell 2 _ rfl
    have RP_3 := RP2.cell 3 _ rfl
    have pf := RP2.free
    have hCb := Chg.cells4 w9 (w.heap.size + 1 + 1) 0 1 2 3 (.int .i64 0) (.int .i64 rn) (.int .i64 (t : Int)) (.int .i64 (r.tasks[t].try_ + 1))
    refine rC 18 (fun K_ hK => ?_)
    go_simp
    refine hK.out _ _ ⟨hHeld.1.chg hCb (fun hx => by have := hm2'.out _ hx; omega), hHeld.2.1.chg hCb (fun hx => by have := hm2'.out _ hx; omega), (hCb.cell (p := ⟨gr, _, none⟩) (by show gr < w9.heap.size; have := hS1; omega) (fun hx => by have : gr = w.heap.size + 1 + 1 := hm2'.out _ hx; omega)).trans hHeld.2.2.1, (hCb.cell (p := ⟨gt, _, none⟩) (by show gt < w9.heap.size; have := hS1; omega) (fun hx => by have : gt = w.heap.size + 1 + 1 := hm2'.out _ hx; omega)).trans hHeld.2.2.2⟩ (fun hHeld => ?_)
    clear hK K_ hHeld
    (try simp only [pS])
    refine wpAnyH_done (by kernel_rfl) ?_ _
    refine NoPanic.normal ?_
    have RES3 := RES2.chg hCb (fun hx => by have := hm2'.out _ hx; omega)
    have RP3 := DBox.row4 RP2 rfl (.int .i64 0) (.int .i64 rn) (.int .i64 (t : Int)) (.int .i64 (r.tasks[t].try_ + 1))
    replace oy8 : yardD.ow _ F8 ⟨Zk.now, Zk.seq, Zk.shelf.set home rest, Zk.runs.set j (startR r t Zk.now)⟩ (⟨some ⟨g, o, none⟩, 4, e1⟩, ⟨some ⟨gr, orr, none⟩, m2, e2⟩) := yardD.ow_chg (F := F8) (x := ⟨Zk.now, Zk.seq, Zk.shelf.set home rest, Zk.runs.set j (startR r t Zk.now)⟩) (s := (⟨some ⟨g, o, none⟩, 4, e1⟩, ⟨some ⟨gr, orr, none⟩, m2, e2⟩)) oy8 hCb (fun x hx hx2 => by have h1 := hm2'.out _ hx2; subst h1; exact en2 hx)
    replace hb2 := hb2.trans (hCb.below (by have := hb2.size; omega) (fun x hx => by have := hm2'.out _ hx; omega))
    clear RP_0 RP_1 RP_2 RP_3 pf
    go_wp2
    exact bodyPost_ret (Poll_res RES3 RP3) rfl ⟨(⟨some ⟨g, o, none⟩, 4, e1⟩, ⟨some ⟨gr, orr, none⟩, m2, e2⟩), F8, by rw [HFF.out], by rw [HFF.out]; exact oy8, hF9, hb2⟩
end Go.Proofs.Ytonlnjdempbfoaa
end
section
namespace Go.Proofs.Ytonlnjdempbfoaa
open Go.RowKit
set_option maxRecDepth 100000
set_option maxHeartbeats 2000000
set_option linter.unusedVariables false
set_option linter.unusedSimpArgs false
theorem RunNew_res {b : Nat} {w : World} {u0 u1 u2 u3 u4 u5 u6 u7 v5 : Value} (X : DBox b [u0, u1, u2, u3, u4, u5, u6, u7] w) {v0 v1 v2 v3 : Value} {rest : List Value} :
  (results Try.f65 (v0 :: v1 :: v2 :: v3 :: .pointer (some ⟨b, 0, none⟩) :: v5 :: rest).toArray).run Try.prog w = .ok (.tuple #[.agg #[u0, u1, u2, u3, u4, u5, u6, u7], v5]) w := by
 have c0 := X.cell 0 _ rfl
 have c1 := X.cell 1 _ rfl
 have c2 := X.cell 2 _ rfl
 have c3 := X.cell 3 _ rfl
 have c4 := X.cell 4 _ rfl
 have c5 := X.cell 5 _ rfl
 have c6 := X.cell 6 _ rfl
 have c7 := X.cell 7 _ rfl
 simp [results, Try.results65, go_sem, c0, c1, c2, c3, c4, c5, c6, c7]
theorem range_map_succ {α : Type} (f : Nat → α) (k : Nat) : (List.range (k + 1)).map f = (List.range k).map f ++ [f k] := by rw [List.range_succ, List.map_append]; rfl
/-- a run of the call's own, and that it is one -/
def NewPost (r : Run) (w : World) (e : Ending) (w' : World) : Prop :=
 ∃ s F, e = .returned (.tuple #[runW r s, .bool true]) ∧ runD.ow w' F r s ∧ (∀ b ∈ F, w.heap.size ≤ b) ∧ Below w.heap.size w w'
theorem specRunNew_own (id : Int) (p : Plan) (s : Sl) (w : World) (hid : inB id 1 9999 = true) (hf : planFault p = 0) (h : planD.rd w w.heap.size p s) :
  Calls Try.prog 65 #[.int .i64 id, planW p s] w (NewPost (newRun id p) w) := by
 have hF0 := planFault_zero.1 hf
 have hT := manyOk_tasks hF0.1
 have hE := manyOk_edges hF0.1
 obtain ⟨A, n, c⟩ := s
 obtain rfl : n = p.edges.length := RdL.at1 (s := ⟨A, n, c⟩) h
 have hEd := Lib.hid (fun W (hW : Below w.heap.size w W) => ((edge_rd h).below hW).more hW.size)
 have CP := Lib.hid (fun W (hW : Below w.heap.size w W) => specCopyPlan_own p ⟨A, p.edges.length, c⟩ W (by unfold cntPlan; rw [cntL_zero (cnt := cntEdge) (fun _ => rfl)]; omega) (planD.rd_more (planD.rd_below h hW) hW.size))
 have CF := Lib.hid (fun W (hW : Below w.heap.size w W) => specPlanFault_any p (.slice A p.edges.length c) W (by omega) (hEd.out W hW))
 have CB := Lib.hid (fun W (hW : Below w.heap.size w W) t => specBefore_any p (.slice A p.edges.length c) t W hF0.1 hF0.2.1 hF0.2.2.1 (hEd.out W hW))
 rw [hf] at CF
 obtain ⟨i0, hi0, hz0, hz1, hz2⟩ := info_parts tskE_info
 clear h hF0 hE hf
 have X := (DBox.new 35 [.int .i64 p.prio, .int .i64 p.most, .int .i64 p.wait, .int .i64 p.tasks, .slice A p.edges.length c] w (b := w.heap.size) rfl).below ((Below.refl _ _).alloc (Nat.le_refl _) (.cells #[.int .i64 0, .int .i64 0, .int .i64 0, .int .i64 0, .int .i64 0, .slice none 0 0, .int .i64 0, .slice none 0 0] 98))
 have RES := DBox.new 98 [.int .i64 0, .int .i64 0, .int .i64 0, .int .i64 0, .int .i64 0, .slice none 0 0, .int .i64 0, .slice none 0 0] (w.alloc (.cells #[.int .i64 p.prio, .int .i64 p.most, .int .i64 p.wait, .int .i64 p.tasks, .slice A p.edges.length c] 35)) (b := w.heap.size + 1) (by simp)
 have B0 : Below w.heap.size w ((w.alloc (.cells #[.int .i64 p.prio, .int .i64 p.most, .int .i64 p.wait, .int .i64 p.tasks, .slice A p.edges.length c] 35)).alloc (.cells #[.int .i64 0, .int .i64 0, .int .i64 0, .int .i64 0, .int .i64 0, .slice none 0 0, .int .i64 0, .slice none 0 0] 98)) := by repeat (first | exact Below.refl _ _ | refine Below.alloc ?_ (by simp <;> omega) _)
 go_enter Try.func65, Try.ntmps65
 go_wp2_with (go_at_call 30; refine (l01In_any _ _ _ _).mono ?_; rintro e w9 ⟨rfl, rfl⟩; rw [hid])
 generalize ((w.alloc (.cells #[.int .i64 p.prio, .int .i64 p.most, .int .i64 p.wait, .int .i64 p.tasks, .slice A p.edges.length c] 35)).alloc (.cells #[.int .i64 0, .int .i64 0, .int .i64 0, .int .i64 0, .int .i64 0, .slice none 0 0, .int .i64 0, .slice none 0 0] 98)) = W at *
 refine (CF.out _ B0).mono ?_
 rintro e1 w1 ⟨rfl, b1⟩
 have hRl := RES.lt
 replace X := X.below b1
 replace RES := RES.below b1
 obtain ⟨X_0, X_1, X_2, X_3, X_4, X_l⟩ := X.g5
 have B1 := bnext B0 b1
 have hs1 := b1.size
 clear B0 b1
 go_wp2_with fail
 refine (CP.out _ B1).mono ?_
 rintro e1 w2 ⟨⟨A3, n3, c3⟩, F, rfl, op, nF, b2⟩
 clear X_0 X_1 X_2 X_3 X_4 X_l
 replace X := X.below b2
 replace RES := RES.below b2
 have B2 := bnext B1 b2
 have hs2 := b2.size
 have hFl := planD.ow_lt op
 clear B1 b2 CP CF
 obtain ⟨X_0, X_1, X_2, X_3, X_4, X_l⟩ := X.g5
 go_upto_region 4 with fail
 have RB := DBox.new 98 [.int .i64 id, .int .i64 p.prio, .int .i64 p.most, .int .i64 p.wait, .int .i64 p.tasks, .slice A3 n3 c3, .int .i64 1, .slice none 0 0] w2 (b := w2.heap.size) rfl
 have b3 : Below w2.heap.size w2 (w2.alloc (.cells #[.int .i64 id, .int .i64 p.prio, .int .i64 p.most, .int .i64 p.wait, .int .i64 p.tasks, .slice A3 n3 c3, .int .i64 1, .slice none 0 0] 98)) := (Below.refl _ _).alloc (Nat.le_refl _) _
 clear X_0 X_1 X_2 X_3 X_4 X_l
 replace X := X.below b3
 replace RES := RES.below b3
 replace op := planD.ow_below op b3
 have B3 := bnext B2 b3
 have hs3 := b3.size
 have hRB := RB.lt
 generalize w2.alloc (.cells #[.int .i64 id, .int .i64 p.prio, .int .i64 p.most, .int .i64 p.wait, .int .i64 p.tasks, .slice A3 n3 c3, .int .i64 1, .slice none 0 0] 98) = w3 at *
 generalize hrb : w2.heap.size = rb at *
 have hFn : ∀ x ∈ F, w.heap.size + 1 < x ∧ x < rb := fun x hx => ⟨by have := nF x hx; omega, hFl x hx⟩
 clear hFl nF B2 b3
 obtain ⟨T, hT1⟩ : ∃ T : Nat, p.tasks = T := ⟨p.tasks.toNat, by omega⟩
 have hTT := Lib.hid hT1
 have hTn := Lib.hid (show p.tasks.toNat = T by omega)
 have hT12 : T ≤ 12 := by omega
 clear hT1
 have hH : Hid (newRun id p = ⟨id, p, 1, (List.range T).map (newTask p)⟩) := by
  show newRun id p = _
  unfold newRun
  rw [hTn.out]
 go_wp2
 go_loopw [7] (fun i wr => ∃ (k : Nat) (vt : Value), k ≤ T ∧ i = .int .i64 k ∧ Hid (Ow tskE 100 wr (rb + 1) vt ((List.range k).map (newTask p))) ∧ DBox w.heap.size [.int .i64 p.prio, .int .i64 p.most, .int .i64 p.wait, .int .i64 p.tasks, .slice A p.edges.length c] wr ∧ DBox (w.heap.size + 1) [.int .i64 0, .int .i64 0, .int .i64 0, .int .i64 0, .int .i64 0, .slice none 0 0, .int .i64 0, .slice none 0 0] wr ∧ DBox rb [.int .i64 id, .int .i64 p.prio, .int .i64 p.most, .int .i64 p.wait, .int .i64 p.tasks, .slice A3 n3 c3, .int .i64 1, vt] wr ∧ Hid (planD.ow wr F p ⟨A3, n3, c3⟩) ∧ Below w.heap.size w wr ∧ rb < wr.heap.size) (fun i _ => T - (intOf i).toNat)
 case atStart => exact ⟨0, _, Nat.zero_le _, rfl, Ow.nil tskE 100 w3 (rb + 1), X, RES, RB, op, B3, hRB⟩
 case round =>
  clear X RES RB op B3
  obtain ⟨k, vt, hk, rfl, ho, X, RES, RB, op, hb, hrl⟩ := hrel
  obtain ⟨X_0, X_1, X_2, X_3, X_4, X_l⟩ := X.g5
  obtain ⟨RB_0, RB_1, RB_2, RB_3, RB_4, RB_5, RB_6, RB_7, RB_l⟩ := RB.g8
  by_cases hlt : k < T
  ·have hltI : (k : Int) < p.tasks := by have := hTT.out; omega
   have hS := Lib.hid (range_map_succ (newTask p) k)
   go_wp2_with fail
   refine (CB.out _ hb k).mono ?_
   rintro e1 w4 ⟨vb, rfl, ob, b4⟩
   obtain ⟨A9, c9, rfl, -⟩ := _root_.id (Rd.of_own ob)
   have hnl : (beforeL (esOf p) p.tasks.toNat k).length ≤ 12 := by have h1 := beforeL_len (esOf p) p.tasks.toNat k; have h2 := hTn.out; omega
   have hN : Hid (newTask p k = ⟨if (beforeL (esOf p) p.tasks.toNat k).length = 0 then 2 else 1, (beforeL (esOf p) p.tasks.toNat k).length, 0, 0⟩) := rfl
   have hnk := Lib.hid (show ((List.range k).map (newTask p)).length ≤ 3000000 by simp; omega)
   generalize (beforeL (esOf p) p.tasks.toNat k).length = N at *
   clear X_0 X_1 X_2 X_3 X_4 X_l
   clear RB_0 RB_1 RB_2 RB_3 RB_4 RB_5 RB_6 RB_7 RB_l
   have hb4s := b4.size
   have hbw := hb.size
   replace X := X.below b4
   replace RES := RES.below b4
   replace RB := RB.below b4
   replace op := planD.ow_below op.out b4
   have ho4 := ho.out.below b4
   have hb4 := bnext hb b4
   clear ho b4 ob hb
   obtain ⟨RB_0, RB_1, RB_2, RB_3, RB_4, RB_5, RB_6, RB_7, RB_l⟩ := RB.g8
   have rbf := RB.free
   by_cases hz : N = 0
   ·subst hz
    have hN2 : Hid (newTask p k = ⟨2, 0, 0, 0⟩) := by rw [if_pos rfl] at hN; exact hN
    clear hN
    have b5 : Below w4.heap.size w4 (w4.alloc (.cells #[.int .i64 2, .int .i64 0, .int .i64 0, .int .i64 0] 100)) := (Below.refl _ _).alloc (Nat.le_refl _) _
    have XB := DBox.new 100 [.int .i64 2, .int .i64 0, .int .i64 0, .int .i64 0] w4 (b := w4.heap.size) rfl
    go_upto_region 10 with fail
    clear RB_0 RB_1 RB_2 RB_3 RB_4 RB_5 RB_6 RB_7 RB_l
    clear rbf
    replace X := X.below b5
    replace RES := RES.below b5
    replace RB := RB.below b5
    replace op := planD.ow_below op b5
    replace ho4 := ho4.below b5
    replace hb4 := bnext hb4 b5
    have hb5s := b5.size
    clear b5
    generalize w4.alloc (.cells #[.int .i64 2, .int .i64 0, .int .i64 0, .int .i64 0] 100) = w5 at *
    obtain ⟨RB_0, RB_1, RB_2, RB_3, RB_4, RB_5, RB_6, RB_7, RB_l⟩ := RB.g8
    obtain ⟨XB_0, XB_1, XB_2, XB_3, XB_l⟩ := XB.g4
    have rbf := RB.free
    have ha : Hid (∀ w : World, Below w.heap.size w (w.alloc (.cells #[.int .i64 2, .int .i64 0, .int .i64 0, .int .i64 0] 100))) := fun w => (Below.refl _ _).alloc (Nat.le_refl _) _
    have HL : Hid (((List.range k).map (newTask p)).length = k) := by
     show ((List.range k).map (newTask p)).length = k
     simp
    go_wp2_with (at_builtin; refine wpList_push_all _ tskE (by decide) rfl (.tmp 38) (.tmp 40) rfl Try.underlying96 hi0 hz0 hz1 hz2 rfl (base := rb + 1) (l := (List.range k).map (newTask p)) rfl (ho4.below (ha.out w5)) rfl (Rd.one tskE _ _ ⟨2, 0, 0, 0⟩ rfl rfl 1 (Nat.le_refl _) (Nat.lt_succ_self _)) hnk.out (by simp) (by decide) (by simp; omega) ?_; intro v5 w6 o6 g6 _; obtain ⟨⟨va, vn, vc⟩, rfl⟩ : ∃ s : Sl, v5 = .slice s.a s.n s.c := (by obtain ⟨A7, c7, rfl, _⟩ := Rd.of_own o6; exact ⟨⟨A7, _, c7⟩, rfl⟩); have RB6 := (RB.below (ha.out w5)).off g6 (fun e => by have := ho4.within _ e.symm; omega); have q7 := RB6.cell 7 _ rfl; have qf := RB6.free; have ql := RB6.lt)
    have hbb : Below w.heap.size w w6 := (bnext hb4 (ha.out w5)).grown g6 (bnext hb4 (ha.out w5)).size (fun g hg => by have := ho4.within _ hg; omega)
    have X6 := (X.below (ha.out w5)).off g6 (fun e => by have := ho4.within _ e.symm; omega)
    have RES6 := (RES.below (ha.out w5)).off g6 (fun e => by have := ho4.within _ e.symm; omega)
    have op6 := (planD.ow_keep (planD.ow_below op (ha.out w5)) g6.size (fun b hbF => g6.block b (planD.ow_lt (planD.ow_below op (ha.out w5)) b hbF) (fun e => by have h1 := ho4.within _ e.symm; have h2 := hFn b hbF; omega)))
    have hfin : Ow tskE 100 (w6.setCell ⟨rb, 7, none⟩ (.slice va vn vc)) (rb + 1) (.slice va vn vc) ((List.range (k + 1)).map (newTask p)) := by
     rw [hS.out, hN2.out]
     exact o6.setOther (fun e => by have h1 : rb + 1 ≤ rb := (o6.within _ e).1; omega) _
    exact ⟨⟨k + 1, _, by omega, by go_num, hfin, X6.setOther (by show w.heap.size ≠ rb; omega) _, RES6.setOther (by show w.heap.size + 1 ≠ rb; omega) _, RB6.set 7 (by simp) _, planD.ow_set op6 (a := ⟨rb, 7, none⟩) (fun hx => by have h1 : w.heap.size + 1 < rb ∧ rb < rb := hFn _ hx; omega) _, hbb.setCell (by show w.heap.size ≤ rb; omega) _, by simp [World.setCell]; omega⟩, by simp [intOf]; omega⟩
   ·have hN2 : Hid (newTask p k = ⟨1, N, 0, 0⟩) := by rw [if_neg hz] at hN; exact hN
    have hNI : (0 : Int) < (N : Int) := by omega
    clear hN hz
    have b5 : Below w4.heap.size w4 (w4.alloc (.cells #[.int .i64 1, .int .i64 (N : Int), .int .i64 0, .int .i64 0] 100)) := (Below.refl _ _).alloc (Nat.le_refl _) _
    have XB := DBox.new 100 [.int .i64 1, .int .i64 (N : Int), .int .i64 0, .int .i64 0] w4 (b := w4.heap.size) rfl
    go_upto_region 10 with fail
    clear RB_0 RB_1 RB_2 RB_3 RB_4 RB_5 RB_6 RB_7 RB_l
    clear rbf
    replace X := X.below b5
    replace RES := RES.below b5
    replace RB := RB.below b5
    replace op := planD.ow_below op b5
    replace ho4 := ho4.below b5
    replace hb4 := bnext hb4 b5
    have hb5s := b5.size
    clear b5
    generalize w4.alloc (.cells #[.int .i64 1, .int .i64 (N : Int), .int .i64 0, .int .i64 0] 100) = w5 at *
    obtain ⟨RB_0, RB_1, RB_2, RB_3, RB_4, RB_5, RB_6, RB_7, RB_l⟩ := RB.g8
    obtain ⟨XB_0, XB_1, XB_2, XB_3, XB_l⟩ := XB.g4
    have rbf := RB.free
    have ha : Hid (∀ w : World, Below w.heap.size w (w.alloc (.cells #[.int .i64 1, .int .i64 (N : Int), .int .i64 0, .int .i64 0] 100))) := fun w => (Below.refl _ _).alloc (Nat.le_refl _) _
    have HL : Hid (((List.range k).map (newTask p)).length = k) := by
     show ((List.range k).map (newTask p)).length = k
     simp
    go_wp2_with (at_builtin; refine wpList_push_all _ tskE (by decide) rfl (.tmp 38) (.tmp 40) rfl Try.underlying96 hi0 hz0 hz1 hz2 rfl (base := rb + 1) (l := (List.range k).map (newTask p)) rfl (ho4.below (ha.out w5)) rfl (Rd.one tskE _ _ ⟨1, (N : Int), 0, 0⟩ rfl rfl 1 (Nat.le_refl _) (Nat.lt_succ_self _)) hnk.out (by simp) (by decide) (by simp; omega) ?_; intro v5 w6 o6 g6 _; obtain ⟨⟨va, vn, vc⟩, rfl⟩ : ∃ s : Sl, v5 = .slice s.a s.n s.c := (by obtain ⟨A7, c7, rfl, _⟩ := Rd.of_own o6; exact ⟨⟨A7, _, c7⟩, rfl⟩); have RB6 := (RB.below (ha.out w5)).off g6 (fun e => by have := ho4.within _ e.symm; omega); have q7 := RB6.cell 7 _ rfl; have qf := RB6.free; have ql := RB6.lt)
    have hbb : Below w.heap.size w w6 := (bnext hb4 (ha.out w5)).grown g6 (bnext hb4 (ha.out w5)).size (fun g hg => by have := ho4.within _ hg; omega)
    have X6 := (X.below (ha.out w5)).off g6 (fun e => by have := ho4.within _ e.symm; omega)
    have RES6 := (RES.below (ha.out w5)).off g6 (fun e => by have := ho4.within _ e.symm; omega)
    have op6 := (planD.ow_keep (planD.ow_below op (ha.out w5)) g6.size (fun b hbF => g6.block b (planD.ow_lt (planD.ow_below op (ha.out w5)) b hbF) (fun e => by have h1 := ho4.within _ e.symm; have h2 := hFn b hbF; omega)))
    have hfin : Ow tskE 100 (w6.setCell ⟨rb, 7, none⟩ (.slice va vn vc)) (rb + 1) (.slice va vn vc) ((List.range (k + 1)).map (newTask p)) := by
     rw [hS.out, hN2.out]
     exact o6.setOther (fun e => by have h1 : rb + 1 ≤ rb := (o6.within _ e).1; omega) _
    exact ⟨⟨k + 1, _, by omega, by go_num, hfin, X6.setOther (by show w.heap.size ≠ rb; omega) _, RES6.setOther (by show w.heap.size + 1 ≠ rb; omega) _, RB6.set 7 (by simp) _, planD.ow_set op6 (a := ⟨rb, 7, none⟩) (fun hx => by have h1 : w.heap.size + 1 < rb ∧ rb < rb := hFn _ hx; omega) _, hbb.setCell (by show w.heap.size ≤ rb; omega) _, by simp [World.setCell]; omega⟩, by simp [intOf]; omega⟩
  ·have hltI : ¬ (k : Int) < p.tasks := by have := hTT.out; omega
   have hkT : k = T := by omega
   subst hkT
   have rf := RES.free
   have RES_0 := RES.cell 0 _ rfl
   have RES_1 := RES.cell 1 _ rfl
   have RES_2 := RES.cell 2 _ rfl
   have RES_3 := RES.cell 3 _ rfl
   have RES_4 := RES.cell 4 _ rfl
   have RES_5 := RES.cell 5 _ rfl
   have RES_6 := RES.cell 6 _ rfl
   have RES_7 := RES.cell 7 _ rfl
   have ho1 := ho.out
   obtain ⟨⟨ta, tn, tc⟩, Ft, rfl, ot, nt⟩ := task_ow ho1
   go_wp2
   have e1 : w.heap.size + 1 ∉ F := fun hx => by have := hFn _ hx; omega
   have e2 : w.heap.size + 1 ∉ Ft := fun hx => by have := nt _ hx; omega
   refine bodyPost_ret (RunNew_res (DBox.row8 RES rfl _ _ _ _ _ _ _ _)) rfl ⟨(⟨A3, n3, c3⟩, ⟨ta, tn, tc⟩), F ++ Ft, by rw [hH.out], ⟨F, Ft, rfl, ?_, ?_, ?_⟩, ?_, ?_⟩
   ·rw [List.nodup_append]
    refine ⟨planD.ow_nodup op.out, ot.nodup, fun u hu u' hu' e => ?_⟩
    have := hFn u hu
    have := nt u' hu'
    omega
   ·rw [hH.out]
    show planD.ow _ F p _
    exact (by (repeat (refine Dt.ow_set planD ?_ e1 _)); exact op.out)
   ·rw [hH.out]
    show OwL taskD _ Ft _ ((List.range k).map (newTask p))
    exact ((((((((ot.set (a := ⟨w.heap.size + 1, _, none⟩) e2 _).set (a := ⟨w.heap.size + 1, _, none⟩) e2 _).set (a := ⟨w.heap.size + 1, _, none⟩) e2 _).set (a := ⟨w.heap.size + 1, _, none⟩) e2 _).set (a := ⟨w.heap.size + 1, _, none⟩) e2 _).set (a := ⟨w.heap.size + 1, _, none⟩) e2 _).set (a := ⟨w.heap.size + 1, _, none⟩) e2 _).set (a := ⟨w.heap.size + 1, _, none⟩) e2 _)
   ·intro x hx
    rcases List.mem_append.1 hx with hx | hx
    ·have := hFn x hx; omega
    ·have := nt x hx; have := hs1; omega
   ·repeat (first | (with_reducible exact hb) | refine Below.setCell ?_ (by simp <;> omega) _)
end Go.Proofs.Ytonlnjdempbfoaa
end
