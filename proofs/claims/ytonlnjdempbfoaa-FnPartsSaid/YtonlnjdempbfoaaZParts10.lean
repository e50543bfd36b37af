/-
  A task that runs is drawn (l13Held). Submit of the reference. Written by program (kx.py). Cancel of the reference. Written by program (ky.py). LateOf of the reference. Written by program (kz.py).
-/
import Derived.Test.YtonlnjdempbfoaaZParts9
section
namespace Go.Proofs.Ytonlnjdempbfoaa
open Go.RowKit
set_option maxRecDepth 100000
set_option maxHeartbeats 4000000
set_option linter.unusedVariables false
set_option linter.unusedSimpArgs false
/-- what is drawn where nothing that runs was taken -/
def heldNone (code : List UInt8) (c : Cur) : (Int × Int × Int) × Cur :=
 let a := curBelow code 5 c
 let b := curBelow code 6 a.2
 let d := curBelow code 4 b.2
 ((1 + a.1, b.1 - 1, d.1), d.2)
/-- a task that runs, of a run that was taken -/
def heldOf (code : List UInt8) (r : Run) (c : Cur) : (Int × Int × Int) × Cur :=
 let L := tasksIn r.tasks 3
 let a := curBelow code L.length c
 let t := L.getD a.1.toNat 0
 let ty := (taskAt r t).try_
 let o := curOnce code 8 a.2
 if o.1 = true then
  let f := curBelow code 2 o.2
  ((r.id, (t : Int), wrap64 (wrap64 (ty - 1) + wrap64 (2 * f.1))), f.2)
 else ((r.id, (t : Int), ty), o.2)
def heldGo (code : List UInt8) : List Run → Cur → (Int × Int × Int) × Cur
 | [], c => heldNone code c
 | r :: rs, c =>
  if (tasksIn r.tasks 3).length = 0 then heldGo code rs c
  else if (curOnce code 5 c).1 = true then heldGo code rs (curOnce code 5 c).2
  else heldOf code r (curOnce code 5 c).2
theorem heldGo_zero {code : List UInt8} {r : Run} {rs : List Run} {c : Cur} (h : (tasksIn r.tasks 3).length = 0) : heldGo code (r :: rs) c = heldGo code rs c := by rw [heldGo, if_pos h]
theorem heldGo_next {code : List UInt8} {r : Run} {rs : List Run} {c : Cur} (h : ¬ (tasksIn r.tasks 3).length = 0) (o : (curOnce code 5 c).1 = true) : heldGo code (r :: rs) c = heldGo code rs (curOnce code 5 c).2 := by rw [heldGo, if_neg h, if_pos o]
theorem heldGo_here {code : List UInt8} {r : Run} {rs : List Run} {c : Cur} (h : ¬ (tasksIn r.tasks 3).length = 0) (o : (curOnce code 5 c).1 = false) : heldGo code (r :: rs) c = heldOf code r (curOnce code 5 c).2 := by rw [heldGo, if_neg h, if_neg (by rw [o]; simp)]
theorem tasksIn_lt {l : List Task} {s : Int} : ∀ x ∈ tasksIn l s, x < l.length := fun x hx => by
 unfold tasksIn tasksUpto at hx
 exact List.mem_range.1 (List.mem_filter.1 hx).1
theorem held_any (b : Nat) (v : Value) (code : List UInt8) (c : Cur) (y : Yard) (s : Sl × Sl) (F : List Nat) (w : World) (hl : cntYard y ≤ 2000000) (h : Drw b v code c w) (hy : yardD.ow w F y s) (hbF : b ∉ F) :
  Calls Try.prog 42 #[.pointer (some ⟨b, 0, none⟩), yardW y s] w (DrP b v code (.tuple #[.int .i64 (heldGo code y.runs c).1.1, .int .i64 (heldGo code y.runs c).1.2.1, .int .i64 (heldGo code y.runs c).1.2.2]) (heldGo code y.runs c).2 w) := by
 obtain ⟨⟨A1, n1, c1⟩, ⟨A2, n2, c2⟩⟩ := s
 obtain rfl : n2 = y.runs.length := RdL.at1 (s := ⟨A2, n2, c2⟩) (yardD.ow_rd (F := F) (x := y) hy).2
 have hrl : y.runs.length ≤ 2000000 := Nat.le_trans (cntL_len cntRun _) (by unfold cntYard at hl; omega)
 have hcr := Lib.hid (show ∀ k (hk : k < y.runs.length), y.runs[k].tasks.length ≤ 2000000 from fun k hk => cnt_run_tasks hl hk)
 have hb := h.box.lt
 clear hl
 have C0 := (Chg.refl [b] w).alloc (.cells #[.int .i64 y.now, .int .i64 y.seq, .slice A1 n1 c1, .slice A2 y.runs.length c2] 61)
 have X := DBox.new 61 [.int .i64 y.now, .int .i64 y.seq, .slice A1 n1 c1, .slice A2 y.runs.length c2] w rfl
 have b0 : Below w.heap.size w (w.alloc (.cells #[.int .i64 y.now, .int .i64 y.seq, .slice A1 n1 c1, .slice A2 y.runs.length c2] 61)) := (Below.refl _ _).alloc (Nat.le_refl _) _
 replace h := h.below b0
 replace hy : yardD.ow _ F y (⟨A1, n1, c1⟩, ⟨A2, y.runs.length, c2⟩) := yardD.ow_below (F := F) (x := y) (s := (⟨A1, n1, c1⟩, ⟨A2, y.runs.length, c2⟩)) hy b0
 go_enter Try.func42, Try.ntmps42
 go_wp2
 generalize (w.alloc (.cells #[.int .i64 y.now, .int .i64 y.seq, .slice A1 n1 c1, .slice A2 y.runs.length c2] 61)) = w0 at *
 clear b0
 go_loopw [7, 8, 9, 10] (fun iv u1 u2 u3 wr => ∃ (i : Nat) (c' : Cur), i ≤ y.runs.length ∧ iv = .int .i64 i ∧ Hid (heldGo code y.runs c = heldGo code (y.runs.drop i) c') ∧ Drw b v code c' wr ∧ Hid (yardD.ow wr F y (⟨A1, n1, c1⟩, ⟨A2, y.runs.length, c2⟩)) ∧ DBox w.heap.size [.int .i64 y.now, .int .i64 y.seq, .slice A1 n1 c1, .slice A2 y.runs.length c2] wr ∧ Chg [b] w wr) (fun i _ _ _ _ => y.runs.length - (intOf i).toNat)
 case atStart => exact ⟨0, c, Nat.zero_le _, rfl, rfl, h, hy, X, C0⟩
 case round =>
  clear h hy X C0
  obtain ⟨i, c', hi, rfl, hG, h, hy, X, hc⟩ := hrel
  obtain ⟨X_0, X_1, X_2, X_3, X_l⟩ := X.g4
  have hwr := hc.size
  by_cases hlt : i < y.runs.length
  ·have hltI : (i : Int) < (y.runs.length : Int) := by omega
   have hi0 : (0 : Int) ≤ (i : Int) := by omega
   have hD := Lib.hid (List.drop_eq_getElem_cons hlt)
   have hti := hcr.out i hlt
   obtain ⟨gr, orr, sk, rfl, hgrw, hrk, k0, k1, k2, k3, k4, k5, k6, k7⟩ := RdL.run (show RdL runD wr wr.heap.size (.slice A2 y.runs.length c2) y.runs from (yardD.ow_rd (F := F) (x := y) hy.out).2) hlt
   have CT := Lib.hid (specTasksIn_any y.runs[i] sk 3 wr hti hrk)
   go_wp2_with fail
   refine CT.out.mono ?_
   rintro e1 w1 ⟨vt, rfl, ot, b1⟩
   clear CT k0 k1 k2 k3 k4 k5 k6 k7 hrk
   obtain ⟨hwt, hwB⟩ := Hw.of_ow ot
   obtain ⟨A9, c9, rfl, -⟩ := _root_.id (Rd.of_own ot)
   replace h := h.below b1
   replace hy : Hid (yardD.ow w1 F y (⟨A1, n1, c1⟩, ⟨some ⟨gr, orr, none⟩, y.runs.length, c2⟩)) := yardD.ow_below (F := F) (x := y) (s := (⟨A1, n1, c1⟩, ⟨some ⟨gr, orr, none⟩, y.runs.length, c2⟩)) hy.out b1
   clear X_0 X_1 X_2 X_3 X_l
   replace X := X.below b1
   obtain ⟨X_0, X_1, X_2, X_3, X_l⟩ := X.g4
   have hc1 := hc.trans (Chg.of_below [b] b1)
   have hs1 := b1.size
   have hLl := Lib.hid (show ∀ x ∈ tasksIn y.runs[i].tasks 3, x < y.runs[i].tasks.length from tasksIn_lt)
   have hLn : (tasksIn y.runs[i].tasks 3).length ≤ 2000000 := by have := tasksUpto_le y.runs[i].tasks 3 y.runs[i].tasks.length; unfold tasksIn; omega
   have hO : Hid (∀ c, heldOf code y.runs[i] c = heldOf code y.runs[i] c) := fun _ => rfl
   have Z0 := Lib.hid (fun (hz : (tasksIn y.runs[i].tasks 3).length = 0) => hG.out.trans ((congrArg (fun l => heldGo code l c') hD.out).trans (heldGo_zero (code := code) (r := y.runs[i]) (rs := y.runs.drop (i + 1)) (c := c') hz)))
   have Z1 := Lib.hid (fun (hz : ¬ (tasksIn y.runs[i].tasks 3).length = 0) (ho : (curOnce code 5 c').1 = true) => hG.out.trans ((congrArg (fun l => heldGo code l c') hD.out).trans (heldGo_next (code := code) (r := y.runs[i]) (rs := y.runs.drop (i + 1)) (c := c') hz ho)))
   have Z2 := Lib.hid (fun (hz : ¬ (tasksIn y.runs[i].tasks 3).length = 0) (ho : (curOnce code 5 c').1 = false) => hG.out.trans ((congrArg (fun l => heldGo code l c') hD.out).trans (heldGo_here (code := code) (r := y.runs[i]) (rs := y.runs.drop (i + 1)) (c := c') hz ho)))
   have hbn : ∀ x ∈ blocks (.slice A9 (tasksIn y.runs[i].tasks 3).length c9) (tasksIn y.runs[i].tasks 3).length, x ≠ b := fun x hx => by have h1 := hwB x hx; have h2 : b < w.heap.size := hb; omega
   by_cases q0 : (tasksIn y.runs[i].tasks 3).length = 0
   ·have S := Lib.hid (Z0.out q0)
    have qI : ¬ (0 : Int) < ((tasksIn y.runs[i].tasks 3).length : Int) := by omega
    clear q0 Z0 Z1 Z2 hG
    go_wp2
    exact ⟨⟨i + 1, c', by omega, by go_num, S, h, hy, X, hc1⟩, by simp [intOf]; omega⟩
   replace hbn := Lib.hid hbn
   have hbm := Lib.hid (show ∀ x, x ∈ [b] → x = b from fun x hx => by simpa using hx)
   have qI : (0 : Int) < ((tasksIn y.runs[i].tasks 3).length : Int) := by omega
   replace Z1 := Lib.hid (Z1.out q0)
   replace Z2 := Lib.hid (Z2.out q0)
   have q0h := Lib.hid q0
   clear Z0 hG q0
   go_wp2_with fail
   refine (once_any 5 b _ code c' w1 (by decide) h).mono ?_
   rintro e2 w2 ⟨rfl, h2, cc2⟩
   replace hy : Hid (yardD.ow w2 F y (⟨A1, n1, c1⟩, ⟨some ⟨gr, orr, none⟩, y.runs.length, c2⟩)) := yardD.ow_chg (F := F) (x := y) (s := (⟨A1, n1, c1⟩, ⟨some ⟨gr, orr, none⟩, y.runs.length, c2⟩)) hy.out cc2 (fun x hx hx2 => by have h1 := hbm.out x hx2; subst h1; exact hbF hx)
   replace hwt := hwt.chg cc2 (fun x hx hx2 => hbn.out x hx (hbm.out x hx2))
   clear X_0 X_1 X_2 X_3 X_l
   replace X := X.chg cc2 (fun hx => by have h1 := hbm.out _ hx; omega)
   obtain ⟨X_0, X_1, X_2, X_3, X_l⟩ := X.g4
   replace hc1 := hc1.trans cc2
   cases o5 : (curOnce code 5 c').1
   case true =>
    have S := Lib.hid (Z1.out o5)
    clear Z1 Z2
    go_wp2
    exact ⟨⟨i + 1, (curOnce code 5 c').2, by omega, by go_num, S, h2, hy, X, hc1⟩, by simp [intOf]; omega⟩
   have S := Lib.hid (Z2.out o5)
   clear Z1 Z2
   generalize (curOnce code 5 c').2 = cb at *
   go_wp2_with fail
   refine (below_any ((tasksIn y.runs[i].tasks 3).length : Int) b _ code cb w2 (by omega) h2).mono ?_
   rintro e3 w3 ⟨rfl, h3, cc3⟩
   replace hy : Hid (yardD.ow w3 F y (⟨A1, n1, c1⟩, ⟨some ⟨gr, orr, none⟩, y.runs.length, c2⟩)) := yardD.ow_chg (F := F) (x := y) (s := (⟨A1, n1, c1⟩, ⟨some ⟨gr, orr, none⟩, y.runs.length, c2⟩)) hy.out cc3 (fun x hx hx2 => by have h1 := hbm.out x hx2; subst h1; exact hbF hx)
   replace hwt := hwt.chg cc3 (fun x hx hx2 => hbn.out x hx (hbm.out x hx2))
   clear X_0 X_1 X_2 X_3 X_l
   replace X := X.chg cc3 (fun hx => by have h1 := hbm.out _ hx; omega)
   obtain ⟨X_0, X_1, X_2, X_3, X_l⟩ := X.g4
   replace hc1 := hc1.trans cc3
   have hbd := curBelow_bd code (n := ((tasksIn y.runs[i].tasks 3).length : Int)) cb (by omega)
   obtain ⟨an, ha⟩ : ∃ an : Nat, (curBelow code ((tasksIn y.runs[i].tasks 3).length : Int) cb).1 = an := ⟨(curBelow code ((tasksIn y.runs[i].tasks 3).length : Int) cb).1.toNat, by omega⟩
   have hal : an < (tasksIn y.runs[i].tasks 3).length := by omega
   have hxl := hLl.out _ (List.getElem_mem hal)
   have HO : Hid (heldOf code y.runs[i] cb = if (curOnce code 8 (curBelow code ((tasksIn y.runs[i].tasks 3).length : Int) cb).2).1 = true then ((y.runs[i].id, ((tasksIn y.runs[i].tasks 3)[an] : Int), wrap64 (wrap64 (y.runs[i].tasks[(tasksIn y.runs[i].tasks 3)[an]].try_ - 1) + wrap64 (2 * (curBelow code 2 (curOnce code 8 (curBelow code ((tasksIn y.runs[i].tasks 3).length : Int) cb).2).2).1))), (curBelow code 2 (curOnce code 8 (curBelow code ((tasksIn y.runs[i].tasks 3).length : Int) cb).2).2).2) else ((y.runs[i].id, ((tasksIn y.runs[i].tasks 3)[an] : Int), y.runs[i].tasks[(tasksIn y.runs[i].tasks 3)[an]].try_), (curOnce code 8 (curBelow code ((tasksIn y.runs[i].tasks 3).length : Int) cb).2).2)) := by
    show heldOf code y.runs[i] cb = _
    unfold heldOf
    dsimp only
    rw [ha, Int.toNat_natCast, List.getD_eq_getElem?_getD, List.getElem?_eq_getElem hal, Option.getD_some, taskAt_get hxl]
   rw [ha]
   clear ha hbd
   generalize (curBelow code ((tasksIn y.runs[i].tasks 3).length : Int) cb).2 = cd at *
   obtain ⟨bt, obt, rfl, hbt, t0⟩ := hwt.rd.nat hal
   obtain ⟨_, _, ⟨sk1, ⟨tka, tkn, tkc⟩⟩, hA9, hgrw, hrk, k0, k1, k2, k3, k4, k5, k6, k7⟩ := RdL.run (show RdL runD w3 w3.heap.size (.slice (some ⟨gr, orr, none⟩) y.runs.length c2) y.runs from (yardD.ow_rd (F := F) (x := y) (s := (⟨A1, n1, c1⟩, ⟨some ⟨gr, orr, none⟩, y.runs.length, c2⟩)) hy.out).2) hlt
   simp only [Option.some.injEq, Addr.mk.injEq, and_true] at hA9
   obtain ⟨rfl, rfl⟩ := hA9
   have htkn : tkn = y.runs[i].tasks.length := RdL.at1 (s := ⟨tka, tkn, tkc⟩) hrk.2
   obtain ⟨gt, ogt, _, rfl, hgt, _, d0, d1, d2, d3⟩ := RdL.task (show RdL taskD w3 w3.heap.size (.slice tka tkn tkc) y.runs[i].tasks from hrk.2) hxl
   have halI : (an : Int) < ((tasksIn y.runs[i].tasks 3).length : Int) := by omega
   have ha0 : (0 : Int) ≤ (an : Int) := by omega
   have hxI : ((tasksIn y.runs[i].tasks 3)[an] : Int) < (tkn : Int) := by omega
   have hx0 : (0 : Int) ≤ ((tasksIn y.runs[i].tasks 3)[an] : Int) := by omega
   generalize y.runs[i].tasks[(tasksIn y.runs[i].tasks 3)[an]] = xt at *
   generalize (tasksIn y.runs[i].tasks 3)[an] = x at *
   replace htkn := Lib.hid htkn
   clear d0 d1 d3 hrk k0 k1 k2 k3 k4 k5 k6
   go_wp2_with fail
   refine (once_any 8 b _ code cd w3 (by decide) h3).mono ?_
   rintro e4 w4 ⟨rfl, h4, cc4⟩
   clear t0 d2 k7
   replace hy : Hid (yardD.ow w4 F y (⟨A1, n1, c1⟩, ⟨some ⟨gr, orr, none⟩, y.runs.length, c2⟩)) := yardD.ow_chg (F := F) (x := y) (s := (⟨A1, n1, c1⟩, ⟨some ⟨gr, orr, none⟩, y.runs.length, c2⟩)) hy.out cc4 (fun x hx hx2 => by have h1 := hbm.out x hx2; subst h1; exact hbF hx)
   clear X_0 X_1 X_2 X_3 X_l
   replace X := X.chg cc4 (fun hx => by have h1 := hbm.out _ hx; omega)
   obtain ⟨X_0, X_1, X_2, X_3, X_l⟩ := X.g4
   replace hc1 := hc1.trans cc4
   obtain ⟨_, _, ⟨sk1, ⟨tka, tkn, tkc⟩⟩, hA9, hgrw, hrk, k0, k1, k2, k3, k4, k5, k6, k7⟩ := RdL.run (show RdL runD w4 w4.heap.size (.slice (some ⟨gr, orr, none⟩) y.runs.length c2) y.runs from (yardD.ow_rd (F := F) (x := y) (s := (⟨A1, n1, c1⟩, ⟨some ⟨gr, orr, none⟩, y.runs.length, c2⟩)) hy.out).2) hlt
   simp only [Option.some.injEq, Addr.mk.injEq, and_true] at hA9
   obtain ⟨rfl, rfl⟩ := hA9
   clear k1 k2 k3 k4 k5 k6 k7 hrk
   cases o8 : (curOnce code 8 cd).1
   case false =>
    have Sf := Lib.hid (S.out.trans (HO.out.trans (if_neg (by rw [o8]; simp))))
    go_wp2
    refine bodyPost_ret (v := .tuple #[.int .i64 y.runs[i].id, .int .i64 (x : Int), .int .i64 xt.try_]) (by simp [results, Try.results42, go_sem]) rfl ?_
    exact ⟨by rw [Sf.out], by rw [Sf.out]; exact h4, hc1⟩
   have Sf := Lib.hid (S.out.trans (HO.out.trans (if_pos o8)))
   clear S HO k0
   go_wp2_with fail
   refine (below_any 2 b _ code _ w4 (by decide) h4).mono ?_
   rintro e5 w5 ⟨rfl, h5, cc5⟩
   replace hy : Hid (yardD.ow w5 F y (⟨A1, n1, c1⟩, ⟨some ⟨gr, orr, none⟩, y.runs.length, c2⟩)) := yardD.ow_chg (F := F) (x := y) (s := (⟨A1, n1, c1⟩, ⟨some ⟨gr, orr, none⟩, y.runs.length, c2⟩)) hy.out cc5 (fun x hx hx2 => by have h1 := hbm.out x hx2; subst h1; exact hbF hx)
   clear X_0 X_1 X_2 X_3 X_l
   replace X := X.chg cc5 (fun hx => by have h1 := hbm.out _ hx; omega)
   obtain ⟨X_0, X_1, X_2, X_3, X_l⟩ := X.g4
   replace hc1 := hc1.trans cc5
   obtain ⟨_, _, ⟨sk1, ⟨tka, tkn, tkc⟩⟩, hA9, hgrw, hrk, k0, k1, k2, k3, k4, k5, k6, k7⟩ := RdL.run (show RdL runD w5 w5.heap.size (.slice (some ⟨gr, orr, none⟩) y.runs.length c2) y.runs from (yardD.ow_rd (F := F) (x := y) (s := (⟨A1, n1, c1⟩, ⟨some ⟨gr, orr, none⟩, y.runs.length, c2⟩)) hy.out).2) hlt
   simp only [Option.some.injEq, Addr.mk.injEq, and_true] at hA9
   obtain ⟨rfl, rfl⟩ := hA9
   clear k1 k2 k3 k4 k5 k6 k7 hrk
   go_wp2
   refine bodyPost_ret (v := .tuple #[.int .i64 y.runs[i].id, .int .i64 (x : Int), .int .i64 (wrap64 (wrap64 (xt.try_ - 1) + wrap64 (2 * (curBelow code 2 (curOnce code 8 cd).2).1)))]) (by simp [results, Try.results42, go_sem]) rfl ?_
   exact ⟨by rw [Sf.out], by rw [Sf.out]; exact h5, hc1⟩
  ·have hltI : ¬ (i : Int) < (y.runs.length : Int) := by omega
   have S := Lib.hid (show heldGo code y.runs c = heldNone code c' by rw [hG.out, List.drop_eq_nil_of_le (by omega), heldGo])
   have b5 := curBelow_bd code (n := 5) c' (by decide)
   have b6 := curBelow_bd code (n := 6) (curBelow code 5 c').2 (by decide)
   have wr1 : IntKind.i64.wrap (1 + (curBelow code 5 c').1) = 1 + (curBelow code 5 c').1 := IntWalk.i64_in _ (by omega)
   have wr2 : IntKind.i64.wrap ((curBelow code 6 (curBelow code 5 c').2).1 - 1) = (curBelow code 6 (curBelow code 5 c').2).1 - 1 := IntWalk.i64_in _ (by omega)
   clear b5 b6
   go_wp2_with fail
   refine (below_any 5 b _ code c' wr (by decide) h).mono ?_
   rintro e2 w2 ⟨rfl, h2, cc2⟩
   go_wp2_with fail
   refine (below_any 6 b _ code _ w2 (by decide) h2).mono ?_
   rintro e3 w3 ⟨rfl, h3, cc3⟩
   go_wp2_with fail
   refine (below_any 4 b _ code _ w3 (by decide) h3).mono ?_
   rintro e4 w4 ⟨rfl, h4, cc4⟩
   go_wp2
   refine bodyPost_ret (v := .tuple #[.int .i64 (1 + (curBelow code 5 c').1), .int .i64 ((curBelow code 6 (curBelow code 5 c').2).1 - 1), .int .i64 (curBelow code 4 (curBelow code 6 (curBelow code 5 c').2).2).1]) (by simp [results, Try.results42, go_sem]) rfl ?_
   exact ⟨by rw [S.out]; rfl, by rw [S.out]; exact h4, ((hc.trans cc2).trans cc3).trans cc4⟩
end Go.Proofs.Ytonlnjdempbfoaa
end
section
namespace Go.Proofs.Ytonlnjdempbfoaa
open Go.RowKit
set_option maxRecDepth 100000
set_option maxHeartbeats 4000000
set_option linter.unusedVariables false
set_option linter.unusedSimpArgs false
open Classical in
noncomputable def subC (y : Yard) (id : Int) (p : Plan) : Int :=
 if ¬ yardP y then 8 else if inB id 1 9999 = false then 5 else if 0 ≤ runAt y id then 6 else if ¬ planFault p = 0 then planFault p else if roomB y p = false then 7 else 0
noncomputable def subY (y : Yard) (id : Int) (p : Plan) : Yard := if subC y id p = 0 then layY ⟨y.now, y.seq, y.shelf, y.runs ++ [newRun id p]⟩ zeroRun (newRun id p) else y
theorem Submit_res {b : Nat} {w : World} {u0 u1 u2 u3 : Value} (X : DBox b [u0, u1, u2, u3] w) {v0 v1 v2 v3 v4 v5 v7 : Value} {rest : List Value} :
  (results Try.f47 (v0 :: v1 :: v2 :: v3 :: v4 :: v5 :: .pointer (some ⟨b, 0, none⟩) :: v7 :: rest).toArray).run Try.prog w = .ok (.tuple #[.agg #[u0, u1, u2, u3], v7]) w := by
 have c0 := X.cell 0 _ rfl
 have c1 := X.cell 1 _ rfl
 have c2 := X.cell 2 _ rfl
 have c3 := X.cell 3 _ rfl
 simp [results, Try.results47, go_sem, c0, c1, c2, c3]
theorem rdl_nil {α : Type} (d : Dt α) (w : World) (B c : Nat) : RdL d w B (.slice none 0 c) [] := ⟨[], rfl, Rd.nil _ _ _ _, fun _ h => by cases h⟩
/-- a slice of data that the call builds, with what its elements own -/
def BldG {α : Type} (d : Dt α) (E : TypeId) (w : World) (base : Nat) (v : Value) (rs : List (α × d.S)) (G : List Nat) : Prop :=
 Ow d.enc E w base v rs ∧ Ows d w G rs ∧ G.Nodup ∧ ∀ b ∈ G, base ≤ b ∧ v.ownBlock ≠ some b
theorem BldG.below {α : Type} {d : Dt α} {E : TypeId} {w w' : World} {base : Nat} {v : Value} {rs : List (α × d.S)} {G : List Nat} (h : BldG d E w base v rs G) (hb : Below w.heap.size w w') : BldG d E w' base v rs G :=
 ⟨h.1.below hb, h.2.1.bel hb, h.2.2.1, h.2.2.2⟩
theorem BldG.push1 {α : Type} {d : Dt α} {E : TypeId} {w w1 w2 w5 : World} {base : Nat} {v v5 : Value} {rs : List (α × d.S)} {G : List Nat} {x : α} {s : d.S} {F : List Nat} (h : BldG d E w base v rs G) (hb : Below w.heap.size w w1) (o1 : d.ow w1 F x s) (n1 : ∀ b ∈ F, w.heap.size ≤ b)
  (hbase : base ≤ w.heap.size) (hb2 : Below w1.heap.size w1 w2) (o5 : Ow d.enc E w5 base v5 (rs ++ [(x, s)])) (g5 : w2.grownBy w5 v.ownBlock) (f5 : v5.ownBlock = v.ownBlock ∨ v5.ownBlock = some w2.heap.size) : BldG d E w5 base v5 (rs ++ [(x, s)]) (G ++ F) := by
 obtain ⟨h1, h2, h3, h4⟩ := h
 have hG : ∀ b ∈ G, b < w.heap.size := h2.lt
 have hFl : ∀ b ∈ F, b < w1.heap.size := d.ow_lt o1
 have hvF : ∀ b ∈ F, v.ownBlock ≠ some b := fun b hb he => by
  have h5 := (h1.within b he).2
  have h6 := n1 b hb
  omega
 have hs := hb.size
 have hs2 := hb2.size
 have ht : Ows d w2 F [(x, s)] := Ows.one (r := (x, s)) (d.ow_below o1 hb2)
 refine ⟨o5, ?_, ?_, ?_⟩
 ·refine Ows.append ((h2.bel (bnext hb hb2)).keep g5.size fun b hbG => g5.block b (by have := hG b hbG; omega) ?_) (ht.keep g5.size fun b hbF => g5.block b (by have := hFl b hbF; omega) ?_)
  ·exact fun e => (h4 b hbG).2 e.symm
  ·exact fun e => hvF b hbF e.symm
 ·rw [List.nodup_append]
  refine ⟨h3, d.ow_nodup o1, fun a ha b hb' e => ?_⟩
  have := hG a ha
  have := n1 b hb'
  omega
 ·intro b hbm
  rcases List.mem_append.1 hbm with hbm | hbm
  ·refine ⟨(h4 b hbm).1, ?_⟩
   rcases f5 with hv | hv
   ·rw [hv]; exact (h4 b hbm).2
   ·rw [hv]
    intro e
    have := hG b hbm
    injection e with e
    omega
  ·refine ⟨by have := n1 b hbm; omega, ?_⟩
   rcases f5 with hv | hv
   ·rw [hv]; exact hvF b hbm
   ·rw [hv]
    intro e
    have := hFl b hbm
    injection e with e
    omega
theorem BldG.owl {α : Type} {d : Dt α} {E : TypeId} {w : World} {base : Nat} {v : Value} {rs : List (α × d.S)} {G : List Nat} (h : BldG d E w base v rs G) {l : List α} (hl : rs.map (·.1) = l) : OwL d w (blocks v rs.length ++ G) v l := by
 obtain ⟨h1, h2, h3, h4⟩ := h
 obtain ⟨h5, h6⟩ := Hw.of_ow h1
 refine ⟨rs, _, G, hl, h5, h2, rfl, ?_⟩
 rw [List.nodup_append]
 refine ⟨blocks_nodup _ _, h3, fun a ha b hb e => ?_⟩
 subst e
 exact (h4 a hb).2 (blocks_sub _ _ _ ha)
theorem specSubmit_own (y : Yard) (s : Sl × Sl) (id : Int) (p : Plan) (sp : Sl) (w : World) (hl : cntYard y ≤ 2000000) (hp : p.edges.length ≤ 2000000) (h : yardD.rd w w.heap.size y s) (hpr : planD.rd w w.heap.size p sp) :
  Calls Try.prog 47 #[yardW y s, .int .i64 id, planW p sp] w (CodePost (subY y id p) (subC y id p) w) := by
 have HR := Lib.hid (show ∀ W, Below w.heap.size w W → yardD.rd W W.heap.size y s from fun W hW => yardD.rd_more (yardD.rd_below h hW) hW.size)
 obtain ⟨⟨A1, n1, c1⟩, ⟨A2, n2, c2⟩⟩ := s
 obtain ⟨A3, n3, c3⟩ := sp
 obtain rfl : n3 = p.edges.length := RdL.at1 (s := ⟨A3, n3, c3⟩) hpr
 have CC := Lib.hid (fun W hW => specCopyYard_bls y (⟨A1, n1, c1⟩, ⟨A2, n2, c2⟩) W hl (HR.out W hW))
 have CY := Lib.hid (fun W hW => specYardOk_any y (⟨A1, n1, c1⟩, ⟨A2, n2, c2⟩) W hl (HR.out W hW))
 have CA := Lib.hid (fun W hW => specRunAt_own y (⟨A1, n1, c1⟩, ⟨A2, n2, c2⟩) id W hl (HR.out W hW))
 have CF := Lib.hid (fun W (hW : Below w.heap.size w W) => specPlanFault_any p (.slice A3 p.edges.length c3) W hp (((edge_rd hpr).below hW).more hW.size))
 have CR := Lib.hid (fun W hW hS hq => specRoom_any y (⟨A1, n1, c1⟩, ⟨A2, n2, c2⟩) p (.slice A3 p.edges.length c3) W hl hS hq (HR.out W hW))
 have CN := Lib.hid (fun W (hW : Below w.heap.size w W) hid hf => specRunNew_own id p ⟨A3, p.edges.length, c3⟩ W hid hf (planD.rd_more (planD.rd_below hpr hW) hW.size))
 obtain ⟨j0, hj0, jz0, jz1, jz2⟩ := info_parts run_infoD
 clear h hpr HR
 have X := ((DBox.new 61 [.int .i64 y.now, .int .i64 y.seq, .slice A1 n1 c1, .slice A2 n2 c2] w (b := w.heap.size) rfl).below ((Below.refl _ _).alloc (Nat.le_refl _) (.cells #[.int .i64 p.prio, .int .i64 p.most, .int .i64 p.wait, .int .i64 p.tasks, .slice A3 p.edges.length c3] 35))).below ((Below.refl _ _).alloc (Nat.le_refl _) (.cells #[.int .i64 0, .int .i64 0, .slice none 0 0, .slice none 0 0] 61))
 have P := (DBox.new 35 [.int .i64 p.prio, .int .i64 p.most, .int .i64 p.wait, .int .i64 p.tasks, .slice A3 p.edges.length c3] (w.alloc (.cells #[.int .i64 y.now, .int .i64 y.seq, .slice A1 n1 c1, .slice A2 n2 c2] 61)) (b := w.heap.size + 1) (by simp)).below ((Below.refl _ _).alloc (Nat.le_refl _) (.cells #[.int .i64 0, .int .i64 0, .slice none 0 0, .slice none 0 0] 61))
 have RES := DBox.new 61 [.int .i64 0, .int .i64 0, .slice none 0 0, .slice none 0 0] ((w.alloc (.cells #[.int .i64 y.now, .int .i64 y.seq, .slice A1 n1 c1, .slice A2 n2 c2] 61)).alloc (.cells #[.int .i64 p.prio, .int .i64 p.most, .int .i64 p.wait, .int .i64 p.tasks, .slice A3 p.edges.length c3] 35)) (b := w.heap.size + 1 + 1) (by simp)
 have B0 : Below w.heap.size w (((w.alloc (.cells #[.int .i64 y.now, .int .i64 y.seq, .slice A1 n1 c1, .slice A2 n2 c2] 61)).alloc (.cells #[.int .i64 p.prio, .int .i64 p.most, .int .i64 p.wait, .int .i64 p.tasks, .slice A3 p.edges.length c3] 35)).alloc (.cells #[.int .i64 0, .int .i64 0, .slice none 0 0, .slice none 0 0] 61)) := by repeat (first | exact Below.refl _ _ | refine Below.alloc ?_ (by simp <;> omega) _)
 go_enter Try.func47, Try.ntmps47
 go_wp2_with fail
 generalize (((w.alloc (.cells #[.int .i64 y.now, .int .i64 y.seq, .slice A1 n1 c1, .slice A2 n2 c2] 61)).alloc (.cells #[.int .i64 p.prio, .int .i64 p.most, .int .i64 p.wait, .int .i64 p.tasks, .slice A3 p.edges.length c3] 35)).alloc (.cells #[.int .i64 0, .int .i64 0, .slice none 0 0, .slice none 0 0] 61)) = W at *
 have hRl : w.heap.size + 1 + 1 < W.heap.size := RES.lt
 refine (CC.out _ B0).mono ?_
 rintro e1 w1 ⟨⟨B1, m1, e1⟩, ⟨B2, m2, e2⟩, F1, base, rfl, oS, hF1, hbase, hbs, oR, b1⟩
 have hs1 := b1.size
 replace X := X.below b1
 replace P := P.below b1
 replace RES := RES.below b1
 replace B0 := bnext B0 b1
 clear b1
 obtain ⟨rs, hm1, G0, oR⟩ := oR
 have hm := Lib.hid hm1
 clear hm1
 replace oR : BldG runD 98 w1 base (.slice B2 m2 e2) rs G0 := oR
 have hG0 := oR.2.1.lt
 have hoB : ∀ g, (Value.slice B2 m2 e2).ownBlock = some g → g ≠ w1.heap.size := fun g hg h => by
  have := (oR.1.within g hg).2
  omega
 obtain ⟨F, oy, nF⟩ : ∃ F, yardD.ow w1 F y (⟨B1, m1, e1⟩, ⟨B2, m2, e2⟩) ∧ ∀ x ∈ F, W.heap.size ≤ x := by
  have hB : Bld runD 98 w1 base (.slice B2 m2 e2) rs := ⟨G0, oR⟩
  replace hm := hm.out
  obtain ⟨F2, h5, h6⟩ := hB.owl hm
  refine ⟨F1 ++ F2, ⟨F1, F2, rfl, ?_, oS, h5⟩, fun b hb => ?_⟩
  ·rw [List.nodup_append]
   refine ⟨oS.nodup, h5.nodup, fun u hu u' hu' e => ?_⟩
   have := hF1 u hu
   have := h6 u' hu'
   omega
  ·rcases List.mem_append.1 hb with hb | hb
   ·exact (hF1 b hb).1
   ·have := h6 b hb; omega
 go_upto_region 2 with fail
 have OB := DBox.new 61 [.int .i64 y.now, .int .i64 y.seq, .slice B1 m1 e1, .slice B2 m2 e2] w1 (b := w1.heap.size) rfl
 have b2 : Below w1.heap.size w1 (w1.alloc (.cells #[.int .i64 y.now, .int .i64 y.seq, .slice B1 m1 e1, .slice B2 m2 e2] 61)) := (Below.refl _ _).alloc (Nat.le_refl _) _
 replace X := X.below b2
 replace P := P.below b2
 replace RES := RES.below b2
 replace oy := yardD.ow_below (F := F) (x := y) (s := (⟨B1, m1, e1⟩, ⟨B2, m2, e2⟩)) oy b2
 replace oS := oS.below b2
 replace oR := oR.below b2
 replace B0 := bnext B0 b2
 have ow1 := OB.lt
 have hbob : base ≤ w1.heap.size := hbs
 replace hbs := Nat.le_trans hbs b2.size
 clear b2
 generalize w1.alloc (.cells #[.int .i64 y.now, .int .i64 y.seq, .slice B1 m1 e1, .slice B2 m2 e2] 61) = w2 at *
 generalize hob : w1.heap.size = ob at *
 obtain ⟨X_0, X_1, X_2, X_3, X_l⟩ := X.g4
 obtain ⟨P_0, P_1, P_2, P_3, P_4, P_l⟩ := P.g5
 obtain ⟨OB_0, OB_1, OB_2, OB_3, OB_l⟩ := OB.g4
 go_wp2_with fail
 refine (CY.out _ B0).mono ?_
 rintro e1 w3 ⟨rfl, b3⟩
 clear X_0 X_1 X_2 X_3 X_l
 clear P_0 P_1 P_2 P_3 P_4 P_l
 clear OB_0 OB_1 OB_2 OB_3 OB_l
 replace X := X.below b3
 replace P := P.below b3
 replace OB := OB.below b3
 replace RES := RES.below b3
 replace oy : yardD.ow w3 F y (⟨B1, m1, e1⟩, ⟨B2, m2, e2⟩) := yardD.ow_below (F := F) (x := y) (s := (⟨B1, m1, e1⟩, ⟨B2, m2, e2⟩)) oy b3
 replace oS := oS.below b3
 replace oR := oR.below b3
 replace B0 := bnext B0 b3
 replace hbs := Nat.le_trans hbs b3.size
 clear b3
 obtain ⟨X_0, X_1, X_2, X_3, X_l⟩ := X.g4
 obtain ⟨P_0, P_1, P_2, P_3, P_4, P_l⟩ := P.g5
 obtain ⟨OB_0, OB_1, OB_2, OB_3, OB_l⟩ := OB.g4
 by_cases p0 : yardP y
 case neg =>
  rw [tf_false p0]
  have H := Lib.hid (show subC y id p = 8 by unfold subC; rw [if_pos p0])
  have H2 := Lib.hid (show subY y id p = y by unfold subY; rw [H.out, if_neg (by decide)])
  obtain ⟨RES_0, RES_1, RES_2, RES_3, RES_l⟩ := RES.g4
  have rf := RES.free
  go_wp2
  have en1 : w.heap.size + 1 + 1 ∉ F := fun hx => by have := nF _ hx; omega
  refine bodyPost_ret (Submit_res (DBox.row4 RES rfl _ _ _ _)) rfl ⟨(⟨B1, m1, e1⟩, ⟨B2, m2, e2⟩), F, by rw [H.out, H2.out], by rw [H2.out]; exact (by (repeat (refine Dt.ow_set yardD ?_ en1 _)); exact (show yardD.ow _ F y (⟨B1, m1, e1⟩, ⟨B2, m2, e2⟩) from oy)), fun x hx => by have := nF x hx; omega, ?_⟩
  repeat (first | (with_reducible exact B0) | refine Below.setCell ?_ (by simp <;> omega) _)
 rw [tf_true p0]
 have h40 := p0.2.2.2.2.2.2.2.2.2
 have hsq := p0.2.1
 have h4 := Lib.hid p0.2.2.1
 have hall := Lib.hid p0.2.2.2.1
 have P0 := Lib.hid p0
 clear p0
 cases p1 : inB id 1 9999
 case false =>
  have H := Lib.hid (show subC y id p = 5 by unfold subC; rw [if_neg (fun h => h P0.out), if_pos p1])
  have H2 := Lib.hid (show subY y id p = y by unfold subY; rw [H.out, if_neg (by decide)])
  obtain ⟨RES_0, RES_1, RES_2, RES_3, RES_l⟩ := RES.g4
  have rf := RES.free
  go_wp2_with (go_at_call 30; refine (l01In_any _ _ _ _).mono ?_; rintro e w9 ⟨rfl, rfl⟩; rw [p1])
  have en1 : w.heap.size + 1 + 1 ∉ F := fun hx => by have := nF _ hx; omega
  refine bodyPost_ret (Submit_res (DBox.row4 RES rfl _ _ _ _)) rfl ⟨(⟨B1, m1, e1⟩, ⟨B2, m2, e2⟩), F, by rw [H.out, H2.out], by rw [H2.out]; exact (by (repeat (refine Dt.ow_set yardD ?_ en1 _)); exact (show yardD.ow _ F y (⟨B1, m1, e1⟩, ⟨B2, m2, e2⟩) from oy)), fun x hx => by have := nF x hx; omega, ?_⟩
  repeat (first | (with_reducible exact B0) | refine Below.setCell ?_ (by simp <;> omega) _)
 have P1 := Lib.hid p1
 go_wp2_with (go_at_call 30; refine (l01In_any _ _ _ _).mono ?_; rintro e w9 ⟨rfl, rfl⟩; rw [p1])
 refine (CA.out _ B0).mono ?_
 rintro e1 w4 ⟨rfl, b4⟩
 clear X_0 X_1 X_2 X_3 X_l
 clear P_0 P_1 P_2 P_3 P_4 P_l
 clear OB_0 OB_1 OB_2 OB_3 OB_l
 replace X := X.below b4
 replace P := P.below b4
 replace OB := OB.below b4
 replace RES := RES.below b4
 replace oy : yardD.ow w4 F y (⟨B1, m1, e1⟩, ⟨B2, m2, e2⟩) := yardD.ow_below (F := F) (x := y) (s := (⟨B1, m1, e1⟩, ⟨B2, m2, e2⟩)) oy b4
 replace oS := oS.below b4
 replace oR := oR.below b4
 replace B0 := bnext B0 b4
 replace hbs := Nat.le_trans hbs b4.size
 clear b4
 obtain ⟨X_0, X_1, X_2, X_3, X_l⟩ := X.g4
 obtain ⟨P_0, P_1, P_2, P_3, P_4, P_l⟩ := P.g5
 obtain ⟨OB_0, OB_1, OB_2, OB_3, OB_l⟩ := OB.g4
 by_cases p2 : 0 ≤ runAt y id
 case pos =>
  have H := Lib.hid (show subC y id p = 6 by unfold subC; rw [if_neg (fun h => h P0.out), if_neg (by rw [P1.out]; simp), if_pos p2])
  have H2 := Lib.hid (show subY y id p = y by unfold subY; rw [H.out, if_neg (by decide)])
  obtain ⟨RES_0, RES_1, RES_2, RES_3, RES_l⟩ := RES.g4
  have rf := RES.free
  go_wp2
  have en1 : w.heap.size + 1 + 1 ∉ F := fun hx => by have := nF _ hx; omega
  refine bodyPost_ret (Submit_res (DBox.row4 RES rfl _ _ _ _)) rfl ⟨(⟨B1, m1, e1⟩, ⟨B2, m2, e2⟩), F, by rw [H.out, H2.out], by rw [H2.out]; exact (by (repeat (refine Dt.ow_set yardD ?_ en1 _)); exact (show yardD.ow _ F y (⟨B1, m1, e1⟩, ⟨B2, m2, e2⟩) from oy)), fun x hx => by have := nF x hx; omega, ?_⟩
  repeat (first | (with_reducible exact B0) | refine Below.setCell ?_ (by simp <;> omega) _)
 have P2 := Lib.hid p2
 go_wp2_with fail
 refine (CF.out _ B0).mono ?_
 rintro e1 w5 ⟨rfl, b5⟩
 clear p1 p2
 clear X_0 X_1 X_2 X_3 X_l
 clear P_0 P_1 P_2 P_3 P_4 P_l
 clear OB_0 OB_1 OB_2 OB_3 OB_l
 replace X := X.below b5
 replace P := P.below b5
 replace OB := OB.below b5
 replace RES := RES.below b5
 replace oy : yardD.ow w5 F y (⟨B1, m1, e1⟩, ⟨B2, m2, e2⟩) := yardD.ow_below (F := F) (x := y) (s := (⟨B1, m1, e1⟩, ⟨B2, m2, e2⟩)) oy b5
 replace oS := oS.below b5
 replace oR := oR.below b5
 replace B0 := bnext B0 b5
 replace hbs := Nat.le_trans hbs b5.size
 clear b5
 obtain ⟨X_0, X_1, X_2, X_3, X_l⟩ := X.g4
 obtain ⟨P_0, P_1, P_2, P_3, P_4, P_l⟩ := P.g5
 obtain ⟨OB_0, OB_1, OB_2, OB_3, OB_l⟩ := OB.g4
 by_cases p3 : planFault p = 0
 case neg =>
  have q3 : (planFault p != 0) = true := by simp [p3]
  have H := Lib.hid (show subC y id p = planFault p by unfold subC; rw [if_neg (fun h => h P0.out), if_neg (by rw [P1.out]; simp), if_neg (by have := P2.out; omega), if_pos p3])
  have H2 := Lib.hid (show subY y id p = y by unfold subY; rw [H.out, if_neg p3])
  clear p3
  have en1 : w.heap.size + 1 + 1 ∉ F := fun hx => by have := nF _ hx; omega
  obtain ⟨RES_0, RES_1, RES_2, RES_3, RES_l⟩ := RES.g4
  have rf := RES.free
  have hpb : w.heap.size + 1 < w5.heap.size := P.lt
  have hobl : ob < w5.heap.size := OB.lt
  have CF5 := Lib.hid (CF.out _ B0.drew)
  go_wp2
  refine Go.wp_region_noPanic ?_
  refine wp_region_held_drew (S := (fun w' => DBox ob [.int .i64 y.now, .int .i64 y.seq, .slice B1 m1 e1, .slice B2 m2 e2] w' ∧ DBox (w.heap.size + 1) [.int .i64 p.prio, .int .i64 p.most, .int .i64 p.wait, .int .i64 p.tasks, .slice A3 p.edges.length c3] w')) (by kernel_rfl) ⟨DBox.drew4 OB, DBox.drew4 P⟩ (fun hHeld => ?_)
  replace oy : yardD.ow w5.drew F y (⟨B1, m1, e1⟩, ⟨B2, m2, e2⟩) := yardD.ow_below (F := F) (x := y) (s := (⟨B1, m1, e1⟩, ⟨B2, m2, e2⟩)) oy (Below.refl _ _).drew
  clear RES_0 RES_1 RES_2 RES_3 RES_l
  clear rf
  replace RES : DBox _ _ w5.drew := DBox.drew4 RES
  replace B0 := B0.drew
  clear X_0 X_1 X_2 X_3 X_l
  clear P_0 P_1 P_2 P_3 P_4 P_l
  clear OB_0 OB_1 OB_2 OB_3 OB_l
  clear OB X P
  generalize w5.drew = w5d at *
  refine tZ 0 ?_ (hy := by (intro w' hSw; (try dsimp only at hSw); have f0 := hSw.1.cell 0 _ rfl; have f1 := hSw.1.cell 1 _ rfl; have f2 := hSw.1.cell 2 _ rfl; have f3 := hSw.1.cell 3 _ rfl; have g0 := hSw.2.cell 0 _ rfl; have g1 := hSw.2.cell 1 _ rfl; have g2 := hSw.2.cell 2 _ rfl; have g3 := hSw.2.cell 3 _ rfl; have g4 := hSw.2.cell 4 _ rfl; go_simp; (try with_reducible rfl)))
  (try simp only [pS])
  refine tZ 1 ?_ (hy := by (intro w' hSw; (try dsimp only at hSw); have f0 := hSw.1.cell 0 _ rfl; have f1 := hSw.1.cell 1 _ rfl; have f2 := hSw.1.cell 2 _ rfl; have f3 := hSw.1.cell 3 _ rfl; have g0 := hSw.2.cell 0 _ rfl; have g1 := hSw.2.cell 1 _ rfl; have g2 := hSw.2.cell 2 _ rfl; have g3 := hSw.2.cell 3 _ rfl; have g4 := hSw.2.cell 4 _ rfl; go_simp; (try with_reducible rfl)))
  (try simp only [pS])
  refine rC 2 (fun K_ hK => ?_)
  go_simp
  refine CF5.out.mono ?_
  rintro e1 w6 ⟨rfl, b6⟩
  replace oy : yardD.ow w6 F y (⟨B1, m1, e1⟩, ⟨B2, m2, e2⟩) := yardD.ow_below (F := F) (x := y) (s := (⟨B1, m1, e1⟩, ⟨B2, m2, e2⟩)) oy b6
  replace RES := RES.below b6
  replace B0 := bnext B0 b6
  refine hK.out _ _ ⟨hHeld.1.below b6, hHeld.2.below b6⟩ (fun hHeld => ?_)
  clear hK K_
  (try simp only [pS])
  obtain ⟨RES_0, RES_1, RES_2, RES_3, RES_l⟩ := RES.g4
  have rf := RES.free
  refine rC 3 (fun K_ hK => ?_)
  go_simp
  refine hK.out _ _ ⟨(((hHeld.1.setOther (a := ⟨w.heap.size + 1 + 1, 0, none⟩) (by show ob ≠ w.heap.size + 1 + 1; omega) _).setOther (a := ⟨w.heap.size + 1 + 1, 1, none⟩) (by show ob ≠ w.heap.size + 1 + 1; omega) _).setOther (a := ⟨w.heap.size + 1 + 1, 2, none⟩) (by show ob ≠ w.heap.size + 1 + 1; omega) _).setOther (a := ⟨w.heap.size + 1 + 1, 3, none⟩) (by show ob ≠ w.heap.size + 1 + 1; omega) _, (((hHeld.2.setOther (a := ⟨w.heap.size + 1 + 1, 0, none⟩) (by show w.heap.size + 1 ≠ w.heap.size + 1 + 1; omega) _).setOther (a := ⟨w.heap.size + 1 + 1, 1, none⟩) (by show w.heap.size + 1 ≠ w.heap.size + 1 + 1; omega) _).setOther (a := ⟨w.heap.size + 1 + 1, 2, none⟩) (by show w.heap.size + 1 ≠ w.heap.size + 1 + 1; omega) _).setOther (a := ⟨w.heap.size + 1 + 1, 3, none⟩) (by show w.heap.size + 1 ≠ w.heap.size + 1 + 1; omega) _⟩ (fun hHeld => ?_)
  clear hK K_
  (try simp only [pS])
  refine tZ 4 ?_ (hy := by (intro w' hSw; (try dsimp only at hSw); have f0 := hSw.1.cell 0 _ rfl; have f1 := hSw.1.cell 1 _ rfl; have f2 := hSw.1.cell 2 _ rfl; have f3 := hSw.1.cell 3 _ rfl; have g0 := hSw.2.cell 0 _ rfl; have g1 := hSw.2.cell 1 _ rfl; have g2 := hSw.2.cell 2 _ rfl; have g3 := hSw.2.cell 3 _ rfl; have g4 := hSw.2.cell 4 _ rfl; go_simp; (try with_reducible rfl)))
  (try simp only [pS])
  refine wpAnyH_done (by kernel_rfl) ?_ _
  refine NoPanic.normal ?_
  clear hHeld
  clear RES_0 RES_1 RES_2 RES_3 RES_l
  clear rf
  go_wp2
  refine bodyPost_ret (Submit_res (DBox.row4 RES rfl _ _ _ _)) rfl ⟨(⟨B1, m1, e1⟩, ⟨B2, m2, e2⟩), F, by rw [H.out, H2.out], by rw [H2.out]; exact (by (repeat (refine Dt.ow_set yardD ?_ en1 _)); exact (show yardD.ow _ F y (⟨B1, m1, e1⟩, ⟨B2, m2, e2⟩) from oy)), fun x hx => by have := nF x hx; omega, ?_⟩
  repeat (first | (with_reducible exact B0) | refine Below.setCell ?_ (by simp <;> omega) _)
 have q3 : (planFault p != 0) = false := by simp [p3]
 have P3 := Lib.hid p3
 clear p3
 go_wp2_with fail
 refine (CR.out _ B0 h40 (by omega)).mono ?_
 rintro e1 w6 ⟨rfl, b6⟩
 clear X_0 X_1 X_2 X_3 X_l
 clear P_0 P_1 P_2 P_3 P_4 P_l
 clear OB_0 OB_1 OB_2 OB_3 OB_l
 replace X := X.below b6
 replace P := P.below b6
 replace OB := OB.below b6
 replace RES := RES.below b6
 replace oy : yardD.ow w6 F y (⟨B1, m1, e1⟩, ⟨B2, m2, e2⟩) := yardD.ow_below (F := F) (x := y) (s := (⟨B1, m1, e1⟩, ⟨B2, m2, e2⟩)) oy b6
 replace oS := oS.below b6
 replace oR := oR.below b6
 replace B0 := bnext B0 b6
 replace hbs := Nat.le_trans hbs b6.size
 clear b6
 obtain ⟨X_0, X_1, X_2, X_3, X_l⟩ := X.g4
 obtain ⟨P_0, P_1, P_2, P_3, P_4, P_l⟩ := P.g5
 obtain ⟨OB_0, OB_1, OB_2, OB_3, OB_l⟩ := OB.g4
 cases p4 : roomB y p
 case false =>
  have H := Lib.hid (show subC y id p = 7 by unfold subC; rw [if_neg (fun h => h P0.out), if_neg (by rw [P1.out]; simp), if_neg (by have := P2.out; omega), if_neg (fun h => h P3.out), if_pos p4])
  have H2 := Lib.hid (show subY y id p = y by unfold subY; rw [H.out, if_neg (by decide)])
  obtain ⟨RES_0, RES_1, RES_2, RES_3, RES_l⟩ := RES.g4
  have rf := RES.free
  go_wp2
  have en1 : w.heap.size + 1 + 1 ∉ F := fun hx => by have := nF _ hx; omega
  refine bodyPost_ret (Submit_res (DBox.row4 RES rfl _ _ _ _)) rfl ⟨(⟨B1, m1, e1⟩, ⟨B2, m2, e2⟩), F, by rw [H.out, H2.out], by rw [H2.out]; exact (by (repeat (refine Dt.ow_set yardD ?_ en1 _)); exact (show yardD.ow _ F y (⟨B1, m1, e1⟩, ⟨B2, m2, e2⟩) from oy)), fun x hx => by have := nF x hx; omega, ?_⟩
  repeat (first | (with_reducible exact B0) | refine Below.setCell ?_ (by simp <;> omega) _)
 have H := Lib.hid (show subC y id p = 0 by unfold subC; rw [if_neg (fun h => h P0.out), if_neg (by rw [P1.out]; simp), if_neg (by have := P2.out; omega), if_neg (fun h => h P3.out), if_neg (by rw [p4]; simp)])
 have H2 := Lib.hid (show subY y id p = layY ⟨y.now, y.seq, y.shelf, y.runs ++ [newRun id p]⟩ zeroRun (newRun id p) by unfold subY; rw [if_pos H.out])
 have hr8 := Lib.hid (show y.runs.length < 8 by
  unfold roomB at p4
  simp only [Bool.and_eq_true, decide_eq_true_eq] at p4
  exact p4.1)
 clear h40
 go_wp2_with fail
 refine (CN.out _ B0 P1.out P3.out).mono ?_
 rintro e1 w7 ⟨sr, Fr, rfl, orn, nr, b7⟩
 have hnl := Lib.hid (show (newRun id p).tasks.length ≤ 12 by have h1 := newRun_len id p; have h2 := manyOk_tasks (planFault_zero.1 P3.out).1; omega)
 have hs6 := B0.size
 have hobw6 := OB.lt
 have hnr6 : ∀ x ∈ Fr, w6.heap.size ≤ x := nr
 clear nr
 clear X_0 X_1 X_2 X_3 X_l
 clear P_0 P_1 P_2 P_3 P_4 P_l
 clear OB_0 OB_1 OB_2 OB_3 OB_l
 clear X P
 replace OB := OB.below b7
 replace RES := RES.below b7
 replace oS := oS.below b7
 have B7 := bnext B0 b7
 have b7s := b7.size
 have XB := DBox.new 98 [.int .i64 (newRun id p).id, .int .i64 (newRun id p).plan.prio, .int .i64 (newRun id p).plan.most, .int .i64 (newRun id p).plan.wait, .int .i64 (newRun id p).plan.tasks, .slice sr.1.a sr.1.n sr.1.c, .int .i64 (newRun id p).state, .slice sr.2.a sr.2.n sr.2.c] w7 (b := w7.heap.size) rfl
 have b8 : Below w7.heap.size w7 (w7.alloc (.cells #[.int .i64 (newRun id p).id, .int .i64 (newRun id p).plan.prio, .int .i64 (newRun id p).plan.most, .int .i64 (newRun id p).plan.wait, .int .i64 (newRun id p).plan.tasks, .slice sr.1.a sr.1.n sr.1.c, .int .i64 (newRun id p).state, .slice sr.2.a sr.2.n sr.2.c] 98)) := (Below.refl _ _).alloc (Nat.le_refl _) _
 go_upto_region 13 with fail
 replace OB := OB.below b8
 replace RES := RES.below b8
 replace oS := oS.below b8
 replace B7 := bnext B7 b8
 have b78 := bnext b7 b8
 have orn8 := runD.ow_below (F := Fr) (x := newRun id p) (s := sr) orn b8
 have hxl := XB.lt
 generalize w7.alloc (.cells #[.int .i64 (newRun id p).id, .int .i64 (newRun id p).plan.prio, .int .i64 (newRun id p).plan.most, .int .i64 (newRun id p).plan.wait, .int .i64 (newRun id p).plan.tasks, .slice sr.1.a sr.1.n sr.1.c, .int .i64 (newRun id p).state, .slice sr.2.a sr.2.n sr.2.c] 98) = w8 at *
 generalize hxb : w7.heap.size = xb at *
 have hrl := Lib.hid (show rs.length = y.runs.length by have := congrArg List.length hm.out; simpa using this)
 have hrl8 := Lib.hid (show rs.length ≤ 3000000 by have := hr8.out; have := hrl.out; omega)
 have hO := oR.1
 have hO8 := hO.below b78
 obtain ⟨A5_, c5_, hv5, -⟩ := _root_.id (Rd.of_own hO)
 have hv6 := hv5
 simp only [Sl.v, Value.slice.injEq] at hv6
 obtain ⟨rfl, rfl, rfl⟩ := hv6
 clear hv5
 obtain ⟨OB_0, OB_1, OB_2, OB_3, OB_l⟩ := OB.g4
 obtain ⟨XB_0, XB_1, XB_2, XB_3, XB_4, XB_5, XB_6, XB_7, XB_l⟩ := XB.g8
 have obf := OB.free
 have hwi : ∀ g, (Value.slice B2 rs.length e2).ownBlock = some g → base ≤ g ∧ g < w6.heap.size := fun g hg => hO.within _ hg
 have hneo : ∀ g, (Value.slice B2 rs.length e2).ownBlock = some g → g ≠ ob := fun g hg => hoB g hg
 have ha := Lib.hid (show ∀ w : World, Below w.heap.size w (w.alloc (.cells #[.int .i64 (newRun id p).id, .int .i64 (newRun id p).plan.prio, .int .i64 (newRun id p).plan.most, .int .i64 (newRun id p).plan.wait, .int .i64 (newRun id p).plan.tasks, .slice sr.1.a sr.1.n sr.1.c, .int .i64 (newRun id p).state, .slice sr.2.a sr.2.n sr.2.c] 98)) from fun w => (Below.refl _ _).alloc (Nat.le_refl _) _)
 have hwd := Lib.hid hneo
 have hwi2 := Lib.hid hwi
 clear hneo hwi hoB
 have hbx : base ≤ w8.heap.size := by omega
 go_upto_region 14 with (at_builtin; go_loud (refine wpList_push_all _ runD.enc (by decide) rfl (.tmp 49) (.tmp 51) rfl Try.underlying59 hj0 jz0 jz1 jz2 rfl (base := base) (v := .slice B2 rs.length e2) (l := rs) rfl (hO8.below (ha.out w8)) rfl (Rd.one runD.enc _ _ (newRun id p, sr) rfl rfl 1 (Nat.le_refl _) (Nat.lt_succ_self _)) hrl8.out (by simp) (by decide) (by simp; omega) ?_); intro v9 w9 o9 g9 f9; obtain ⟨A9, c9, rfl, -⟩ := _root_.id (Rd.of_own o9); simp only [List.length_append, List.length_singleton] at o9 f9; have OB9 := (OB.below (ha.out w8)).off g9 (fun e => (hwd.out _ e.symm) rfl); have q3 := OB9.cell 3 _ rfl; have qf := OB9.free; have ql := OB9.lt)
 have hP := oR.push1 b78 orn8 hnr6 hbs (ha.out w8) o9 g9 f9
 have hPo := hP.owl (l := y.runs ++ [newRun id p]) (by rw [List.map_append, hm.out]; rfl)
 have g9s := g9.size
 simp only [World.size_alloc] at g9s
 have hBn : ∀ x ∈ blocks (.slice A9 (rs.length + 1) c9) (rs ++ [(newRun id p, sr)]).length ++ (G0 ++ Fr), x ≠ ob ∧ base ≤ x := fun x hx => by
  rcases List.mem_append.1 hx with hx | hx
  ·have h1 := blocks_sub _ _ _ hx
   refine ⟨?_, (o9.within x h1).1⟩
   rcases f9 with h2 | h2
   ·rw [h2] at h1
    exact hwd.out _ h1
   ·rw [h2] at h1
    have := Option.some.inj h1
    simp only [World.size_alloc] at this
    omega
  ·rcases List.mem_append.1 hx with hx | hx
   ·exact ⟨by have := hG0 x hx; omega, (oR.2.2.2 x hx).1⟩
   ·exact ⟨by have := hnr6 x hx; omega, by have := hnr6 x hx; omega⟩
 generalize blocks (.slice A9 (rs.length + 1) c9) (rs ++ [(newRun id p, sr)]).length ++ (G0 ++ Fr) = F2 at *
 have XB9 := (XB.below (ha.out w8)).off g9 (fun e => by have h1 := (hwi2.out _ e.symm).2; omega)
 have RES9 := (RES.below (ha.out w8)).off g9 (fun e => by have h1 : base ≤ w.heap.size + 1 + 1 := (hwi2.out _ e.symm).1; omega)
 have oS9 := (oS.below (ha.out w8)).grown g9 (fun b hb e => by have h1 := (hwi2.out b e).1; have h2 := (hF1 b hb).2; omega)
 have orn9 := runD.ow_keep (runD.ow_below (F := Fr) (x := newRun id p) (s := sr) orn8 (ha.out w8)) g9.size (fun b hbF => g9.block b (runD.ow_lt (F := Fr) (x := newRun id p) (s := sr) (runD.ow_below (F := Fr) (x := newRun id p) (s := sr) orn8 (ha.out w8)) b hbF) (fun e => by have h1 := (hwi2.out _ e.symm).2; have h2 := hnr6 b hbF; omega))
 have B9 : Below w.heap.size w w9 := (bnext B7 (ha.out w8)).grown g9 (bnext B7 (ha.out w8)).size (fun g hg => by have h1 := (hwi2.out g hg).1; omega)
 have hobn : w.heap.size ≤ ob := by omega
 have OB10 : DBox ob [.int .i64 y.now, .int .i64 y.seq, .slice B1 m1 e1, .slice A9 (rs.length + 1) c9] (w9.setCell ⟨ob, 3, none⟩ (.slice A9 (rs.length + 1) c9)) := OB9.set 3 (by simp) _
 have XB10 := XB9.setOther (a := ⟨ob, 3, none⟩) (by show xb ≠ ob; omega) (.slice A9 (rs.length + 1) c9)
 have RES10 := RES9.setOther (a := ⟨ob, 3, none⟩) (by show w.heap.size + 1 + 1 ≠ ob; omega) (.slice A9 (rs.length + 1) c9)
 have oS10 := oS9.set (a := ⟨ob, 3, none⟩) (fun hx => by have h1 : _ ∧ ob < base := hF1 _ hx; omega) (.slice A9 (rs.length + 1) c9)
 have oR10 := hPo.set (a := ⟨ob, 3, none⟩) (fun hx => (hBn _ hx).1 rfl) (.slice A9 (rs.length + 1) c9)
 have orn10 := runD.ow_set (F := Fr) (x := newRun id p) (s := sr) orn9 (a := ⟨ob, 3, none⟩) (fun hx => by have h1 : w6.heap.size ≤ ob := hnr6 _ hx; omega) (.slice A9 (rs.length + 1) c9)
 have B10 : Below w.heap.size w (w9.setCell ⟨ob, 3, none⟩ (.slice A9 (rs.length + 1) c9)) := Below.setCell B9 (by show w.heap.size ≤ ob; omega) _
 clear OB9 XB9 RES9 oS9 orn9 B9 hPo hP XB RES oS B7 OB o9 g9 f9 q3 qf ql orn8 hO hO8 oR obf hwd
 clear OB_0 OB_1 OB_2 OB_3 OB_l
 clear XB_0 XB_1 XB_2 XB_3 XB_4 XB_5 XB_6 XB_7 XB_l
 generalize w9.setCell ⟨ob, 3, none⟩ (.slice A9 (rs.length + 1) c9) = w10 at *
 obtain ⟨OB10_0, OB10_1, OB10_2, OB10_3, OB10_l⟩ := OB10.g4
 obtain ⟨XB10_0, XB10_1, XB10_2, XB10_3, XB10_4, XB10_5, XB10_6, XB10_7, XB10_l⟩ := XB10.g8
 obtain rfl : m1 = y.shelf.length := RdL.at1 (s := ⟨B1, m1, e1⟩) oS10.rd
 obtain ⟨g, o, _, rfl, hgw, _, _⟩ := RdL.entryS (show RdL (Dt.list entryD) w10 w10.heap.size (.slice B1 y.shelf.length e1) y.shelf from oS10.rd) (k := 0) (by have := h4.out; omega)
 have hgF : g ∈ F1 := OwL.block_mem (show OwL (Dt.list entryD) w10 F1 (.slice (some ⟨g, o, none⟩) y.shelf.length e1) y.shelf from oS10) (by have := h4.out; omega)
 have hgb := hF1 g hgF
 have hRlt := oR10.lt
 have hgm := Lib.hid (show ∀ x, x ∈ [g] → x = g from fun x hx => by simpa using hx)
 have CL := Lib.hid (specLay_own ⟨y.now, y.seq, y.shelf, y.runs ++ [newRun id p]⟩ g o e1 ⟨A9, rs.length + 1, c9⟩ zeroRun (⟨none, 0, 0⟩, ⟨none, 0, 0⟩) (newRun id p) sr w10 F1 h4.out (fun s hs => by have := (hall.out s hs).1; omega) (by dsimp only; omega) (by have := hnl.out; omega) (by show ([] : List Task).length ≤ 1000; simp) oS10 (Lib.hid fun W hW => (runD.ow_rd (runD.ow_chg (F := Fr) (x := newRun id p) (s := sr) orn10 hW (fun x hx h => by have h1 := hgm.out x h; have h2 := hnr6 x hx; omega))).2) (Lib.hid fun W hW => rdl_nil _ _ _ _))
 have hfr := Lib.hid (show (layY ⟨y.now, y.seq, y.shelf, y.runs ++ [newRun id p]⟩ zeroRun (newRun id p)).runs = y.runs ++ [newRun id p] from (layN_f (y := ⟨y.now, y.seq, y.shelf, y.runs ++ [newRun id p]⟩) (was := zeroRun) (r := newRun id p) (M := 80) (fun s hs => (hall.out s hs).1) (newRun id p).tasks.length).runs)
 generalize layY ⟨y.now, y.seq, y.shelf, y.runs ++ [newRun id p]⟩ zeroRun (newRun id p) = Z at *
 go_wp2_with fail
 refine CL.out.mono ?_
 rintro e w11 ⟨F1', rfl, q1, q2, q3⟩
 have hs11 := q3.size
 have RES11 := RES10.chg q3 (fun hx => by have := hgm.out _ hx; omega)
 have oR11 := oR10.chg q3 (fun x hx h => by have h1 := hgm.out x h; have h2 := (hBn x hx).2; omega)
 have B11 := B10.trans (q3.below (by have := B10.size; omega) (fun x hx => by have := hgm.out _ hx; omega))
 clear OB10_0 OB10_1 OB10_2 OB10_3 OB10_l
 clear XB10_0 XB10_1 XB10_2 XB10_3 XB10_4 XB10_5 XB10_6 XB10_7 XB10_l
 clear OB10 XB10 RES10
 obtain ⟨RES11_0, RES11_1, RES11_2, RES11_3, RES11_l⟩ := RES11.g4
 have rf := RES11.free
 go_wp2
 have en1 : w.heap.size + 1 + 1 ∉ F1' := fun hx => by
  rcases q2 _ hx with h | h
  ·have := (hF1 _ h).1; omega
  ·have := RES11_l; have := B10.size; omega
 have en2 : w.heap.size + 1 + 1 ∉ F2 := fun hx => by have := (hBn _ hx).2; omega
 refine bodyPost_ret (Submit_res (DBox.row4 RES11 rfl _ _ _ _)) rfl ⟨(⟨some ⟨g, o, none⟩, y.shelf.length, e1⟩, ⟨A9, rs.length + 1, c9⟩), F1' ++ F2, by rw [H.out, H2.out], ⟨F1', F2, rfl, ?_, ?_, ?_⟩, fun x hx => ?_, ?_⟩
 ·rw [List.nodup_append]
  refine ⟨q1.nodup, oR11.nodup, fun a ha b hb e => ?_⟩
  subst e
  have h3 := hBn a hb
  have h4 := hRlt a hb
  rcases q2 a ha with h | h
  ·have := (hF1 a h).2; omega
  ·omega
 ·rw [H2.out]
  show OwL (Dt.list entryD) _ F1' (.slice (some ⟨g, o, none⟩) y.shelf.length e1) Z.shelf
  exact ((((q1.set (a := ⟨_, _, none⟩) en1 _).set (a := ⟨_, _, none⟩) en1 _).set (a := ⟨_, _, none⟩) en1 _).set (a := ⟨_, _, none⟩) en1 _)
 ·rw [H2.out]
  show OwL runD _ F2 (.slice A9 (rs.length + 1) c9) Z.runs
  rw [hfr.out]
  exact ((((oR11.set (a := ⟨_, _, none⟩) en2 _).set (a := ⟨_, _, none⟩) en2 _).set (a := ⟨_, _, none⟩) en2 _).set (a := ⟨_, _, none⟩) en2 _)
 ·rcases List.mem_append.1 hx with hx | hx
  ·rcases q2 x hx with h | h
   ·have := (hF1 x h).1; omega
   ·have := B10.size; omega
  ·have := (hBn x hx).2; omega
 ·repeat (first | (with_reducible exact B11) | refine Below.setCell ?_ (by simp <;> omega) _)
end Go.Proofs.Ytonlnjdempbfoaa
end
section
namespace Go.Proofs.Ytonlnjdempbfoaa
open Go.RowKit
set_option maxRecDepth 100000
set_option maxHeartbeats 4000000
set_option linter.unusedVariables false
set_option linter.unusedSimpArgs false
open Classical in
noncomputable def cancC (y : Yard) (id : Int) : Int :=
 if ¬ yardP y then 8 else if runAt y id < 0 then 10 else if ¬ (runK y id).state = 1 then 12 else 0
noncomputable def cancY (y : Yard) (id : Int) : Yard := if cancC y id = 0 then ⟨y.now, y.seq, y.shelf, y.runs.set (runAt y id).toNat (leaveR (runK y id) 4)⟩ else y
theorem Cancel_res {b : Nat} {w : World} {u0 u1 u2 u3 : Value} (X : DBox b [u0, u1, u2, u3] w) {v0 v1 v2 v3 v5 : Value} {rest : List Value} :
  (results Try.f52 (v0 :: v1 :: v2 :: v3 :: .pointer (some ⟨b, 0, none⟩) :: v5 :: rest).toArray).run Try.prog w = .ok (.tuple #[.agg #[u0, u1, u2, u3], v5]) w := by
 have c0 := X.cell 0 _ rfl
 have c1 := X.cell 1 _ rfl
 have c2 := X.cell 2 _ rfl
 have c3 := X.cell 3 _ rfl
 simp [results, Try.results52, go_sem, c0, c1, c2, c3]
theorem specCancel_own (y : Yard) (s : Sl × Sl) (id : Int) (w : World) (hl : cntYard y ≤ 2000000) (h : yardD.rd w w.heap.size y s) :
  Calls Try.prog 52 #[yardW y s, .int .i64 id] w (CodePost (cancY y id) (cancC y id) w) := by
 have HR := Lib.hid (show ∀ W, Below w.heap.size w W → yardD.rd W W.heap.size y s from fun W hW => yardD.rd_more (yardD.rd_below h hW) hW.size)
 obtain ⟨⟨A1, n1, c1⟩, ⟨A2, n2, c2⟩⟩ := s
 have CC := Lib.hid (fun W hW => specCopyYard_own y (⟨A1, n1, c1⟩, ⟨A2, n2, c2⟩) W hl (HR.out W hW))
 have CY := Lib.hid (fun W hW => specYardOk_any y (⟨A1, n1, c1⟩, ⟨A2, n2, c2⟩) W hl (HR.out W hW))
 have CA := Lib.hid (fun W hW => specRunAt_own y (⟨A1, n1, c1⟩, ⟨A2, n2, c2⟩) id W hl (HR.out W hW))
 have CX := Lib.hid (fun W hW => show RdL runD W W.heap.size (.slice A2 n2 c2) y.runs from (HR.out W hW).2)
 clear h HR
 have X := (DBox.new 61 [.int .i64 y.now, .int .i64 y.seq, .slice A1 n1 c1, .slice A2 n2 c2] w (b := w.heap.size) rfl).below ((Below.refl _ _).alloc (Nat.le_refl _) (.cells #[.int .i64 0, .int .i64 0, .slice none 0 0, .slice none 0 0] 61))
 have RES := DBox.new 61 [.int .i64 0, .int .i64 0, .slice none 0 0, .slice none 0 0] (w.alloc (.cells #[.int .i64 y.now, .int .i64 y.seq, .slice A1 n1 c1, .slice A2 n2 c2] 61)) (b := w.heap.size + 1) (by simp)
 have B0 : Below w.heap.size w ((w.alloc (.cells #[.int .i64 y.now, .int .i64 y.seq, .slice A1 n1 c1, .slice A2 n2 c2] 61)).alloc (.cells #[.int .i64 0, .int .i64 0, .slice none 0 0, .slice none 0 0] 61)) := by repeat (first | exact Below.refl _ _ | refine Below.alloc ?_ (by simp <;> omega) _)
 go_enter Try.func52, Try.ntmps52
 go_wp2_with fail
 generalize ((w.alloc (.cells #[.int .i64 y.now, .int .i64 y.seq, .slice A1 n1 c1, .slice A2 n2 c2] 61)).alloc (.cells #[.int .i64 0, .int .i64 0, .slice none 0 0, .slice none 0 0] 61)) = W at *
 have hRl : w.heap.size + 1 < W.heap.size := RES.lt
 refine (CC.out _ B0).mono ?_
 rintro e1 w1 ⟨⟨⟨B1, m1, e1⟩, ⟨B2, m2, e2⟩⟩, F, rfl, oy, nF, b1⟩
 have hs1 := b1.size
 have hFl := yardD.ow_lt (F := F) (x := y) (s := (⟨B1, m1, e1⟩, ⟨B2, m2, e2⟩)) oy
 replace X := X.below b1
 replace RES := RES.below b1
 replace B0 := bnext B0 b1
 clear b1
 go_upto_region 2 with fail
 have OB := DBox.new 61 [.int .i64 y.now, .int .i64 y.seq, .slice B1 m1 e1, .slice B2 m2 e2] w1 (b := w1.heap.size) rfl
 have b2 : Below w1.heap.size w1 (w1.alloc (.cells #[.int .i64 y.now, .int .i64 y.seq, .slice B1 m1 e1, .slice B2 m2 e2] 61)) := (Below.refl _ _).alloc (Nat.le_refl _) _
 replace X := X.below b2
 replace RES := RES.below b2
 replace oy := yardD.ow_below (F := F) (x := y) (s := (⟨B1, m1, e1⟩, ⟨B2, m2, e2⟩)) oy b2
 replace B0 := bnext B0 b2
 have ow1 := OB.lt
 clear b2
 generalize w1.alloc (.cells #[.int .i64 y.now, .int .i64 y.seq, .slice B1 m1 e1, .slice B2 m2 e2] 61) = w2 at *
 generalize hob : w1.heap.size = ob at *
 obtain ⟨X_0, X_1, X_2, X_3, X_l⟩ := X.g4
 obtain ⟨OB_0, OB_1, OB_2, OB_3, OB_l⟩ := OB.g4
 go_wp2_with fail
 refine (CA.out _ B0).mono ?_
 rintro e1 w3 ⟨rfl, b3⟩
 clear X_0 X_1 X_2 X_3 X_l
 clear OB_0 OB_1 OB_2 OB_3 OB_l
 replace X := X.below b3
 replace OB := OB.below b3
 replace RES := RES.below b3
 replace oy : yardD.ow w3 F y (⟨B1, m1, e1⟩, ⟨B2, m2, e2⟩) := yardD.ow_below (F := F) (x := y) (s := (⟨B1, m1, e1⟩, ⟨B2, m2, e2⟩)) oy b3
 replace B0 := bnext B0 b3
 clear b3
 obtain ⟨X_0, X_1, X_2, X_3, X_l⟩ := X.g4
 obtain ⟨OB_0, OB_1, OB_2, OB_3, OB_l⟩ := OB.g4
 go_wp2_with fail
 refine (CY.out _ B0).mono ?_
 rintro e1 w4 ⟨rfl, b4⟩
 clear X_0 X_1 X_2 X_3 X_l
 clear OB_0 OB_1 OB_2 OB_3 OB_l
 replace X := X.below b4
 replace OB := OB.below b4
 replace RES := RES.below b4
 replace oy : yardD.ow w4 F y (⟨B1, m1, e1⟩, ⟨B2, m2, e2⟩) := yardD.ow_below (F := F) (x := y) (s := (⟨B1, m1, e1⟩, ⟨B2, m2, e2⟩)) oy b4
 replace B0 := bnext B0 b4
 clear b4
 obtain ⟨X_0, X_1, X_2, X_3, X_l⟩ := X.g4
 obtain ⟨OB_0, OB_1, OB_2, OB_3, OB_l⟩ := OB.g4
 by_cases p0 : yardP y
 case neg =>
  rw [tf_false p0]
  have H := Lib.hid (show cancC y id = 8 by unfold cancC; rw [if_pos p0])
  have H2 := Lib.hid (show cancY y id = y by unfold cancY; rw [H.out, if_neg (by decide)])
  obtain ⟨RES_0, RES_1, RES_2, RES_3, RES_l⟩ := RES.g4
  have rf := RES.free
  go_wp2
  have en1 : w.heap.size + 1 ∉ F := fun hx => by have := nF _ hx; omega
  refine bodyPost_ret (Cancel_res (DBox.row4 RES rfl _ _ _ _)) rfl ⟨(⟨B1, m1, e1⟩, ⟨B2, m2, e2⟩), F, by rw [H.out, H2.out], by rw [H2.out]; exact (by (repeat (refine Dt.ow_set yardD ?_ en1 _)); exact (show yardD.ow _ F y (⟨B1, m1, e1⟩, ⟨B2, m2, e2⟩) from oy)), fun x hx => by have := nF x hx; omega, ?_⟩
  repeat (first | (with_reducible exact B0) | refine Below.setCell ?_ (by simp <;> omega) _)
 rw [tf_true p0]
 have P0 := Lib.hid p0
 clear p0
 by_cases p1 : runAt y id < 0
 case pos =>
  have H := Lib.hid (show cancC y id = 10 by unfold cancC; rw [if_neg (fun h => h P0.out), if_pos p1])
  have H2 := Lib.hid (show cancY y id = y by unfold cancY; rw [H.out, if_neg (by decide)])
  obtain ⟨RES_0, RES_1, RES_2, RES_3, RES_l⟩ := RES.g4
  have rf := RES.free
  go_wp2
  have en1 : w.heap.size + 1 ∉ F := fun hx => by have := nF _ hx; omega
  refine bodyPost_ret (Cancel_res (DBox.row4 RES rfl _ _ _ _)) rfl ⟨(⟨B1, m1, e1⟩, ⟨B2, m2, e2⟩), F, by rw [H.out, H2.out], by rw [H2.out]; exact (by (repeat (refine Dt.ow_set yardD ?_ en1 _)); exact (show yardD.ow _ F y (⟨B1, m1, e1⟩, ⟨B2, m2, e2⟩) from oy)), fun x hx => by have := nF x hx; omega, ?_⟩
  repeat (first | (with_reducible exact B0) | refine Below.setCell ?_ (by simp <;> omega) _)
 rcases runAt_range y id with hr | ⟨k, hk, hr⟩
 ·exact absurd hr (by omega)
 have HK := Lib.hid (runK_get hk hr)
 have HR2 := Lib.hid hr
 rw [hr]
 clear hr p1
 have P1 := Lib.hid (show ¬ runAt y id < 0 by have := HR2.out; omega)
 have hkI : (k : Int) < (n2 : Int) := by have := RdL.at1 (s := ⟨A2, n2, c2⟩) (CX.out _ B0); dsimp only at this; omega
 have hk0 : (0 : Int) ≤ (k : Int) := by omega
 have hkn : ¬ (k : Int) < 0 := by omega
 have hrunP := Lib.hid (yard_runs P0.out hk)
 obtain ⟨gx, ox, _, rfl, hgx, _, c0, c1_, c2_, c3_, c4_, c5_, c6, c7_⟩ := (CX.out _ B0).run hk
 clear c0 c1_ c2_ c3_ c4_ c5_ c7_
 by_cases p2 : y.runs[k].state = 1
 case neg =>
  have q2 : (y.runs[k].state != 1) = true := by simp [p2]
  have H := Lib.hid (show cancC y id = 12 by unfold cancC; rw [if_neg (fun h => h P0.out), if_neg P1.out, if_pos (by rw [HK.out]; exact p2)])
  clear p2
  have H2 := Lib.hid (show cancY y id = y by unfold cancY; rw [H.out, if_neg (by decide)])
  obtain ⟨RES_0, RES_1, RES_2, RES_3, RES_l⟩ := RES.g4
  have rf := RES.free
  go_wp2
  have en1 : w.heap.size + 1 ∉ F := fun hx => by have := nF _ hx; omega
  refine bodyPost_ret (Cancel_res (DBox.row4 RES rfl _ _ _ _)) rfl ⟨(⟨B1, m1, e1⟩, ⟨B2, m2, e2⟩), F, by rw [H.out, H2.out], by rw [H2.out]; exact (by (repeat (refine Dt.ow_set yardD ?_ en1 _)); exact (show yardD.ow _ F y (⟨B1, m1, e1⟩, ⟨B2, m2, e2⟩) from oy)), fun x hx => by have := nF x hx; omega, ?_⟩
  repeat (first | (with_reducible exact B0) | refine Below.setCell ?_ (by simp <;> omega) _)
 have q2 : (y.runs[k].state != 1) = false := by simp [p2]
 have H := Lib.hid (show cancC y id = 0 by unfold cancC; rw [if_neg (fun h => h P0.out), if_neg P1.out, if_neg (by rw [HK.out]; exact fun h => h p2)])
 have H2 := Lib.hid (show cancY y id = ⟨y.now, y.seq, y.shelf, y.runs.set k (leaveR y.runs[k] 4)⟩ by unfold cancY; rw [if_pos H.out, HK.out, HR2.out, Int.toNat_natCast])
 have P2 := Lib.hid p2
 clear p2
 go_upto_region 9 with fail
 have oyr := (yardD.ow_rd (F := F) (x := y) (s := (⟨B1, m1, e1⟩, ⟨B2, m2, e2⟩)) oy).2
 have hm2 := Lib.hid (show m2 = y.runs.length from RdL.at1 (s := ⟨B2, m2, e2⟩) oyr)
 have hjI : (k : Int) < (m2 : Int) := by have := hm2.out; omega
 obtain ⟨gr, orr, sk, rfl, hgrw, hrk, d0, d1, d2, d3, d4, d5, d6, d7⟩ := RdL.run (show RdL runD w4 w4.heap.size (.slice B2 m2 e2) y.runs from oyr) hk
 have hgrf : ∀ i, w4.frozen? ⟨gr, i, none⟩ = false := by
  obtain ⟨G1, G2, _, _, _, os⟩ := oy
  exact OwL.free0 (show OwL runD w4 G2 (.slice (some ⟨gr, orr, none⟩) m2 e2) y.runs from os) (by omega)
 clear X_0 X_1 X_2 X_3 X_l
 clear X c6 q2
 generalize hrj : y.runs[k] = r at *
 have CSt := Lib.hid (specLeft_own r sk w4.drew (by have := run_small hrunP.out; omega) hrunP.out P2.out (by have := runP_len hrunP.out; omega) (runD.rd_below hrk (Below.refl _ _).drew))
 have hobw5 : ob < w4.heap.size := OB.lt
 clear hrk oyr hrj
 go_wp2
 refine wp_region_last (fun w' => w'.cell? ⟨ob, 3, none⟩ = some (.slice (some ⟨gr, orr, none⟩) m2 e2) ∧ w'.cell? ⟨gr, orr + k * 8, none⟩ = some (.int .i64 r.id) ∧ w'.cell? ⟨gr, orr + k * 8 + 1, none⟩ = some (.int .i64 r.plan.prio) ∧ w'.cell? ⟨gr, orr + k * 8 + 2, none⟩ = some (.int .i64 r.plan.most) ∧ w'.cell? ⟨gr, orr + k * 8 + 3, none⟩ = some (.int .i64 r.plan.wait) ∧ w'.cell? ⟨gr, orr + k * 8 + 4, none⟩ = some (.int .i64 r.plan.tasks) ∧ w'.cell? ⟨gr, orr + k * 8 + 5, none⟩ = some (.slice sk.1.a sk.1.n sk.1.c) ∧ w'.cell? ⟨gr, orr + k * 8 + 6, none⟩ = some (.int .i64 r.state) ∧ w'.cell? ⟨gr, orr + k * 8 + 7, none⟩ = some (.slice sk.2.a sk.2.n sk.2.c)) 10 (by kernel_rfl) ?_ (fun hHeld => ?_)
 ·exact ⟨OB_3, d0, d1, d2, d3, d4, d5, d6, d7⟩
 refine aT 0 hHeld ?_
 try simp only [pS]
 refine aT 1 hHeld ?_
 try simp only [pS]
 refine aT 2 hHeld ?_
 try simp only [pS]
 refine aT 3 hHeld ?_
 try simp only [pS]
 refine aT 4 hHeld ?_
 try simp only [pS]
 refine aT 5 hHeld ?_
 try simp only [pS]
 refine aT 6 hHeld ?_
 try simp only [pS]
 refine aT 7 hHeld ?_
 try simp only [pS]
 refine oT 8 (fun K hK => ?_)
 (go_simp; refine CSt.out.mono ?_; rintro e9 w6 ⟨sr, Fr, rfl, orn, nr, b6⟩; have q0 : w6.cell? ⟨gr, orr + k * 8, none⟩ = some (.int .i64 r.id) := (b6.cell (p := ⟨_, _, none⟩) (by show gr < w4.heap.size; omega)).trans d0; have q1 : w6.cell? ⟨gr, orr + k * 8 + 1, none⟩ = some (.int .i64 r.plan.prio) := (b6.cell (p := ⟨_, _, none⟩) (by show gr < w4.heap.size; omega)).trans d1; have q2 : w6.cell? ⟨gr, orr + k * 8 + 2, none⟩ = some (.int .i64 r.plan.most) := (b6.cell (p := ⟨_, _, none⟩) (by show gr < w4.heap.size; omega)).trans d2; have q3 : w6.cell? ⟨gr, orr + k * 8 + 3, none⟩ = some (.int .i64 r.plan.wait) := (b6.cell (p := ⟨_, _, none⟩) (by show gr < w4.heap.size; omega)).trans d3; have q4 : w6.cell? ⟨gr, orr + k * 8 + 4, none⟩ = some (.int .i64 r.plan.tasks) := (b6.cell (p := ⟨_, _, none⟩) (by show gr < w4.heap.size; omega)).trans d4; have q5 : w6.cell? ⟨gr, orr + k * 8 + 5, none⟩ = some (.slice sk.1.a sk.1.n sk.1.c) := (b6.cell (p := ⟨_, _, none⟩) (by show gr < w4.heap.size; omega)).trans d5; have q6 : w6.cell? ⟨gr, orr + k * 8 + 6, none⟩ = some (.int .i64 r.state) := (b6.cell (p := ⟨_, _, none⟩) (by show gr < w4.heap.size; omega)).trans d6; have q7 : w6.cell? ⟨gr, orr + k * 8 + 7, none⟩ = some (.slice sk.2.a sk.2.n sk.2.c) := (b6.cell (p := ⟨_, _, none⟩) (by show gr < w4.heap.size; omega)).trans d7; have qf : ∀ j, w6.frozen? ⟨gr, j, none⟩ = false := fun j => (b6.frozen (p := ⟨_, _, none⟩) (by show gr < w4.heap.size; omega)).trans (hgrf j))
 refine hK.out _ _ (fun _ => ?_) ?_
 ·exact ⟨(b6.cell (p := ⟨_, _, none⟩) (by show ob < w4.heap.size; omega)).trans OB_3, (b6.cell (p := ⟨_, _, none⟩) (by show gr < w4.heap.size; omega)).trans d0, (b6.cell (p := ⟨_, _, none⟩) (by show gr < w4.heap.size; omega)).trans d1, (b6.cell (p := ⟨_, _, none⟩) (by show gr < w4.heap.size; omega)).trans d2, (b6.cell (p := ⟨_, _, none⟩) (by show gr < w4.heap.size; omega)).trans d3, (b6.cell (p := ⟨_, _, none⟩) (by show gr < w4.heap.size; omega)).trans d4, (b6.cell (p := ⟨_, _, none⟩) (by show gr < w4.heap.size; omega)).trans d5, (b6.cell (p := ⟨_, _, none⟩) (by show gr < w4.heap.size; omega)).trans d6, (b6.cell (p := ⟨_, _, none⟩) (by show gr < w4.heap.size; omega)).trans d7⟩
 clear hK K
 try simp only [pS]
 refine oT 9 (fun K hK => ?_)
 go_simp
 refine hK.out _ _ (fun _ => ?_) ?_
 ·exact ⟨(b6.cell (p := ⟨_, _, none⟩) (by show ob < w4.heap.size; omega)).trans OB_3, (b6.cell (p := ⟨_, _, none⟩) (by show gr < w4.heap.size; omega)).trans d0, (b6.cell (p := ⟨_, _, none⟩) (by show gr < w4.heap.size; omega)).trans d1, (b6.cell (p := ⟨_, _, none⟩) (by show gr < w4.heap.size; omega)).trans d2, (b6.cell (p := ⟨_, _, none⟩) (by show gr < w4.heap.size; omega)).trans d3, (b6.cell (p := ⟨_, _, none⟩) (by show gr < w4.heap.size; omega)).trans d4, (b6.cell (p := ⟨_, _, none⟩) (by show gr < w4.heap.size; omega)).trans d5, (b6.cell (p := ⟨_, _, none⟩) (by show gr < w4.heap.size; omega)).trans d6, (b6.cell (p := ⟨_, _, none⟩) (by show gr < w4.heap.size; omega)).trans d7⟩
 clear hK K
 try simp only [pS]
 refine oT 10 (fun K hK => ?_)
 go_simp
 refine hK.out _ _ (fun hne => absurd rfl hne) ?_
 clear hK K
 try simp only [pS]
 refine wpAnyL_done (by kernel_rfl) ?_ _
 have b6' : Below w4.heap.size w4 w6 := bnext (Below.refl _ _).drew b6
 have hs6 := b6'.size
 have hs4 := B0.size
 have hnr : ∀ x ∈ Fr, w4.heap.size ≤ x := nr
 have hfl4 : ∀ x ∈ F, x < w4.heap.size := yardD.ow_lt (F := F) (x := y) (s := (⟨B1, m1, e1⟩, ⟨some ⟨gr, orr, none⟩, m2, e2⟩)) oy
 have oy6 : yardD.ow w6 F y (⟨B1, m1, e1⟩, ⟨some ⟨gr, orr, none⟩, m2, e2⟩) := yardD.ow_below (F := F) (x := y) (s := (⟨B1, m1, e1⟩, ⟨some ⟨gr, orr, none⟩, m2, e2⟩)) oy b6'
 obtain ⟨F8, oy8, hF8, hgrF⟩ := yard_setRun oy6 (k := k) hk (r := leaveR r 4) (sr := sr) orn (fun x hx hxF => by have h1 := hnr x hx; have h2 := hfl4 x hxF; omega)
 have hC8 : Chg [gr] w6 ((((((((w6.setCell ⟨gr, orr + k * 8, none⟩ (.int .i64 (leaveR r 4).id)).setCell ⟨gr, orr + k * 8 + 1, none⟩ (.int .i64 (leaveR r 4).plan.prio)).setCell ⟨gr, orr + k * 8 + 2, none⟩ (.int .i64 (leaveR r 4).plan.most)).setCell ⟨gr, orr + k * 8 + 3, none⟩ (.int .i64 (leaveR r 4).plan.wait)).setCell ⟨gr, orr + k * 8 + 4, none⟩ (.int .i64 (leaveR r 4).plan.tasks)).setCell ⟨gr, orr + k * 8 + 5, none⟩ (.slice sr.1.a sr.1.n sr.1.c)).setCell ⟨gr, orr + k * 8 + 6, none⟩ (.int .i64 (leaveR r 4).state)).setCell ⟨gr, orr + k * 8 + 7, none⟩ (.slice sr.2.a sr.2.n sr.2.c)) := wSeq_chg (runD.enc.cells (leaveR r 4, sr)) w6 gr (orr + k * 8)
 have hrm := Lib.hid (show ∀ x, x ∈ [gr] → x = gr from fun x hx => by simpa using hx)
 have hgrn := nF gr hgrF
 have hgrl := hFl gr hgrF
 clear OB_0 OB_1 OB_2 OB_3 OB_l
 replace OB := (OB.below b6').chg hC8 (fun hx => by have := hrm.out _ hx; omega)
 replace RES := (RES.below b6').chg hC8 (fun hx => by have := hrm.out _ hx; omega)
 replace B0 := (bnext B0 b6').trans (hC8.below (by have := (bnext B0 b6').size; omega) (fun x hx => by have := hrm.out _ hx; omega))
 have en1 : w.heap.size + 1 ∉ F8 := fun hx => by
  rcases hF8 _ hx with h | h
  ·have := nF _ h; omega
  ·have := hnr _ h; omega
 have hF9 : ∀ x ∈ F8, w.heap.size ≤ x := fun x hx => by
  rcases hF8 _ hx with h | h
  ·have := nF _ h; omega
  ·have := hnr _ h; omega
 clear hHeld oy oy6 b6 b6' nr orn hC8 CSt d0 d1 d2 d3 d4 d5 d6 d7 hgrf q0 q1 q2 q3 q4 q5 q6 q7 qf
 generalize ((((((((w6.setCell ⟨gr, orr + k * 8, none⟩ (.int .i64 (leaveR r 4).id)).setCell ⟨gr, orr + k * 8 + 1, none⟩ (.int .i64 (leaveR r 4).plan.prio)).setCell ⟨gr, orr + k * 8 + 2, none⟩ (.int .i64 (leaveR r 4).plan.most)).setCell ⟨gr, orr + k * 8 + 3, none⟩ (.int .i64 (leaveR r 4).plan.wait)).setCell ⟨gr, orr + k * 8 + 4, none⟩ (.int .i64 (leaveR r 4).plan.tasks)).setCell ⟨gr, orr + k * 8 + 5, none⟩ (.slice sr.1.a sr.1.n sr.1.c)).setCell ⟨gr, orr + k * 8 + 6, none⟩ (.int .i64 (leaveR r 4).state)).setCell ⟨gr, orr + k * 8 + 7, none⟩ (.slice sr.2.a sr.2.n sr.2.c)) = w8 at *
 obtain ⟨OB_0, OB_1, OB_2, OB_3, OB_l⟩ := OB.g4
 obtain ⟨RES_0, RES_1, RES_2, RES_3, RES_l⟩ := RES.g4
 have rf := RES.free
 go_wp2
 refine bodyPost_ret (Cancel_res (DBox.row4 RES rfl _ _ _ _)) rfl ⟨(⟨B1, m1, e1⟩, ⟨some ⟨gr, orr, none⟩, m2, e2⟩), F8, by rw [H.out, H2.out], by rw [H2.out]; exact (by (repeat (refine Dt.ow_set yardD ?_ en1 _)); exact (show yardD.ow _ F8 ⟨y.now, y.seq, y.shelf, y.runs.set k (leaveR r 4)⟩ (⟨B1, m1, e1⟩, ⟨some ⟨gr, orr, none⟩, m2, e2⟩) from oy8)), hF9, ?_⟩
 repeat (first | (with_reducible exact B0) | refine Below.setCell ?_ (by simp <;> omega) _)
end Go.Proofs.Ytonlnjdempbfoaa
end
section
namespace Go.Proofs.Ytonlnjdempbfoaa
open Go.RowKit
set_option maxRecDepth 100000
set_option maxHeartbeats 4000000
set_option linter.unusedVariables false
set_option linter.unusedSimpArgs false
/-- ints laid one beside the other -/
theorem flat_intsK (l : List Int) : l.flatMap intE.cells = l.map (Value.int .i64) := by
 induction l with
 | nil => rfl
 | cons a l ih => rw [List.flatMap_cons, ih]; rfl
theorem Ow.intsK (w : World) (E : TypeId) (l : List Int) {cs : Array Value} (hcs : cs = (l.map (Value.int .i64)).toArray) {n g base : Nat} (hn : n = l.length) (hg : g = w.heap.size) (hb : base ≤ w.heap.size) (hl : l.length ≤ 1000) :
  Ow intE E (w.alloc (.cells cs E)) base (.slice (some ⟨g, 0, none⟩) n n) l := by
 subst hn hg hcs
 have := World.ownsRow_lit (base := base) (e := E) (size := intE.sz) w (l.map (Value.int .i64)).toArray l.length hb (by simp [maxLen]; omega) (by simp [intE])
 unfold Ow
 rw [flat_intsK]
 exact this
theorem ints_info : (Try.prog.info? 26).map (fun i => (i.zero, i.size, i.bytes)) = some (some (.slice none 0 0), 1, 24) := by kernel_rfl
/-- a task is late -/
def lateB (y : Yard) (x : Task) : Bool := (x.state == 3) && decide (x.until_ - 1 ≤ y.now)
def runJ (y : Yard) (k : Nat) : Run := y.runs.getD k zeroRun
theorem runJ_get {y : Yard} {k : Nat} (h : k < y.runs.length) : runJ y k = y.runs[k] := by unfold runJ; rw [List.getD_eq_getElem?_getD, List.getElem?_eq_getElem h]; rfl
/-- those of a run that are late, of the first n tasks -/
def lateR (y : Yard) (k n : Nat) : List (Nat × Nat) := ((List.range n).filter fun t => lateB y (taskAt (runJ y k) t)).map fun t => (k, t)
/-- those that are late, of the first k runs -/
def lateU (y : Yard) (k : Nat) : List (Nat × Nat) := (List.range k).flatMap fun j => lateR y j (runJ y j).tasks.length
def rowOf (y : Yard) (p : Nat × Nat) : List Int := [(runJ y p.1).id, p.2, (taskAt (runJ y p.1) p.2).try_]
theorem lateR_zero (y : Yard) (k : Nat) : lateR y k 0 = [] := rfl
theorem lateR_yes {y : Yard} {k n : Nat} (h : lateB y (taskAt (runJ y k) n) = true) : lateR y k (n + 1) = lateR y k n ++ [(k, n)] := by
 unfold lateR
 rw [List.range_succ, List.filter_append, List.map_append]
 simp [h]
theorem lateR_no {y : Yard} {k n : Nat} (h : lateB y (taskAt (runJ y k) n) = false) : lateR y k (n + 1) = lateR y k n := by
 unfold lateR
 rw [List.range_succ, List.filter_append, List.map_append]
 simp [h]
theorem lateU_succ (y : Yard) (k : Nat) : lateU y (k + 1) = lateU y k ++ lateR y k (runJ y k).tasks.length := by
 unfold lateU
 rw [List.range_succ, List.flatMap_append]
 simp
theorem lateR_len (y : Yard) (k n : Nat) : (lateR y k n).length ≤ n := by
 unfold lateR
 rw [List.length_map]
 exact Nat.le_trans (List.length_filter_le _ _) (by simp)
theorem lateU_len {y : Yard} (h : ∀ j, (runJ y j).tasks.length ≤ 12) : ∀ k, (lateU y k).length ≤ 12 * k
 | 0 => by simp [lateU]
 | k + 1 => by
  rw [lateU_succ, List.length_append]
  have h1 := lateU_len h k
  have h2 := lateR_len y k (runJ y k).tasks.length
  have h3 := h k
  omega
theorem runJ_len {y : Yard} (h : yardP y) (j : Nat) : (runJ y j).tasks.length ≤ 12 := by
 by_cases q : j < y.runs.length
 ·rw [runJ_get q]
  exact (runP_len (yard_runs h q)).2
 ·unfold runJ
  rw [List.getD_eq_getElem?_getD, List.getElem?_eq_none (by omega)]
  simp [zeroRun]
/-- in a right yard, what runs is due later than now -/
theorem yard_until {y : Yard} (h : yardP y) {k t : Nat} (hk : k < y.runs.length) (ht : t < y.runs[k].tasks.length) (hs : y.runs[k].tasks[t].state = 3) : y.now + 1 ≤ y.runs[k].tasks[t].until_ ∧ y.runs[k].tasks[t].until_ ≤ 1000000000 := by
 have h1 := h.2.2.2.2.2.2.2.2.1 y.runs[k] (List.getElem_mem hk) t ht
 unfold laidP at h1
 rw [taskAt_get ht] at h1
 have h2 := h1.2 hs
 have h3 := (yard_runs h hk).2.2.2.1 t ht
 unfold taskP taskQ at h3
 rw [taskAt_get ht] at h3
 have h4 := h3.2.2.2.1 hs
 omega
theorem specLate_own (y : Yard) (s : Sl × Sl) (w : World) (hl : cntYard y ≤ 2000000) (hY : yardP y) (h : yardD.rd w w.heap.size y s) :
  Calls Try.prog 77 #[yardW y s] w (OwnPost (Dt.list (Dt.flats intE)) slV ((lateU y y.runs.length).map (rowOf y)) w) := by
 obtain ⟨⟨A1, n1, c1⟩, ⟨A2, n2, c2⟩⟩ := s
 obtain rfl : n2 = y.runs.length := RdL.at1 (s := ⟨A2, n2, c2⟩) h.2
 have CX := Lib.hid (fun W (hW : Below w.heap.size w W) => show RdL runD W w.heap.size (.slice A2 y.runs.length c2) y.runs from (yardD.rd_below (x := y) (s := (⟨A1, n1, c1⟩, ⟨A2, y.runs.length, c2⟩)) h hW).2)
 have hrl8 : y.runs.length ≤ 8 := hY.2.2.2.2.2.2.1
 have HP := Lib.hid hY
 clear h hY
 obtain ⟨it, i0, z0, z1, z2⟩ := info_parts ints_info
 have X := DBox.new 61 [.int .i64 y.now, .int .i64 y.seq, .slice A1 n1 c1, .slice A2 y.runs.length c2] w (b := w.heap.size) rfl
 have B0 : Below w.heap.size w (w.alloc (.cells #[.int .i64 y.now, .int .i64 y.seq, .slice A1 n1 c1, .slice A2 y.runs.length c2] 61)) := by repeat (first | exact Below.refl _ _ | refine Below.alloc ?_ (by simp <;> omega) _)
 go_enter Try.func77, Try.ntmps77
 go_wp2
 have hWs : w.heap.size + 1 = (w.alloc (.cells #[.int .i64 y.now, .int .i64 y.seq, .slice A1 n1 c1, .slice A2 y.runs.length c2] 61)).heap.size := by simp
 have o0 := Ow.empty (Dt.flats intE).enc 26 (w.alloc (.cells #[.int .i64 y.now, .int .i64 y.seq, .slice A1 n1 c1, .slice A2 y.runs.length c2] 61)) rfl
 have b0 : Below (w.alloc (.cells #[.int .i64 y.now, .int .i64 y.seq, .slice A1 n1 c1, .slice A2 y.runs.length c2] 61)).heap.size (w.alloc (.cells #[.int .i64 y.now, .int .i64 y.seq, .slice A1 n1 c1, .slice A2 y.runs.length c2] 61)) ((w.alloc (.cells #[.int .i64 y.now, .int .i64 y.seq, .slice A1 n1 c1, .slice A2 y.runs.length c2] 61)).alloc (.cells #[] 26)) := (Below.refl _ _).alloc (Nat.le_refl _) _
 replace X := X.below b0
 replace B0 := bnext B0 b0
 rw [← hWs] at o0
 go_loopw [3, 4] (fun v i wr => ∃ k : Nat, k ≤ y.runs.length ∧ i = .int .i64 k ∧ Hid (Bls (Dt.flats intE) 26 wr (w.heap.size + 1) v ((lateU y k).map (rowOf y))) ∧ DBox w.heap.size [.int .i64 y.now, .int .i64 y.seq, .slice A1 n1 c1, .slice A2 y.runs.length c2] wr ∧ Below w.heap.size w wr) (fun _ i _ => y.runs.length - (intOf i).toNat)
 case atStart => exact ⟨0, Nat.zero_le _, rfl, ⟨[], rfl, Bld.of_empty o0⟩, X, B0⟩
 case round =>
  clear X B0 o0 b0 hWs
  obtain ⟨k, hk, rfl, hB, X, hb⟩ := hrel
  obtain ⟨X_0, X_1, X_2, X_3, X_l⟩ := X.g4
  by_cases hlt : k < y.runs.length
  ·have hltI : (k : Int) < (y.runs.length : Int) := by omega
   have hk0 : (0 : Int) ≤ (k : Int) := by omega
   go_wp2
   go_loopw [3, 5, 6] (fun vv i u wr => ∃ (n : Nat) (v : Value), n ≤ y.runs[k].tasks.length ∧ i = .int .i64 n ∧ v = vv ∧ Hid (Bls (Dt.flats intE) 26 wr (w.heap.size + 1) v ((lateU y k ++ lateR y k n).map (rowOf y))) ∧ DBox w.heap.size [.int .i64 y.now, .int .i64 y.seq, .slice A1 n1 c1, .slice A2 y.runs.length c2] wr ∧ Below w.heap.size w wr) (fun _ i _ _ => y.runs[k].tasks.length - (intOf i).toNat)
   case atStart => exact ⟨0, _, Nat.zero_le _, rfl, rfl, by rw [lateR_zero, List.append_nil]; exact hB, X, hb⟩
   case round =>
    clear X_0 X_1 X_2 X_3 X_l
    clear X hb hB
    obtain ⟨n, v, hn, rfl, rfl, hB, X, hb⟩ := hrel
    obtain ⟨b, o, ⟨s1, ⟨At, nt, ct⟩⟩, rfl, hbb, hrr, c0, c1_, c2_, c3_, c4_, c5_, c6_, c7⟩ := (CX.out wr hb).run hlt
    obtain rfl : nt = y.runs[k].tasks.length := RdL.at1 (s := ⟨At, nt, ct⟩) hrr.2
    have h3 : RdL taskD wr w.heap.size (.slice At y.runs[k].tasks.length ct) y.runs[k].tasks := hrr.2
    clear c1_ c2_ c3_ c4_ c5_ c6_ hrr
    obtain ⟨X_0, X_1, X_2, X_3, X_l⟩ := X.g4
    have hwrs := hb.size
    by_cases hnt : n < y.runs[k].tasks.length
    ·have hT12 := (runP_len (yard_runs HP.out hlt)).2
     have hntI : (n : Int) < (y.runs[k].tasks.length : Int) := by omega
     have hn0 : (0 : Int) ≤ (n : Int) := by omega
     obtain ⟨b', o', _, rfl, hbb', _, d0, d1, d2, d3⟩ := h3.task hnt
     have hU := Lib.hid (fun hs => yard_until HP.out hlt hnt hs)
     have hJ := Lib.hid (show taskAt (runJ y k) n = y.runs[k].tasks[n] by rw [runJ_get hlt, taskAt_get hnt])
     have hRow : Hid (rowOf y (k, n) = [y.runs[k].id, (n : Int), y.runs[k].tasks[n].try_]) := by
      show rowOf y (k, n) = _
      unfold rowOf
      rw [hJ.out, runJ_get hlt]
     have hlen := Lib.hid (show (lateU y k ++ lateR y k n).length ≤ 3000000 by
      have h1 := lateU_len (runJ_len HP.out) k
      have h2 := lateR_len y k n
      have h5 := (runP_len (yard_runs HP.out hlt)).2
      rw [List.length_append]
      omega)
     generalize y.runs[k].tasks[n] = x at *
     generalize y.runs[k].id = rid at *
     have TB := DBox.new 100 [.int .i64 x.state, .int .i64 x.need, .int .i64 x.try_, .int .i64 x.until_] wr (b := wr.heap.size) rfl
     have b2 : Below wr.heap.size wr (wr.alloc (.cells #[.int .i64 x.state, .int .i64 x.need, .int .i64 x.try_, .int .i64 x.until_] 100)) := (Below.refl _ _).alloc (Nat.le_refl _) _
     go_upto_region 9 with fail
     clear X_0 X_1 X_2 X_3 X_l
     replace X := X.below b2
     have hb2 := bnext hb b2
     have hB2 := hB.out.below b2
     have htl := TB.lt
     have hXl := X.lt
     replace c0 := (b2.cell (p := ⟨b, _, none⟩) (by show b < wr.heap.size; omega)).trans c0
     have hvb := Lib.hid (show ∀ z, v.ownBlock = some z → w.heap.size + 1 ≤ z ∧ z ≠ wr.heap.size ∧ z ≠ b from fun z hz => by
      obtain ⟨rs, hm, hBl⟩ := hB.out
      have h1 := hBl.ow.within z hz
      omega)
     have hbw : b < (wr.alloc (.cells #[.int .i64 x.state, .int .i64 x.need, .int .i64 x.try_, .int .i64 x.until_] 100)).heap.size := by simp; omega
     clear b2 c7 d0 d1 d2 d3 hb hB
     generalize wr.alloc (.cells #[.int .i64 x.state, .int .i64 x.need, .int .i64 x.try_, .int .i64 x.until_] 100) = w2 at *
     generalize htb : wr.heap.size = tb at *
     obtain ⟨X_0, X_1, X_2, X_3, X_l⟩ := X.g4
     obtain ⟨TB_0, TB_1, TB_2, TB_3, TB_l⟩ := TB.g4
     by_cases q : x.state = 3
     case neg =>
      have q1 : (x.state == 3) = false := by simp [q]
      have S := Lib.hid (lateR_no (y := y) (k := k) (n := n) (by rw [hJ.out]; unfold lateB; rw [q1]; rfl))
      clear q
      go_wp2
      exact ⟨⟨n + 1, v, hnt, by go_num, rfl, by rw [S.out]; exact hB2, X, hb2⟩, by simp [intOf]; omega⟩
     have q1 : (x.state == 3) = true := by simp [q]
     have hu := hU.out q
     have wr1 : IntKind.i64.wrap (x.until_ - 1) = x.until_ - 1 := IntWalk.i64_in _ (by have := HP.out.1; omega)
     have q2 : ¬ x.until_ ≤ y.now := by omega
     by_cases q3 : x.until_ - 1 ≤ y.now
     case neg =>
      have S := Lib.hid (lateR_no (y := y) (k := k) (n := n) (by rw [hJ.out]; unfold lateB; rw [q1, decide_eq_false q3]; rfl))
      clear q hu
      go_wp2
      exact ⟨⟨n + 1, v, hnt, by go_num, rfl, by rw [S.out]; exact hB2, X, hb2⟩, by simp [intOf]; omega⟩
     have S := Lib.hid (lateR_yes (y := y) (k := k) (n := n) (by rw [hJ.out]; unfold lateB; rw [q1, decide_eq_true q3]; rfl))
     clear q hu
     go_wp2
     clear TB_0 TB_1 TB_2 TB_3 TB_l
     refine Go.wp_region_noPanic ?_
     refine wp_region_held_drew (S := (fun w' => DBox w.heap.size [.int .i64 y.now, .int .i64 y.seq, .slice A1 n1 c1, .slice (some ⟨b, o, none⟩) y.runs.length c2] w' ∧ w'.cell? ⟨b, o + k * 8, none⟩ = some (.int .i64 rid) ∧ DBox tb [.int .i64 x.state, .int .i64 x.need, .int .i64 x.try_, .int .i64 x.until_] w')) (by kernel_rfl) ⟨DBox.drew4 X, c0, DBox.drew4 TB⟩ (fun hHeld => ?_)
     have hbd := hb2.drew
     have hBd := hB2.below (Below.refl _ _).drew
     have hsd : w2.drew.heap.size = w2.heap.size := rfl
     clear X_0 X_1 X_2 X_3 X_l
     clear X c0 TB hb2 hB2
     rw [← hsd] at hbw htl hXl
     clear hsd
     generalize w2.drew = w3 at *
     refine tZ 0 ?_ (hy := by (intro w' hSw; (try dsimp only at hSw); have f3 := hSw.1.cell 3 _ rfl; have f4 := hSw.2.1; have f5 := hSw.2.2.cell 2 _ rfl; go_simp; (try with_reducible rfl)))
     (try simp only [pS])
     refine tZ 1 ?_ (hy := by (intro w' hSw; (try dsimp only at hSw); have f3 := hSw.1.cell 3 _ rfl; have f4 := hSw.2.1; have f5 := hSw.2.2.cell 2 _ rfl; go_simp; (try with_reducible rfl)))
     (try simp only [pS])
     refine tZ 2 ?_ (hy := by (intro w' hSw; (try dsimp only at hSw); have f3 := hSw.1.cell 3 _ rfl; have f4 := hSw.2.1; have f5 := hSw.2.2.cell 2 _ rfl; go_simp; (try with_reducible rfl)))
     (try simp only [pS])
     refine tZ 3 ?_ (hy := by (intro w' hSw; (try dsimp only at hSw); have f3 := hSw.1.cell 3 _ rfl; have f4 := hSw.2.1; have f5 := hSw.2.2.cell 2 _ rfl; go_simp; (try with_reducible rfl)))
     (try simp only [pS])
     refine tZ 4 ?_ (hy := by (intro w' hSw; (try dsimp only at hSw); have f3 := hSw.1.cell 3 _ rfl; have f4 := hSw.2.1; have f5 := hSw.2.2.cell 2 _ rfl; go_simp; (try with_reducible rfl)))
     (try simp only [pS])
     refine tZ 5 ?_ (hy := by (intro w' hSw; (try dsimp only at hSw); have f3 := hSw.1.cell 3 _ rfl; have f4 := hSw.2.1; have f5 := hSw.2.2.cell 2 _ rfl; go_simp; (try with_reducible rfl)))
     (try simp only [pS])
     refine tZ 6 ?_ (hy := by (intro w' hSw; (try dsimp only at hSw); have f3 := hSw.1.cell 3 _ rfl; have f4 := hSw.2.1; have f5 := hSw.2.2.cell 2 _ rfl; go_simp; (try with_reducible rfl)))
     (try simp only [pS])
     refine tZ 7 ?_ (hy := by (intro w' hSw; (try dsimp only at hSw); have f3 := hSw.1.cell 3 _ rfl; have f4 := hSw.2.1; have f5 := hSw.2.2.cell 2 _ rfl; go_simp; (try with_reducible rfl)))
     (try simp only [pS])
     refine tZ 8 ?_ (hy := by (intro w' hSw; (try dsimp only at hSw); have f3 := hSw.1.cell 3 _ rfl; have f4 := hSw.2.1; have f5 := hSw.2.2.cell 2 _ rfl; go_simp; (try with_reducible rfl)))
     (try simp only [pS])
     refine tZ 9 ?_ (hy := by (intro w' hSw; (try dsimp only at hSw); have f3 := hSw.1.cell 3 _ rfl; have f4 := hSw.2.1; have f5 := hSw.2.2.cell 2 _ rfl; go_simp; (try with_reducible rfl)))
     (try simp only [pS])
     refine rC 10 (fun K_ hK => ?_)
     go_simp
     have o9 := Ow.intsK w3 3 [rid, (n : Int), x.try_] (cs := #[.int .i64 rid, .int .i64 (n : Int), .int .i64 x.try_]) rfl (n := 3) (g := w3.heap.size) (base := w3.heap.size) rfl rfl (Nat.le_refl _) (by simp)
     have b4 : Below w3.heap.size w3 (w3.alloc (.cells #[.int .i64 rid, .int .i64 (n : Int), .int .i64 x.try_] 3)) := (Below.refl _ _).alloc (Nat.le_refl _) _
     have hs4 := b4.size
     obtain ⟨hw9, hwB⟩ := Hw.of_ow o9
     refine hK.out _ _ ⟨hHeld.1.below b4, (b4.cell (p := ⟨b, _, none⟩) hbw).trans hHeld.2.1, hHeld.2.2.below b4⟩ (fun hHeld => ?_)
     clear hK K_
     (try simp only [pS])
     generalize hg9 : w3.heap.size = g9 at *
     generalize w3.alloc (.cells #[.int .i64 rid, .int .i64 (n : Int), .int .i64 x.try_] 3) = w4 at *
     refine rC 11 (fun K_ hK => ?_)
     go_simp
     have b5 : Below w4.heap.size w4 (w4.alloc (.cells #[.slice (some ⟨g9, 0, none⟩) 3 3] 26)) := (Below.refl _ _).alloc (Nat.le_refl _) _
     have hbw4 : b < w4.heap.size := by omega
     refine hK.out _ _ ⟨hHeld.1.below b5, (b5.cell (p := ⟨b, _, none⟩) hbw4).trans hHeld.2.1, hHeld.2.2.below b5⟩ (fun hHeld => ?_)
     clear hK K_
     (try simp only [pS])
     obtain ⟨rs, hm, hBld⟩ := hBd
     have hrl : rs.length ≤ 3000000 := by
      have h1 := congrArg List.length hm
      rw [List.length_map, List.length_map] at h1
      rw [h1]
      exact hlen.out
     have hrs := Lib.hid hrl
     clear hrl
     have b45 := bnext (by rw [hg9]; exact b4) b5
     refine rC 12 (fun K_ hK => ?_)
     refine wp_append_rd _ (Dt.flats intE).enc (by decide) (.tmp 53) (.tmp 64) 123 rfl (w.heap.size + 1) 26 _ _ _ Try.underlying123 i0 z0 z1 z2 rfl v rs rfl (hBld.ow.below b45) _ _ _ _ [([rid, (n : Int), x.try_], (⟨some ⟨g9, 0, none⟩, 3, 3⟩ : Sl))] rfl (Rd.one (Dt.flats intE).enc _ _ ([rid, (n : Int), x.try_], (⟨some ⟨g9, 0, none⟩, 3, 3⟩ : Sl)) rfl rfl 1 (Nat.le_refl _) (Nat.lt_succ_self _)) hrs.out (by simp) (by decide) (by have := b45.size; omega) ?_
     intro v6 w6 o6 gg f6
     have hP := Bld.push1 (d := Dt.flats intE) (x := [rid, (n : Int), x.try_]) (s := (⟨some ⟨g9, 0, none⟩, 3, 3⟩ : Sl)) hBld (by rw [hg9]; exact b4) hw9 (fun y hy => by rw [hg9]; exact hwB y hy) (by omega) b5 o6 gg f6
     have hXo : ∀ z, v.ownBlock = some z → w.heap.size + 1 ≤ z ∧ z ≠ tb ∧ z ≠ b := fun z hz => hvb.out z hz
     have X6 := hHeld.1.off gg (fun e => by have := (hXo _ e.symm).1; omega)
     have T6 := hHeld.2.2.off gg (fun e => (hXo _ e.symm).2.1 rfl)
     have hbw5 : b < (w4.alloc (.cells #[.slice (some ⟨g9, 0, none⟩) 3 3] 26)).heap.size := by have := b5.size; omega
     have c6 := (gg.cell_far ⟨b, o + k * 8, none⟩ hbw5 (fun e => (hXo _ e.symm).2.2 rfl)).trans hHeld.2.1
     have hb6 : Below w.heap.size w w6 := (bnext hbd b45).grown gg (bnext hbd b45).size (fun g hg => by have := (hXo g hg).1; omega)
     have hmm : (rs ++ [([rid, (n : Int), x.try_], (⟨some ⟨g9, 0, none⟩, 3, 3⟩ : Sl))]).map (·.1) = (lateU y k ++ lateR y k (n + 1)).map (rowOf y) := by
      simp only [List.map_append, List.map_cons, List.map_nil, hm, S.out, hRow.out, List.append_assoc]
     have hB6 : Bls (Dt.flats intE) 26 w6 (w.heap.size + 1) v6 ((lateU y k ++ lateR y k (n + 1)).map (rowOf y)) := ⟨_, hmm, hP⟩
     refine hK.out _ _ ⟨X6, c6, T6⟩ (fun hHeld => ?_)
     clear hK K_
     (try simp only [pS])
     refine tZ 13 ?_ (hy := by (intro w' hSw; (try dsimp only at hSw); have f3 := hSw.1.cell 3 _ rfl; have f4 := hSw.2.1; have f5 := hSw.2.2.cell 2 _ rfl; go_simp; (try with_reducible rfl)))
     (try simp only [pS])
     refine wpAnyH_done (by kernel_rfl) ?_ _
     refine NoPanic.normal ?_
     have hB7 := Lib.hid hB6
     clear hHeld hP hmm hB6 hm hBld gg o6 f6 T6 c6
     go_wp2
     refine ⟨⟨n + 1, hnt, by go_num, ?_⟩, by simp [intOf]; omega⟩
     rw [← List.map_append]
     exact hB7
    ·have hntI : ¬ (n : Int) < (y.runs[k].tasks.length : Int) := by omega
     have S := Lib.hid (show lateU y (k + 1) = lateU y k ++ lateR y k n by
      rw [lateU_succ, show (runJ y k).tasks.length = n by rw [runJ_get hlt]; omega])
     go_wp2
     exact ⟨⟨k + 1, by omega, by go_num, by rw [S.out]; exact hB, X, hb⟩, by simp [intOf]; omega⟩
  ·have hltI : ¬ (k : Int) < (y.runs.length : Int) := by omega
   obtain rfl : k = y.runs.length := by omega
   obtain ⟨rs, hm, hBl⟩ := hB.out
   obtain ⟨F, h1, h2⟩ := hBl.owl hm
   obtain ⟨A, c, hv, _⟩ := h1.form
   rw [List.length_map] at hv
   subst hv
   have hfin : OwnPost (Dt.list (Dt.flats intE)) slV ((lateU y y.runs.length).map (rowOf y)) w (.returned (.slice A (lateU y y.runs.length).length c)) wr := ⟨⟨A, _, c⟩, F, rfl, h1, fun x hx => by have := h2 x hx; omega, hb⟩
   clear hB hBl h1
   go_wp2
   go_ret
   exact hfin
end Go.Proofs.Ytonlnjdempbfoaa
end
