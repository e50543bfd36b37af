/-
  The law FnExactDeskNew: its walk, out of the contracts of what it calls. Written by program (lawdeep.py).
-/
import Derived.Test.YtcapldjhcplfmaaDk
import Derived.Test.YtcapldjhcplfmaaMv
import Derived.Test.YtcapldjhcplfmaaDb
import Derived.Deep.RegionHeld3
namespace Go.Proofs.Ytcapldjhcplfmaa
open Go.RowKit
set_option maxRecDepth 100000
set_option maxHeartbeats 2000000
set_option linter.unusedVariables false

theorem lawDeskNew_walk  (w : World)  :
    Calls Try.prog 12 #[] w fun e w' => e = .returned (.bool true) ∧ Below w.heap.size w w' := by
  have b0 := Below.refl w.heap.size w
  go_enter Try.func12, Try.ntmps12
  have hmr : cntDesk deskNew ≤ 2000000 := by decide
  go_wp2_with fail
  refine (specDeskNew_own _  ).mono ?_
  rintro e w1 ⟨rw0, Fw0, rfl, ow0, nw0, c1⟩
  have b1 := bnext b0 c1
  have s1_ : w.heap.size ≤ w1.heap.size := c1.size
  replace ow0 : deskD.ow w1 Fw0 deskNew rw0 := ow0
  replace nw0 : ∀ b ∈ Fw0, w.heap.size ≤ b := nw0
  have tw0 : ∀ b ∈ Fw0, b < w1.heap.size := (deskD.ow_lt ow0)
  go_wp2_with fail
  generalize hW2 : w1.alloc (.cells #[.int .i64 deskNew.yard.now, .int .i64 deskNew.yard.seq, .slice rw0.1.1.a rw0.1.1.n rw0.1.1.c, .slice rw0.1.2.a rw0.1.2.n rw0.1.2.c, .slice rw0.2.a rw0.2.n rw0.2.c, .int .i64 deskNew.fr] 78) = w2
  have c2 : Below w1.heap.size w1 w2 := by rw [← hW2]; exact (Below.refl _ _).alloc (Nat.le_refl _) _
  have Dw0 : DBox (w1.heap.size) [.int .i64 deskNew.yard.now, .int .i64 deskNew.yard.seq, .slice rw0.1.1.a rw0.1.1.n rw0.1.1.c, .slice rw0.1.2.a rw0.1.2.n rw0.1.2.c, .slice rw0.2.a rw0.2.n rw0.2.c, .int .i64 deskNew.fr] w2 := by rw [← hW2]; exact DBox.new 78 _ _ (rfl)
  clear hW2
  have lw0 := Dw0.lt
  have b2 := bnext b1 c2
  replace ow0 := (deskD.ow_below ow0 c2)
  have s2_ : w1.heap.size ≤ w2.heap.size := c2.size
  refine (implDeskNew_own _  ).mono ?_
  rintro e w3 ⟨rg0, Fg0, rfl, og0, ng0, c3⟩
  have b3 := bnext b2 c3
  replace ow0 := (deskD.ow_below ow0 c3)
  replace Dw0 := Dw0.below c3
  have s3_ : w2.heap.size ≤ w3.heap.size := c3.size
  replace og0 : deskD.ow w3 Fg0 deskNew rg0 := og0
  replace ng0 : ∀ b ∈ Fg0, w2.heap.size ≤ b := ng0
  have tg0 : ∀ b ∈ Fg0, b < w3.heap.size := (deskD.ow_lt og0)
  have cw00 : w3.cell? ⟨w1.heap.size, 0, none⟩ = some (.int .i64 deskNew.yard.now) := Dw0.cell 0 _ rfl
  have cw01 : w3.cell? ⟨w1.heap.size, 1, none⟩ = some (.int .i64 deskNew.yard.seq) := Dw0.cell 1 _ rfl
  have cw02 : w3.cell? ⟨w1.heap.size, 2, none⟩ = some (.slice rw0.1.1.a rw0.1.1.n rw0.1.1.c) := Dw0.cell 2 _ rfl
  have cw03 : w3.cell? ⟨w1.heap.size, 3, none⟩ = some (.slice rw0.1.2.a rw0.1.2.n rw0.1.2.c) := Dw0.cell 3 _ rfl
  have cw04 : w3.cell? ⟨w1.heap.size, 4, none⟩ = some (.slice rw0.2.a rw0.2.n rw0.2.c) := Dw0.cell 4 _ rfl
  have cw05 : w3.cell? ⟨w1.heap.size, 5, none⟩ = some (.int .i64 deskNew.fr) := Dw0.cell 5 _ rfl
  have cw0s := Dw0.lt
  go_wp2_with fail
  clear cw00 cw01 cw02 cw03 cw04 cw05 cw0s
  generalize hW4 : w3.alloc (.cells #[.int .i64 deskNew.yard.now, .int .i64 deskNew.yard.seq, .slice rg0.1.1.a rg0.1.1.n rg0.1.1.c, .slice rg0.1.2.a rg0.1.2.n rg0.1.2.c, .slice rg0.2.a rg0.2.n rg0.2.c, .int .i64 deskNew.fr] 78) = w4
  have c4 : Below w3.heap.size w3 w4 := by rw [← hW4]; exact (Below.refl _ _).alloc (Nat.le_refl _) _
  have Dg0 : DBox (w3.heap.size) [.int .i64 deskNew.yard.now, .int .i64 deskNew.yard.seq, .slice rg0.1.1.a rg0.1.1.n rg0.1.1.c, .slice rg0.1.2.a rg0.1.2.n rg0.1.2.c, .slice rg0.2.a rg0.2.n rg0.2.c, .int .i64 deskNew.fr] w4 := by rw [← hW4]; exact DBox.new 78 _ _ (rfl)
  clear hW4
  have lg0 := Dg0.lt
  have b4 := bnext b3 c4
  replace ow0 := (deskD.ow_below ow0 c4)
  replace og0 := (deskD.ow_below og0 c4)
  replace Dw0 := Dw0.below c4
  have s4_ : w3.heap.size ≤ w4.heap.size := c4.size
  refine (eqDesk_own deskNew deskNew rg0 rw0 _ hmr hmr (deskD.ow_rd og0) (deskD.ow_rd ow0)).mono ?_
  rintro e w5 ⟨rfl, c5⟩
  have b5 := bnext b4 c5
  replace ow0 := (deskD.ow_below ow0 c5)
  replace og0 := (deskD.ow_below og0 c5)
  replace Dw0 := Dw0.below c5
  replace Dg0 := Dg0.below c5
  have s5_ : w4.heap.size ≤ w5.heap.size := c5.size
  have kg0_ := (nvDesk_le deskNew)
  have cg00 : w5.cell? ⟨w3.heap.size, 0, none⟩ = some (.int .i64 deskNew.yard.now) := Dg0.cell 0 _ rfl
  have cg01 : w5.cell? ⟨w3.heap.size, 1, none⟩ = some (.int .i64 deskNew.yard.seq) := Dg0.cell 1 _ rfl
  have cg02 : w5.cell? ⟨w3.heap.size, 2, none⟩ = some (.slice rg0.1.1.a rg0.1.1.n rg0.1.1.c) := Dg0.cell 2 _ rfl
  have cg03 : w5.cell? ⟨w3.heap.size, 3, none⟩ = some (.slice rg0.1.2.a rg0.1.2.n rg0.1.2.c) := Dg0.cell 3 _ rfl
  have cg04 : w5.cell? ⟨w3.heap.size, 4, none⟩ = some (.slice rg0.2.a rg0.2.n rg0.2.c) := Dg0.cell 4 _ rfl
  have cg05 : w5.cell? ⟨w3.heap.size, 5, none⟩ = some (.int .i64 deskNew.fr) := Dg0.cell 5 _ rfl
  have cg0s := Dg0.lt
  go_wp2_with fail
  clear cg00 cg01 cg02 cg03 cg04 cg05 cg0s
  refine (markDesk_own deskNew rg0 Fg0 1 _ hmr (by omega) (by omega) og0).mono ?_
  rintro e w6 ⟨rfl, oo6, c6⟩
  have b6 := b5.trans (c6.below b5.size (fun x hx => by have := ng0 x hx; omega))
  replace ow0 := (deskD.ow_chg ow0 c6 (apart_of (in_of nw0 tw0) (in_of ng0 tg0) (by first | exact .inl (by omega) | exact .inr (by omega))))
  replace Dw0 := Dw0.chg c6 (fun hx => by have h1 := ng0 _ hx; have h2 := tg0 _ hx; omega)
  replace Dg0 := Dg0.chg c6 (fun hx => by have h1 := ng0 _ hx; have h2 := tg0 _ hx; omega)
  have s6_ : w5.heap.size ≤ w6.heap.size := c6.size
  replace og0 : deskD.ow w6 Fg0 (mvDesk 1 deskNew) rg0 := oo6
  have cg00 : w6.cell? ⟨w3.heap.size, 0, none⟩ = some (.int .i64 deskNew.yard.now) := Dg0.cell 0 _ rfl
  have cg01 : w6.cell? ⟨w3.heap.size, 1, none⟩ = some (.int .i64 deskNew.yard.seq) := Dg0.cell 1 _ rfl
  have cg02 : w6.cell? ⟨w3.heap.size, 2, none⟩ = some (.slice rg0.1.1.a rg0.1.1.n rg0.1.1.c) := Dg0.cell 2 _ rfl
  have cg03 : w6.cell? ⟨w3.heap.size, 3, none⟩ = some (.slice rg0.1.2.a rg0.1.2.n rg0.1.2.c) := Dg0.cell 3 _ rfl
  have cg04 : w6.cell? ⟨w3.heap.size, 4, none⟩ = some (.slice rg0.2.a rg0.2.n rg0.2.c) := Dg0.cell 4 _ rfl
  have cg05 : w6.cell? ⟨w3.heap.size, 5, none⟩ = some (.int .i64 deskNew.fr) := Dg0.cell 5 _ rfl
  have cg0s := Dg0.lt
  go_wp2_with fail
  clear cg00 cg01 cg02 cg03 cg04 cg05 cg0s
  refine (heldDesk_own deskNew rg0 1 _ hmr (by omega) (by omega) (deskD.ow_rd og0)).mono ?_
  rintro e w7 ⟨rfl, c7⟩
  have b7 := bnext b6 c7
  replace ow0 := (deskD.ow_below ow0 c7)
  replace og0 := (deskD.ow_below og0 c7)
  replace Dw0 := Dw0.below c7
  replace Dg0 := Dg0.below c7
  have s7_ : w6.heap.size ≤ w7.heap.size := c7.size
  go_wp2_with fail
  refine (implDeskNew_own _  ).mono ?_
  rintro e w8 ⟨rh0, Fh0, rfl, oh0, nh0, c8⟩
  have b8 := bnext b7 c8
  replace ow0 := (deskD.ow_below ow0 c8)
  replace og0 := (deskD.ow_below og0 c8)
  replace Dw0 := Dw0.below c8
  replace Dg0 := Dg0.below c8
  have s8_ : w7.heap.size ≤ w8.heap.size := c8.size
  replace oh0 : deskD.ow w8 Fh0 deskNew rh0 := oh0
  replace nh0 : ∀ b ∈ Fh0, w7.heap.size ≤ b := nh0
  have th0 : ∀ b ∈ Fh0, b < w8.heap.size := (deskD.ow_lt oh0)
  have cw00 : w8.cell? ⟨w1.heap.size, 0, none⟩ = some (.int .i64 deskNew.yard.now) := Dw0.cell 0 _ rfl
  have cw01 : w8.cell? ⟨w1.heap.size, 1, none⟩ = some (.int .i64 deskNew.yard.seq) := Dw0.cell 1 _ rfl
  have cw02 : w8.cell? ⟨w1.heap.size, 2, none⟩ = some (.slice rw0.1.1.a rw0.1.1.n rw0.1.1.c) := Dw0.cell 2 _ rfl
  have cw03 : w8.cell? ⟨w1.heap.size, 3, none⟩ = some (.slice rw0.1.2.a rw0.1.2.n rw0.1.2.c) := Dw0.cell 3 _ rfl
  have cw04 : w8.cell? ⟨w1.heap.size, 4, none⟩ = some (.slice rw0.2.a rw0.2.n rw0.2.c) := Dw0.cell 4 _ rfl
  have cw05 : w8.cell? ⟨w1.heap.size, 5, none⟩ = some (.int .i64 deskNew.fr) := Dw0.cell 5 _ rfl
  have cw0s := Dw0.lt
  go_wp2_with fail
  clear cw00 cw01 cw02 cw03 cw04 cw05 cw0s
  generalize hW9 : w8.alloc (.cells #[.int .i64 deskNew.yard.now, .int .i64 deskNew.yard.seq, .slice rh0.1.1.a rh0.1.1.n rh0.1.1.c, .slice rh0.1.2.a rh0.1.2.n rh0.1.2.c, .slice rh0.2.a rh0.2.n rh0.2.c, .int .i64 deskNew.fr] 78) = w9
  have c9 : Below w8.heap.size w8 w9 := by rw [← hW9]; exact (Below.refl _ _).alloc (Nat.le_refl _) _
  have Dh0 : DBox (w8.heap.size) [.int .i64 deskNew.yard.now, .int .i64 deskNew.yard.seq, .slice rh0.1.1.a rh0.1.1.n rh0.1.1.c, .slice rh0.1.2.a rh0.1.2.n rh0.1.2.c, .slice rh0.2.a rh0.2.n rh0.2.c, .int .i64 deskNew.fr] w9 := by rw [← hW9]; exact DBox.new 78 _ _ (rfl)
  clear hW9
  have lh0 := Dh0.lt
  have b9 := bnext b8 c9
  replace ow0 := (deskD.ow_below ow0 c9)
  replace og0 := (deskD.ow_below og0 c9)
  replace oh0 := (deskD.ow_below oh0 c9)
  replace Dw0 := Dw0.below c9
  replace Dg0 := Dg0.below c9
  have s9_ : w8.heap.size ≤ w9.heap.size := c9.size
  refine (eqDesk_own deskNew deskNew rh0 rw0 _ hmr hmr (deskD.ow_rd oh0) (deskD.ow_rd ow0)).mono ?_
  rintro e w10 ⟨rfl, c10⟩
  have b10 := bnext b9 c10
  replace ow0 := (deskD.ow_below ow0 c10)
  replace og0 := (deskD.ow_below og0 c10)
  replace oh0 := (deskD.ow_below oh0 c10)
  replace Dw0 := Dw0.below c10
  replace Dg0 := Dg0.below c10
  replace Dh0 := Dh0.below c10
  have s10_ : w9.heap.size ≤ w10.heap.size := c10.size
  have cg00 : w10.cell? ⟨w3.heap.size, 0, none⟩ = some (.int .i64 deskNew.yard.now) := Dg0.cell 0 _ rfl
  have cg01 : w10.cell? ⟨w3.heap.size, 1, none⟩ = some (.int .i64 deskNew.yard.seq) := Dg0.cell 1 _ rfl
  have cg02 : w10.cell? ⟨w3.heap.size, 2, none⟩ = some (.slice rg0.1.1.a rg0.1.1.n rg0.1.1.c) := Dg0.cell 2 _ rfl
  have cg03 : w10.cell? ⟨w3.heap.size, 3, none⟩ = some (.slice rg0.1.2.a rg0.1.2.n rg0.1.2.c) := Dg0.cell 3 _ rfl
  have cg04 : w10.cell? ⟨w3.heap.size, 4, none⟩ = some (.slice rg0.2.a rg0.2.n rg0.2.c) := Dg0.cell 4 _ rfl
  have cg05 : w10.cell? ⟨w3.heap.size, 5, none⟩ = some (.int .i64 deskNew.fr) := Dg0.cell 5 _ rfl
  have cg0s := Dg0.lt
  go_wp2_with fail
  clear cg00 cg01 cg02 cg03 cg04 cg05 cg0s
  refine (heldDesk_own deskNew rg0 1 _ hmr (by omega) (by omega) (deskD.ow_rd og0)).mono ?_
  rintro e w11 ⟨rfl, c11⟩
  have b11 := bnext b10 c11
  replace ow0 := (deskD.ow_below ow0 c11)
  replace og0 := (deskD.ow_below og0 c11)
  replace oh0 := (deskD.ow_below oh0 c11)
  replace Dw0 := Dw0.below c11
  replace Dg0 := Dg0.below c11
  replace Dh0 := Dh0.below c11
  have s11_ : w10.heap.size ≤ w11.heap.size := c11.size
  go_wp2_with fail
  go_ret
  exact ⟨rfl, b11⟩
end Go.Proofs.Ytcapldjhcplfmaa
