/-
  Marks of data handed on by value. Written by program (mv.py).
-/
import Derived.Test.YtcapldjhcplfmaaDb
import Derived.Test.YtcapldjhcplfmaaTDesk
namespace Go.Proofs.Ytcapldjhcplfmaa
open Go.RowKit
set_option maxRecDepth 100000
set_option maxHeartbeats 1000000
set_option linter.unusedVariables false
set_option linter.unusedSimpArgs false

def nvYard (x : Yard) : Nat := numL numEntryS x.shelf + numL numRun x.runs
def mvYard (k : Int) (x : Yard) : Yard := ⟨x.now, x.seq, (mkL mkEntryS numEntryS k x.shelf), (mkL mkRun numRun (k + (numL numEntryS x.shelf : Nat)) x.runs)⟩
theorem nvYard_le (x : Yard) : nvYard x ≤ 13 * cntYard x := by
  have h0 := numL_le (num := numEntryS) (cnt := cntEntryS) (K := 13) numEntryS_le x.shelf
  have h1 := numL_le (num := numRun) (cnt := cntRun) (K := 13) numRun_le x.runs
  unfold nvYard cntYard
  omega

theorem markYard_own (x : Yard) (s : Sl × Sl) (F : List Nat) (k : Int) (w : World) (hl : cntYard x ≤ 2000000) (hk0 : 0 ≤ k) (hk1 : k ≤ 100000000) (h : yardD.ow w F x s) :
    Calls Try.prog 114 #[yardW x s, .int .i64 k] w (MkPost yardD F (mvYard k x) s (k + (nvYard x : Nat)) w) := by
  have hF := yardD.ow_lt h
  have D := DBox.new 62 [.int .i64 x.now, .int .i64 x.seq, .slice s.1.a s.1.n s.1.c, .slice s.2.a s.2.n s.2.c] w rfl
  have B0 : Below w.heap.size w (w.alloc (.cells #[.int .i64 x.now, .int .i64 x.seq, .slice s.1.a s.1.n s.1.c, .slice s.2.a s.2.n s.2.c] 62)) := (Below.refl _ _).alloc (Nat.le_refl _) _
  have n0 : numL numEntryS x.shelf ≤ 13 * (cntL cntEntryS x.shelf) := numL_le (num := numEntryS) (cnt := cntEntryS) (K := 13) numEntryS_le x.shelf
  have n1 : numL numRun x.runs ≤ 13 * (cntL cntRun x.runs) := numL_le (num := numRun) (cnt := cntRun) (K := 13) numRun_le x.runs
  have hcs : cntL cntEntryS x.shelf ≤ 2000000 ∧ cntL cntRun x.runs ≤ 2000000 := by unfold cntYard at hl; omega
  go_enter Try.func114, Try.ntmps114
  go_wp2_with fail
  generalize (w.alloc (.cells #[.int .i64 x.now, .int .i64 x.seq, .slice s.1.a s.1.n s.1.c, .slice s.2.a s.2.n s.2.c] 62)) = w0 at *
  have C0 := Chg.of_below F B0
  obtain ⟨F1, F2, rfl, hn, o1, o2⟩ := h
  have hap := nodup_apart hn
  have o1 := OwL.below o1 B0
  have o2 := OwL.below o2 B0
  refine (markEntrySS_own x.shelf s.1 F1 k w0 hcs.1 (by omega) (by omega) o1).mono ?_
  rintro e w1 ⟨rfl, m1, g1⟩
  replace D := D.chg g1 (fun hx => by have := hF _ (List.mem_append_left _ hx); omega)
  replace o2 := OwL.chg o2 g1 hap.2
  have c0 : w1.cell? ⟨w.heap.size, 0, none⟩ = some (.int .i64 x.now) := D.cell 0 _ rfl
  have c1 : w1.cell? ⟨w.heap.size, 1, none⟩ = some (.int .i64 x.seq) := D.cell 1 _ rfl
  have c2 : w1.cell? ⟨w.heap.size, 2, none⟩ = some (.slice s.1.a s.1.n s.1.c) := D.cell 2 _ rfl
  have c3 : w1.cell? ⟨w.heap.size, 3, none⟩ = some (.slice s.2.a s.2.n s.2.c) := D.cell 3 _ rfl
  go_wp2_with fail
  refine (markRunS_own x.runs s.2 F2 (k + (numL numEntryS x.shelf : Nat)) w1 hcs.2 (by omega) (by omega) o2).mono ?_
  rintro e w2 ⟨rfl, m2, g2⟩
  replace D := D.chg g2 (fun hx => by have := hF _ (List.mem_append_right _ hx); omega)
  replace m1 := OwL.chg m1 g2 hap.1
  go_wp2
  go_ret
  refine ⟨ret_int (by unfold nvYard; push_cast; omega), ?_, ?_⟩
  · exact ⟨F1, F2, rfl, hn, m1, m2⟩
  · exact (C0.trans (g1.mono (fun x hx => List.mem_append_left _ hx))).trans (g2.mono (fun x hx => List.mem_append_right _ hx))

theorem heldYard_own (x : Yard) (s : Sl × Sl) (k : Int) (w : World) (hl : cntYard x ≤ 2000000) (hk0 : 0 ≤ k) (hk1 : k ≤ 100000000) (h : yardD.rd w w.heap.size (mvYard k x) s) :
    Calls Try.prog 116 #[yardW x s, .int .i64 k] w fun e w' => e = .returned (.int .i64 (k + (nvYard x : Nat))) ∧ Below w.heap.size w w' := by
  have hbx : ∀ W, Below w.heap.size w W → yardD.rd W W.heap.size (mvYard k x) s := fun W hW => yardD.rd_more (yardD.rd_below h hW) hW.size
  have D := DBox.new 62 [.int .i64 x.now, .int .i64 x.seq, .slice s.1.a s.1.n s.1.c, .slice s.2.a s.2.n s.2.c] w rfl
  have B0 : Below w.heap.size w (w.alloc (.cells #[.int .i64 x.now, .int .i64 x.seq, .slice s.1.a s.1.n s.1.c, .slice s.2.a s.2.n s.2.c] 62)) := (Below.refl _ _).alloc (Nat.le_refl _) _
  have n0 : numL numEntryS x.shelf ≤ 13 * (cntL cntEntryS x.shelf) := numL_le (num := numEntryS) (cnt := cntEntryS) (K := 13) numEntryS_le x.shelf
  have n1 : numL numRun x.runs ≤ 13 * (cntL cntRun x.runs) := numL_le (num := numRun) (cnt := cntRun) (K := 13) numRun_le x.runs
  have hcs : cntL cntEntryS x.shelf ≤ 2000000 ∧ cntL cntRun x.runs ≤ 2000000 := by unfold cntYard at hl; omega
  go_enter Try.func116, Try.ntmps116
  go_wp2_with fail
  generalize (w.alloc (.cells #[.int .i64 x.now, .int .i64 x.seq, .slice s.1.a s.1.n s.1.c, .slice s.2.a s.2.n s.2.c] 62)) = w0 at *
  refine (heldEntrySS_own x.shelf s.1 k w0 hcs.1 (by omega) (by omega) ((hbx _ B0).1)).mono ?_
  rintro e w1 ⟨rfl, bw1⟩
  replace D := D.below bw1
  replace B0 := bnext B0 bw1
  have c0 : w1.cell? ⟨w.heap.size, 0, none⟩ = some (.int .i64 x.now) := D.cell 0 _ rfl
  have c1 : w1.cell? ⟨w.heap.size, 1, none⟩ = some (.int .i64 x.seq) := D.cell 1 _ rfl
  have c2 : w1.cell? ⟨w.heap.size, 2, none⟩ = some (.slice s.1.a s.1.n s.1.c) := D.cell 2 _ rfl
  have c3 : w1.cell? ⟨w.heap.size, 3, none⟩ = some (.slice s.2.a s.2.n s.2.c) := D.cell 3 _ rfl
  go_wp2_with fail
  refine (heldRunS_own x.runs s.2 (k + (numL numEntryS x.shelf : Nat)) w1 hcs.2 (by omega) (by omega) ((hbx _ B0).2)).mono ?_
  rintro e w2 ⟨rfl, bw2⟩
  replace D := D.below bw2
  replace B0 := bnext B0 bw2
  go_wp2
  go_ret
  exact ⟨ret_int (by unfold nvYard; push_cast; omega), B0⟩
def nvDesk (x : Desk) : Nat := nvYard x.yard + numL numMemo x.memos
def mvDesk (k : Int) (x : Desk) : Desk := ⟨(mvYard k x.yard), (mkL mkMemo numMemo (k + (nvYard x.yard : Nat)) x.memos), x.fr⟩
theorem nvDesk_le (x : Desk) : nvDesk x ≤ 13 * cntDesk x := by
  have h0 := nvYard_le x.yard
  have h1 := numL_le (num := numMemo) (cnt := cntMemo) (K := 13) numMemo_le x.memos
  unfold nvDesk cntDesk
  omega

theorem markDesk_own (x : Desk) (s : (Sl × Sl) × Sl) (F : List Nat) (k : Int) (w : World) (hl : cntDesk x ≤ 2000000) (hk0 : 0 ≤ k) (hk1 : k ≤ 100000000) (h : deskD.ow w F x s) :
    Calls Try.prog 64 #[deskW x s, .int .i64 k] w (MkPost deskD F (mvDesk k x) s (k + (nvDesk x : Nat)) w) := by
  have hF := deskD.ow_lt h
  have D := DBox.new 78 [.int .i64 x.yard.now, .int .i64 x.yard.seq, .slice s.1.1.a s.1.1.n s.1.1.c, .slice s.1.2.a s.1.2.n s.1.2.c, .slice s.2.a s.2.n s.2.c, .int .i64 x.fr] w rfl
  have B0 : Below w.heap.size w (w.alloc (.cells #[.int .i64 x.yard.now, .int .i64 x.yard.seq, .slice s.1.1.a s.1.1.n s.1.1.c, .slice s.1.2.a s.1.2.n s.1.2.c, .slice s.2.a s.2.n s.2.c, .int .i64 x.fr] 78)) := (Below.refl _ _).alloc (Nat.le_refl _) _
  have n0 : nvYard x.yard ≤ 13 * (cntYard x.yard) := nvYard_le x.yard
  have n1 : numL numMemo x.memos ≤ 13 * (cntL cntMemo x.memos) := numL_le (num := numMemo) (cnt := cntMemo) (K := 13) numMemo_le x.memos
  have hcs : cntYard x.yard ≤ 2000000 ∧ cntL cntMemo x.memos ≤ 2000000 := by unfold cntDesk at hl; omega
  go_enter Try.func64, Try.ntmps64
  go_wp2_with fail
  generalize (w.alloc (.cells #[.int .i64 x.yard.now, .int .i64 x.yard.seq, .slice s.1.1.a s.1.1.n s.1.1.c, .slice s.1.2.a s.1.2.n s.1.2.c, .slice s.2.a s.2.n s.2.c, .int .i64 x.fr] 78)) = w0 at *
  have C0 := Chg.of_below F B0
  obtain ⟨F1, F2, rfl, hn, o1, o2⟩ := h
  have hap := nodup_apart hn
  have o1 := yardD.ow_below o1 B0
  have o2 := OwL.below o2 B0
  refine (markYard_own x.yard s.1 F1 k w0 hcs.1 (by omega) (by omega) o1).mono ?_
  rintro e w1 ⟨rfl, m1, g1⟩
  replace D := D.chg g1 (fun hx => by have := hF _ (List.mem_append_left _ hx); omega)
  replace o2 := OwL.chg o2 g1 hap.2
  have c0 : w1.cell? ⟨w.heap.size, 0, none⟩ = some (.int .i64 x.yard.now) := D.cell 0 _ rfl
  have c1 : w1.cell? ⟨w.heap.size, 1, none⟩ = some (.int .i64 x.yard.seq) := D.cell 1 _ rfl
  have c2 : w1.cell? ⟨w.heap.size, 2, none⟩ = some (.slice s.1.1.a s.1.1.n s.1.1.c) := D.cell 2 _ rfl
  have c3 : w1.cell? ⟨w.heap.size, 3, none⟩ = some (.slice s.1.2.a s.1.2.n s.1.2.c) := D.cell 3 _ rfl
  have c4 : w1.cell? ⟨w.heap.size, 4, none⟩ = some (.slice s.2.a s.2.n s.2.c) := D.cell 4 _ rfl
  have c5 : w1.cell? ⟨w.heap.size, 5, none⟩ = some (.int .i64 x.fr) := D.cell 5 _ rfl
  go_wp2_with fail
  refine (markMemoS_own x.memos s.2 F2 (k + (nvYard x.yard : Nat)) w1 hcs.2 (by omega) (by omega) o2).mono ?_
  rintro e w2 ⟨rfl, m2, g2⟩
  replace D := D.chg g2 (fun hx => by have := hF _ (List.mem_append_right _ hx); omega)
  replace m1 := yardD.ow_chg m1 g2 hap.1
  go_wp2
  go_ret
  refine ⟨ret_int (by unfold nvDesk; push_cast; omega), ?_, ?_⟩
  · exact ⟨F1, F2, rfl, hn, m1, m2⟩
  · exact (C0.trans (g1.mono (fun x hx => List.mem_append_left _ hx))).trans (g2.mono (fun x hx => List.mem_append_right _ hx))

theorem heldDesk_own (x : Desk) (s : (Sl × Sl) × Sl) (k : Int) (w : World) (hl : cntDesk x ≤ 2000000) (hk0 : 0 ≤ k) (hk1 : k ≤ 100000000) (h : deskD.rd w w.heap.size (mvDesk k x) s) :
    Calls Try.prog 65 #[deskW x s, .int .i64 k] w fun e w' => e = .returned (.int .i64 (k + (nvDesk x : Nat))) ∧ Below w.heap.size w w' := by
  have hbx : ∀ W, Below w.heap.size w W → deskD.rd W W.heap.size (mvDesk k x) s := fun W hW => deskD.rd_more (deskD.rd_below h hW) hW.size
  have D := DBox.new 78 [.int .i64 x.yard.now, .int .i64 x.yard.seq, .slice s.1.1.a s.1.1.n s.1.1.c, .slice s.1.2.a s.1.2.n s.1.2.c, .slice s.2.a s.2.n s.2.c, .int .i64 x.fr] w rfl
  have B0 : Below w.heap.size w (w.alloc (.cells #[.int .i64 x.yard.now, .int .i64 x.yard.seq, .slice s.1.1.a s.1.1.n s.1.1.c, .slice s.1.2.a s.1.2.n s.1.2.c, .slice s.2.a s.2.n s.2.c, .int .i64 x.fr] 78)) := (Below.refl _ _).alloc (Nat.le_refl _) _
  have n0 : nvYard x.yard ≤ 13 * (cntYard x.yard) := nvYard_le x.yard
  have n1 : numL numMemo x.memos ≤ 13 * (cntL cntMemo x.memos) := numL_le (num := numMemo) (cnt := cntMemo) (K := 13) numMemo_le x.memos
  have hcs : cntYard x.yard ≤ 2000000 ∧ cntL cntMemo x.memos ≤ 2000000 := by unfold cntDesk at hl; omega
  go_enter Try.func65, Try.ntmps65
  go_wp2_with fail
  generalize (w.alloc (.cells #[.int .i64 x.yard.now, .int .i64 x.yard.seq, .slice s.1.1.a s.1.1.n s.1.1.c, .slice s.1.2.a s.1.2.n s.1.2.c, .slice s.2.a s.2.n s.2.c, .int .i64 x.fr] 78)) = w0 at *
  refine (heldYard_own x.yard s.1 k w0 hcs.1 (by omega) (by omega) ((hbx _ B0).1)).mono ?_
  rintro e w1 ⟨rfl, bw1⟩
  replace D := D.below bw1
  replace B0 := bnext B0 bw1
  have c0 : w1.cell? ⟨w.heap.size, 0, none⟩ = some (.int .i64 x.yard.now) := D.cell 0 _ rfl
  have c1 : w1.cell? ⟨w.heap.size, 1, none⟩ = some (.int .i64 x.yard.seq) := D.cell 1 _ rfl
  have c2 : w1.cell? ⟨w.heap.size, 2, none⟩ = some (.slice s.1.1.a s.1.1.n s.1.1.c) := D.cell 2 _ rfl
  have c3 : w1.cell? ⟨w.heap.size, 3, none⟩ = some (.slice s.1.2.a s.1.2.n s.1.2.c) := D.cell 3 _ rfl
  have c4 : w1.cell? ⟨w.heap.size, 4, none⟩ = some (.slice s.2.a s.2.n s.2.c) := D.cell 4 _ rfl
  have c5 : w1.cell? ⟨w.heap.size, 5, none⟩ = some (.int .i64 x.fr) := D.cell 5 _ rfl
  go_wp2_with fail
  refine (heldMemoS_own x.memos s.2 (k + (nvYard x.yard : Nat)) w1 hcs.2 (by omega) (by omega) ((hbx _ B0).2)).mono ?_
  rintro e w2 ⟨rfl, bw2⟩
  replace D := D.below bw2
  replace B0 := bnext B0 bw2
  go_wp2
  go_ret
  exact ⟨ret_int (by unfold nvDesk; push_cast; omega), B0⟩
end Go.Proofs.Ytcapldjhcplfmaa
