/-
  Data of the type Desk: how it lies in memory, and the walks of the laws' helpers on it. Written by program (deep.py).
-/
import Derived.Test.YtcapldjhcplfmaaTYard
import Derived.Test.YtcapldjhcplfmaaTMemo
namespace Go.Proofs.Ytcapldjhcplfmaa
open Go.RowKit
set_option maxRecDepth 100000
set_option maxHeartbeats 1000000
set_option linter.unusedVariables false
set_option linter.unusedSimpArgs false

structure Desk where
  yard : Yard
  memos : List Memo
  fr : Int
deriving DecidableEq, Inhabited

@[go_sem] abbrev deskW (x : Desk) (s : (Sl × Sl) × Sl) : Value := .agg #[.int .i64 x.yard.now, .int .i64 x.yard.seq, .slice s.1.1.a s.1.1.n s.1.1.c, .slice s.1.2.a s.1.2.n s.1.2.c, .slice s.2.a s.2.n s.2.c, .int .i64 x.fr]
abbrev deskD : Dt Desk := Dt.two yardD (Dt.list memoD) (·.yard) (·.memos) (fun q => [.int .i64 q.1.yard.now, .int .i64 q.1.yard.seq, .slice q.2.1.1.a q.2.1.1.n q.2.1.1.c, .slice q.2.1.2.a q.2.1.2.n q.2.1.2.c, .slice q.2.2.a q.2.2.n q.2.2.c, .int .i64 q.1.fr]) 6 (fun _ => rfl) (fun q u hu => by simp at hu; rcases hu with rfl | rfl | rfl | rfl | rfl | rfl <;> rfl)
/-- all lengths in it together -/
def cntDesk (x : Desk) : Nat := cntYard x.yard + cntL cntMemo x.memos
/-- ints are int64, lengths are what a machine holds -/
def wfDesk (x : Desk) : Prop := wfYard x.yard ∧ wfL wfMemo x.memos ∧ Wf x.fr
def numDesk (x : Desk) : Nat := 3 + numL numEntryS x.yard.shelf + numL numRun x.yard.runs + numL numMemo x.memos
/-- with the marks from k on -/
def mkDesk (k : Int) (x : Desk) : Desk := ⟨⟨k, k + 1, mkL mkEntryS numEntryS (k + 1 + 1) x.yard.shelf, mkL mkRun numRun (k + 1 + 1 + (numL numEntryS x.yard.shelf : Nat)) x.yard.runs⟩, mkL mkMemo numMemo (k + 1 + 1 + (numL numEntryS x.yard.shelf : Nat) + (numL numRun x.yard.runs : Nat)) x.memos, k + 1 + 1 + (numL numEntryS x.yard.shelf : Nat) + (numL numRun x.yard.runs : Nat) + (numL numMemo x.memos : Nat)⟩
theorem numDesk_le (x : Desk) : numDesk x ≤ 13 * (cntDesk x + 1) := by
  have h0 := numL_le (num := numEntryS) (cnt := cntEntryS) (K := 13) numEntryS_le x.yard.shelf
  have h1 := numL_le (num := numRun) (cnt := cntRun) (K := 13) numRun_le x.yard.runs
  have h2 := numL_le (num := numMemo) (cnt := cntMemo) (K := 13) numMemo_le x.memos
  unfold numDesk cntDesk cntYard
  omega

theorem toDesk_own (x : Desk) (s : (Sl × Sl) × Sl) (w : World) (hl : cntDesk x ≤ 2000000) (h : deskD.rd w w.heap.size x s) :
    Calls Try.prog 51 #[deskW x s] w (OwnPost deskD deskW x w) := by
  have hbx : ∀ W, Below w.heap.size w W → deskD.rd W W.heap.size x s := fun W hW => deskD.rd_more (deskD.rd_below h hW) hW.size
  go_enter Try.func51, Try.ntmps51
  go_wp2_with fail
  refine (toYard_own x.yard s.1 _ (by unfold cntDesk at hl; omega) ((hbx _ (by repeat (first | exact Below.refl _ _ | refine Below.alloc ?_ (by simp <;> omega) _))).1)).mono ?_
  rintro e w0 ⟨s0, F0, rfl, o0, n0, hb0⟩
  obtain ⟨q0, p0⟩ := bcell hb0
  have z0 := hb0.size
  simp only [World.size_alloc, World.size_setCell] at z0 n0
  have B0 : Below w.heap.size w w0 := bnext (by repeat (first | exact Below.refl _ _ | refine Below.alloc ?_ (by simp <;> omega) _)) hb0
  go_wp2_with fail
  refine (toMemoS_own x.memos s.2 _ (by unfold cntDesk at hl; omega) ((hbx _ (by repeat (first | (with_reducible exact B0) | (with_reducible exact Below.refl _ _) | refine Below.setCell ?_ (by simp <;> omega) _ | refine Below.alloc ?_ (by simp <;> omega) _))).2)).mono ?_
  rintro e w1 ⟨s1, F1, rfl, o1, n1, hb1⟩
  obtain ⟨q1, p1⟩ := bcell hb1
  have z1 := hb1.size
  simp only [World.size_alloc, World.size_setCell] at z1 n1 q1 p1
  have B1 : Below w.heap.size w w1 := bnext (by repeat (first | (with_reducible exact B0) | (with_reducible exact Below.refl _ _) | refine Below.setCell ?_ (by simp <;> omega) _ | refine Below.alloc ?_ (by simp <;> omega) _)) hb1
  have q1a := fun o => q1 w.heap.size o (by omega)
  have p1a := fun o => p1 w.heap.size o (by omega)
  have q1b := fun o => q1 (w.heap.size + 1) o (by omega)
  have p1b := fun o => p1 (w.heap.size + 1) o (by omega)
  have q1c := fun o => q1 (w.heap.size + 1 + 1) o (by omega)
  have p1c := fun o => p1 (w.heap.size + 1 + 1) o (by omega)
  go_wp2
  refine bodyPost_ret (v := deskW x (s0, s1)) ?_ rfl ?_
  · simp [deskW, results, Try.results51, go_sem, q0, q1, q1a, q1b, q1c]
  · refine ⟨(s0, s1), F0 ++ F1, rfl, ⟨F0, F1, rfl, ?_, ?_, ?_⟩, ?_, ?_⟩
    · rw [List.nodup_append]
      refine ⟨Dt.ow_nodup yardD o0, Dt.ow_nodup (Dt.list memoD) o1, fun u hu u' hu' e => ?_⟩
      have h1 := Dt.ow_lt yardD o0 u hu
      have h2 := n1 u' hu'
      omega
    · repeat (first | (with_reducible exact o0) | refine Dt.ow_set yardD ?_ (by intro hm; have := n0 _ hm; (try simp only [World.size_alloc, World.size_setCell] at this); omega) _ | (with_reducible refine Dt.ow_below yardD ?_ hb1))
    · repeat (first | (with_reducible exact o1) | refine Dt.ow_set (Dt.list memoD) ?_ (by intro hm; have := n1 _ hm; (try simp only [World.size_alloc, World.size_setCell] at this); omega) _)
    · intro u hu
      rcases List.mem_append.1 hu with hu | hu
      · have := n0 u hu
        omega
      · have := n1 u hu
        omega
    · repeat (first | (with_reducible exact B1) | (with_reducible exact Below.refl _ _) | refine Below.setCell ?_ (by simp <;> omega) _ | refine Below.alloc ?_ (by simp <;> omega) _)

theorem eqDesk_own (x y : Desk) (s r : (Sl × Sl) × Sl) (w : World) (hl : cntDesk x ≤ 2000000) (hl' : cntDesk y ≤ 2000000) (h : deskD.rd w w.heap.size x s) (h' : deskD.rd w w.heap.size y r) :
    Calls Try.prog 54 #[deskW x s, deskW y r] w fun e w' => e = .returned (.bool (decide (x = y))) ∧ Below w.heap.size w w' := by
  have hbx : ∀ W, Below w.heap.size w W → deskD.rd W W.heap.size x s := fun W hW => deskD.rd_more (deskD.rd_below h hW) hW.size
  have hby : ∀ W, Below w.heap.size w W → deskD.rd W W.heap.size y r := fun W hW => deskD.rd_more (deskD.rd_below h' hW) hW.size
  go_enter Try.func54, Try.ntmps54
  go_wp2_with fail
  refine (eqYard_own x.yard y.yard s.1 r.1 _ (by unfold cntDesk at hl; omega) (by unfold cntDesk at hl'; omega) ((hbx _ (by repeat (first | exact Below.refl _ _ | refine Below.alloc ?_ (by simp <;> omega) _))).1) ((hby _ (by repeat (first | exact Below.refl _ _ | refine Below.alloc ?_ (by simp <;> omega) _))).1)).mono ?_
  rintro e w0 ⟨rfl, hb0⟩
  have B0 : Below w.heap.size w w0 := bnext (by repeat (first | exact Below.refl _ _ | refine Below.alloc ?_ (by simp <;> omega) _)) hb0
  obtain ⟨q0, p0⟩ := bcell hb0
  have z0 := hb0.size
  try simp only [World.size_alloc] at z0
  by_cases h0 : x.yard = y.yard
  case neg =>
    have H := Lib.hid (show decide (x = y) = false by simp only [decide_eq_false_iff_not]; intro e; exact h0 (by rw [e]))
    rw [decide_eq_false h0]
    clear h0
    go_wp2
    go_ret
    exact ⟨ret_bool (by first | exact H.out.symm | rfl), by exact B0⟩
  rw [decide_eq_true h0]
  have H0 := Lib.hid h0
  clear h0
  go_wp2_with fail
  refine (eqMemoS_own x.memos y.memos s.2 r.2 _ (by unfold cntDesk at hl; omega) (by unfold cntDesk at hl'; omega) ((hbx _ (by first | exact B0 | (repeat (first | exact Below.refl _ _ | refine Below.alloc ?_ (by simp <;> omega) _)))).2) ((hby _ (by first | exact B0 | (repeat (first | exact Below.refl _ _ | refine Below.alloc ?_ (by simp <;> omega) _)))).2)).mono ?_
  rintro e w1 ⟨rfl, hb1⟩
  have B1 : Below w.heap.size w w1 := bnext (by first | exact B0 | (repeat (first | exact Below.refl _ _ | refine Below.alloc ?_ (by simp <;> omega) _))) hb1
  obtain ⟨q1, p1⟩ := bcell hb1
  have z1 := hb1.size
  try simp only [World.size_alloc] at z1
  have q1a := fun o => q1 w.heap.size o (by omega)
  have q1b := fun o => q1 (w.heap.size + 1) o (by omega)
  by_cases h1 : x.memos = y.memos
  case neg =>
    have H := Lib.hid (show decide (x = y) = false by simp only [decide_eq_false_iff_not]; intro e; exact h1 (by rw [e]))
    rw [decide_eq_false h1]
    clear h1
    go_wp2
    go_ret
    exact ⟨ret_bool (by first | exact H.out.symm | rfl), by exact B1⟩
  rw [decide_eq_true h1]
  have H1 := Lib.hid h1
  clear h1
  by_cases h2 : x.fr = y.fr
  case neg =>
    have t2 : (x.fr != y.fr) = true := by rw [bne_iff_ne]; exact h2
    have H := Lib.hid (show decide (x = y) = false by simp only [decide_eq_false_iff_not]; intro e; exact h2 (by rw [e]))
    clear h2
    go_wp2
    go_ret
    exact ⟨ret_bool (by first | exact H.out.symm | rfl), by exact B1⟩
  have t2 : (x.fr != y.fr) = false := by simp [h2]
  have H2 := Lib.hid h2
  clear h2
  have H := Lib.hid (show decide (x = y) = true by
    simp only [decide_eq_true_eq]
    have hh := And.intro H0.out (And.intro H1.out H2.out)
    obtain ⟨e0, e1, e2⟩ := hh
    cases x
    cases y
    simp only at e0 e1 e2
    subst e0 e1 e2
    rfl)
  go_wp2
  go_ret
  exact ⟨ret_bool (by first | exact H.out.symm | rfl), by exact B1⟩

theorem szDesk_own (x : Desk) (s : (Sl × Sl) × Sl) (left : Int) (w : World) (h0 : 0 ≤ left) (h1 : left ≤ 2000000) (hw : wfDesk x) (h : deskD.rd w w.heap.size x s) :
    Calls Try.prog 49 #[deskW x s, .int .i64 left] w (SzPost left (cntDesk x) w) := by
  have hbx : ∀ W, Below w.heap.size w W → deskD.rd W W.heap.size x s := fun W hW => deskD.rd_more (deskD.rd_below h hW) hW.size
  go_enter Try.func49, Try.ntmps49
  go_wp2_with fail
  refine (szYard_own x.yard s.1 left _ (by omega) (by omega) hw.1 ((hbx _ (by repeat (first | exact Below.refl _ _ | refine Below.alloc ?_ (by simp <;> omega) _))).1)).mono ?_
  rintro e w0 ⟨r0, rfl, hr0, hb0⟩
  have B0 : Below w.heap.size w w0 := bnext (by repeat (first | exact Below.refl _ _ | refine Below.alloc ?_ (by simp <;> omega) _)) hb0
  obtain ⟨q0, p0⟩ := bcell hb0
  rcases hr0 with rfl | ⟨y0, z0⟩
  · go_wp2
    go_ret
    exact ⟨-1, rfl, .inl rfl, B0⟩
  go_wp2_with fail
  refine (szMemoS_own x.memos s.2 r0 _ (by omega) (by omega) hw.2.1 ((hbx _ B0).2)).mono ?_
  rintro e w1 ⟨r1, rfl, hr1, hb1⟩
  have B1 : Below w.heap.size w w1 := bnext B0 hb1
  obtain ⟨q1, p1⟩ := bcell hb1
  rcases hr1 with rfl | ⟨y1, z1⟩
  · go_wp2
    go_ret
    exact ⟨-1, rfl, .inl rfl, B1⟩
  go_wp2
  go_ret
  exact ⟨_, rfl, .inr ⟨by omega, by unfold cntDesk; omega⟩, B1⟩
end Go.Proofs.Ytcapldjhcplfmaa
