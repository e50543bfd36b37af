/-
  Data of the type Yard: how it lies in memory, and the walks of the laws' helpers on it. Written by program (deep.py).
-/
import Derived.Test.YtjobmbjadpldfaaTEntry
import Derived.Test.YtjobmbjadpldfaaTRun
namespace Go.Proofs.Ytjobmbjadpldfaa
open Go.RowKit
set_option maxRecDepth 100000
set_option maxHeartbeats 1000000
set_option linter.unusedVariables false
set_option linter.unusedSimpArgs false

structure Yard where
  now : Int
  seq : Int
  shelf : List (List Entry)
  runs : List Run
deriving DecidableEq, Inhabited

@[go_sem] abbrev yardW (x : Yard) (s : Sl × Sl) : Value := .agg #[.int .i64 x.now, .int .i64 x.seq, .slice s.1.a s.1.n s.1.c, .slice s.2.a s.2.n s.2.c]
abbrev yardD : Dt Yard := Dt.two (Dt.list (Dt.list entryD)) (Dt.list runD) (·.shelf) (·.runs) (fun q => [.int .i64 q.1.now, .int .i64 q.1.seq, .slice q.2.1.a q.2.1.n q.2.1.c, .slice q.2.2.a q.2.2.n q.2.2.c]) 4 (fun _ => rfl) (fun q u hu => by simp at hu; rcases hu with rfl | rfl | rfl | rfl <;> rfl)
/-- all lengths in it together -/
def cntYard (x : Yard) : Nat := cntL cntEntryS x.shelf + cntL cntRun x.runs
/-- ints are int64, lengths are what a machine holds -/
def wfYard (x : Yard) : Prop := Wf x.now ∧ Wf x.seq ∧ wfL wfEntryS x.shelf ∧ wfL wfRun x.runs
def numYard (x : Yard) : Nat := 2 + numL numEntryS x.shelf + numL numRun x.runs
/-- with the marks from k on -/
def mkYard (k : Int) (x : Yard) : Yard := ⟨k, k + 1, mkL mkEntryS numEntryS (k + 1 + 1) x.shelf, mkL mkRun numRun (k + 1 + 1 + (numL numEntryS x.shelf : Nat)) x.runs⟩
theorem numYard_le (x : Yard) : numYard x ≤ 13 * (cntYard x + 1) := by
  have h0 := numL_le (num := numEntryS) (cnt := cntEntryS) (K := 13) numEntryS_le x.shelf
  have h1 := numL_le (num := numRun) (cnt := cntRun) (K := 13) numRun_le x.runs
  unfold numYard cntYard
  omega

theorem toYard_own (x : Yard) (s : Sl × Sl) (w : World) (hl : cntYard x ≤ 2000000) (h : yardD.rd w w.heap.size x s) :
    Calls Try.prog 27 #[yardW x s] w (OwnPost yardD yardW x w) := by
  have hbx : ∀ W, Below w.heap.size w W → yardD.rd W W.heap.size x s := fun W hW => yardD.rd_more (yardD.rd_below h hW) hW.size
  go_enter Try.func27, Try.ntmps27
  go_wp2_with fail
  refine (toEntrySS_own x.shelf s.1 _ (by unfold cntYard at hl; omega) ((hbx _ (by repeat (first | exact Below.refl _ _ | refine Below.alloc ?_ (by simp <;> omega) _))).1)).mono ?_
  rintro e w0 ⟨s0, F0, rfl, o0, n0, hb0⟩
  obtain ⟨q0, p0⟩ := bcell hb0
  have z0 := hb0.size
  simp only [World.size_alloc, World.size_setCell] at z0 n0
  have B0 : Below w.heap.size w w0 := bnext (by repeat (first | exact Below.refl _ _ | refine Below.alloc ?_ (by simp <;> omega) _)) hb0
  go_wp2_with fail
  refine (toRunS_own x.runs s.2 _ (by unfold cntYard at hl; omega) ((hbx _ (by repeat (first | (with_reducible exact B0) | (with_reducible exact Below.refl _ _) | refine Below.setCell ?_ (by simp <;> omega) _ | refine Below.alloc ?_ (by simp <;> omega) _))).2)).mono ?_
  rintro e w1 ⟨s1, F1, rfl, o1, n1, hb1⟩
  obtain ⟨q1, p1⟩ := bcell hb1
  have z1 := hb1.size
  simp only [World.size_alloc, World.size_setCell] at z1 n1 q1 p1
  have B1 : Below w.heap.size w w1 := bnext (by repeat (first | (with_reducible exact B0) | (with_reducible exact Below.refl _ _) | refine Below.setCell ?_ (by simp <;> omega) _ | refine Below.alloc ?_ (by simp <;> omega) _)) hb1
  have q1a := fun o => q1 w.heap.size o (by omega)
  have p1a := fun o => p1 w.heap.size o (by omega)
  have q1b := fun o => q1 (w.heap.size + 1) o (by omega)
  have p1b := fun o => p1 (w.heap.size + 1) o (by omega)
  have q1c := fun o => q1 (w.heap.size + 1 + 1) o (by omega)
  have p1c := fun o => p1 (w.heap.size + 1 + 1) o (by omega)
  go_wp2
  refine bodyPost_ret (v := yardW x (s0, s1)) ?_ rfl ?_
  · simp [yardW, results, Try.results27, go_sem, q0, q1, q1a, q1b, q1c]
  · refine ⟨(s0, s1), F0 ++ F1, rfl, ⟨F0, F1, rfl, ?_, ?_, ?_⟩, ?_, ?_⟩
    · rw [List.nodup_append]
      refine ⟨Dt.ow_nodup (Dt.list (Dt.list entryD)) o0, Dt.ow_nodup (Dt.list runD) o1, fun u hu u' hu' e => ?_⟩
      have h1 := Dt.ow_lt (Dt.list (Dt.list entryD)) o0 u hu
      have h2 := n1 u' hu'
      omega
    · repeat (first | (with_reducible exact o0) | refine Dt.ow_set (Dt.list (Dt.list entryD)) ?_ (by intro hm; have := n0 _ hm; (try simp only [World.size_alloc, World.size_setCell] at this); omega) _ | (with_reducible refine Dt.ow_below (Dt.list (Dt.list entryD)) ?_ hb1))
    · repeat (first | (with_reducible exact o1) | refine Dt.ow_set (Dt.list runD) ?_ (by intro hm; have := n1 _ hm; (try simp only [World.size_alloc, World.size_setCell] at this); omega) _)
    · intro u hu
      rcases List.mem_append.1 hu with hu | hu
      · have := n0 u hu
        omega
      · have := n1 u hu
        omega
    · repeat (first | (with_reducible exact B1) | (with_reducible exact Below.refl _ _) | refine Below.setCell ?_ (by simp <;> omega) _ | refine Below.alloc ?_ (by simp <;> omega) _)

theorem eqYard_own (x y : Yard) (s r : Sl × Sl) (w : World) (hl : cntYard x ≤ 2000000) (hl' : cntYard y ≤ 2000000) (h : yardD.rd w w.heap.size x s) (h' : yardD.rd w w.heap.size y r) :
    Calls Try.prog 31 #[yardW x s, yardW y r] w fun e w' => e = .returned (.bool (decide (x = y))) ∧ Below w.heap.size w w' := by
  have hbx : ∀ W, Below w.heap.size w W → yardD.rd W W.heap.size x s := fun W hW => yardD.rd_more (yardD.rd_below h hW) hW.size
  have hby : ∀ W, Below w.heap.size w W → yardD.rd W W.heap.size y r := fun W hW => yardD.rd_more (yardD.rd_below h' hW) hW.size
  by_cases h0 : x.now = y.now
  case neg =>
    have t0 : (x.now != y.now) = true := by rw [bne_iff_ne]; exact h0
    have H := Lib.hid (show decide (x = y) = false by simp only [decide_eq_false_iff_not]; intro e; exact h0 (by rw [e]))
    clear h0
    go_enter Try.func31, Try.ntmps31
    go_wp2
    go_ret
    exact ⟨ret_bool (by first | exact H.out.symm | rfl), by repeat (first | exact Below.refl _ _ | refine Below.alloc ?_ (by simp <;> omega) _)⟩
  have t0 : (x.now != y.now) = false := by simp [h0]
  have H0 := Lib.hid h0
  clear h0
  by_cases h1 : x.seq = y.seq
  case neg =>
    have t1 : (x.seq != y.seq) = true := by rw [bne_iff_ne]; exact h1
    have H := Lib.hid (show decide (x = y) = false by simp only [decide_eq_false_iff_not]; intro e; exact h1 (by rw [e]))
    clear h1
    go_enter Try.func31, Try.ntmps31
    go_wp2
    go_ret
    exact ⟨ret_bool (by first | exact H.out.symm | rfl), by repeat (first | exact Below.refl _ _ | refine Below.alloc ?_ (by simp <;> omega) _)⟩
  have t1 : (x.seq != y.seq) = false := by simp [h1]
  have H1 := Lib.hid h1
  clear h1
  go_enter Try.func31, Try.ntmps31
  go_wp2_with fail
  refine (eqEntrySS_own x.shelf y.shelf s.1 r.1 _ (by unfold cntYard at hl; omega) (by unfold cntYard at hl'; omega) ((hbx _ (by repeat (first | exact Below.refl _ _ | refine Below.alloc ?_ (by simp <;> omega) _))).1) ((hby _ (by repeat (first | exact Below.refl _ _ | refine Below.alloc ?_ (by simp <;> omega) _))).1)).mono ?_
  rintro e w2 ⟨rfl, hb2⟩
  have B2 : Below w.heap.size w w2 := bnext (by repeat (first | exact Below.refl _ _ | refine Below.alloc ?_ (by simp <;> omega) _)) hb2
  obtain ⟨q2, p2⟩ := bcell hb2
  by_cases h2 : x.shelf = y.shelf
  case neg =>
    have H := Lib.hid (show decide (x = y) = false by simp only [decide_eq_false_iff_not]; intro e; exact h2 (by rw [e]))
    rw [decide_eq_false h2]
    clear h2
    go_wp2
    go_ret
    exact ⟨ret_bool (by first | exact H.out.symm | rfl), by exact B2⟩
  rw [decide_eq_true h2]
  have H2 := Lib.hid h2
  clear h2
  go_wp2_with fail
  refine (eqRunS_own x.runs y.runs s.2 r.2 _ (by unfold cntYard at hl; omega) (by unfold cntYard at hl'; omega) ((hbx _ (by first | exact B2 | (repeat (first | exact Below.refl _ _ | refine Below.alloc ?_ (by simp <;> omega) _)))).2) ((hby _ (by first | exact B2 | (repeat (first | exact Below.refl _ _ | refine Below.alloc ?_ (by simp <;> omega) _)))).2)).mono ?_
  rintro e w3 ⟨rfl, hb3⟩
  have B3 : Below w.heap.size w w3 := bnext (by first | exact B2 | (repeat (first | exact Below.refl _ _ | refine Below.alloc ?_ (by simp <;> omega) _))) hb3
  obtain ⟨q3, p3⟩ := bcell hb3
  by_cases h3 : x.runs = y.runs
  case neg =>
    have H := Lib.hid (show decide (x = y) = false by simp only [decide_eq_false_iff_not]; intro e; exact h3 (by rw [e]))
    rw [decide_eq_false h3]
    clear h3
    go_wp2
    go_ret
    exact ⟨ret_bool (by first | exact H.out.symm | rfl), by exact B3⟩
  rw [decide_eq_true h3]
  have H3 := Lib.hid h3
  clear h3
  have H := Lib.hid (show decide (x = y) = true by
    simp only [decide_eq_true_eq]
    have hh := And.intro H0.out (And.intro H1.out (And.intro H2.out H3.out))
    obtain ⟨e0, e1, e2, e3⟩ := hh
    cases x
    cases y
    simp only at e0 e1 e2 e3
    subst e0 e1 e2 e3
    rfl)
  go_wp2
  go_ret
  exact ⟨ret_bool (by first | exact H.out.symm | rfl), by exact B3⟩

theorem szYard_own (x : Yard) (s : Sl × Sl) (left : Int) (w : World) (h0 : 0 ≤ left) (h1 : left ≤ 2000000) (hw : wfYard x) (h : yardD.rd w w.heap.size x s) :
    Calls Try.prog 23 #[yardW x s, .int .i64 left] w (SzPost left (cntYard x) w) := by
  have hbx : ∀ W, Below w.heap.size w W → yardD.rd W W.heap.size x s := fun W hW => yardD.rd_more (yardD.rd_below h hW) hW.size
  go_enter Try.func23, Try.ntmps23
  go_wp2_with fail
  refine (szEntrySS_own x.shelf s.1 left _ (by omega) (by omega) hw.2.2.1 ((hbx _ (by repeat (first | exact Below.refl _ _ | refine Below.alloc ?_ (by simp <;> omega) _))).1)).mono ?_
  rintro e w0 ⟨r0, rfl, hr0, hb0⟩
  have B0 : Below w.heap.size w w0 := bnext (by repeat (first | exact Below.refl _ _ | refine Below.alloc ?_ (by simp <;> omega) _)) hb0
  obtain ⟨q0, p0⟩ := bcell hb0
  rcases hr0 with rfl | ⟨y0, z0⟩
  · go_wp2
    go_ret
    exact ⟨-1, rfl, .inl rfl, B0⟩
  go_wp2_with fail
  refine (szRunS_own x.runs s.2 r0 _ (by omega) (by omega) hw.2.2.2 ((hbx _ B0).2)).mono ?_
  rintro e w1 ⟨r1, rfl, hr1, hb1⟩
  have B1 : Below w.heap.size w w1 := bnext B0 hb1
  obtain ⟨q1, p1⟩ := bcell hb1
  rcases hr1 with rfl | ⟨y1, z1⟩
  · go_wp2
    go_ret
    exact ⟨-1, rfl, .inl rfl, B1⟩
  go_wp2
  go_ret
  exact ⟨_, rfl, .inr ⟨by omega, by unfold cntYard; omega⟩, B1⟩
end Go.Proofs.Ytjobmbjadpldfaa
