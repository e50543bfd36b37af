/-
  Data of the type Engine: how it lies in memory, and the walks of the laws' helpers on it. Written by program (deep.py).
-/
import Derived.Test.YtjobmbjadpldfaaTYard
import Derived.Test.YtjobmbjadpldfaaTDisk
import Derived.Test.YtjobmbjadpldfaaTWait
namespace Go.Proofs.Ytjobmbjadpldfaa
open Go.RowKit
set_option maxRecDepth 100000
set_option maxHeartbeats 1000000
set_option linter.unusedVariables false
set_option linter.unusedSimpArgs false

structure Engine where
  yard : Yard
  disk : Disk
  next : Int
  calls : Int
  waits : List Wait
  state : Int
  broken : Bool
deriving DecidableEq, Inhabited

@[go_sem] abbrev engineW (x : Engine) (s : (Sl × Sl) × Sl × Sl) : Value := .agg #[.int .i64 x.yard.now, .int .i64 x.yard.seq, .slice s.1.1.a s.1.1.n s.1.1.c, .slice s.1.2.a s.1.2.n s.1.2.c, .slice s.2.1.a s.2.1.n s.2.1.c, .int .i64 x.next, .int .i64 x.calls, .slice s.2.2.a s.2.2.n s.2.2.c, .int .i64 x.state, .bool x.broken]
abbrev engine2D : Dt (Disk × List Wait) := Dt.two diskD (Dt.list waitD) (·.1) (·.2) (fun _ => []) 0 (fun _ => rfl) (fun _ _ h => by cases h)
abbrev engineD : Dt Engine := Dt.two yardD engine2D (·.yard) (fun x => (x.disk, x.waits)) (fun q => [.int .i64 q.1.yard.now, .int .i64 q.1.yard.seq, .slice q.2.1.1.a q.2.1.1.n q.2.1.1.c, .slice q.2.1.2.a q.2.1.2.n q.2.1.2.c, .slice q.2.2.1.a q.2.2.1.n q.2.2.1.c, .int .i64 q.1.next, .int .i64 q.1.calls, .slice q.2.2.2.a q.2.2.2.n q.2.2.2.c, .int .i64 q.1.state, .bool q.1.broken]) 10 (fun _ => rfl) (fun q u hu => by simp at hu; rcases hu with rfl | rfl | rfl | rfl | rfl | rfl | rfl | rfl | rfl | rfl <;> rfl)
/-- all lengths in it together -/
def cntEngine (x : Engine) : Nat := cntYard x.yard + cntDisk x.disk + cntL cntWait x.waits
/-- ints are int64, lengths are what a machine holds -/
def wfEngine (x : Engine) : Prop := wfYard x.yard ∧ wfDisk x.disk ∧ Wf x.next ∧ Wf x.calls ∧ wfL wfWait x.waits ∧ Wf x.state

theorem toEngine_own (x : Engine) (s : (Sl × Sl) × Sl × Sl) (w : World) (hl : cntEngine x ≤ 2000000) (h : engineD.rd w w.heap.size x s) :
    Calls Try.prog 14 #[engineW x s] w (OwnPost engineD engineW x w) := by
  have hbx : ∀ W, Below w.heap.size w W → engineD.rd W W.heap.size x s := fun W hW => engineD.rd_more (engineD.rd_below h hW) hW.size
  go_enter Try.func14, Try.ntmps14
  go_wp2_with fail
  refine (toYard_own x.yard s.1 _ (by unfold cntEngine at hl; omega) ((hbx _ (by repeat (first | exact Below.refl _ _ | refine Below.alloc ?_ (by simp <;> omega) _))).1)).mono ?_
  rintro e w0 ⟨s0, F0, rfl, o0, n0, hb0⟩
  obtain ⟨q0, p0⟩ := bcell hb0
  have z0 := hb0.size
  simp only [World.size_alloc, World.size_setCell] at z0 n0
  have B0 : Below w.heap.size w w0 := bnext (by repeat (first | exact Below.refl _ _ | refine Below.alloc ?_ (by simp <;> omega) _)) hb0
  go_wp2_with fail
  refine (toDisk_own x.disk s.2.1 _ (by unfold cntEngine at hl; omega) ((hbx _ (by repeat (first | (with_reducible exact B0) | (with_reducible exact Below.refl _ _) | refine Below.setCell ?_ (by simp <;> omega) _ | refine Below.alloc ?_ (by simp <;> omega) _))).2.1)).mono ?_
  rintro e w1 ⟨s1, F1, rfl, o1, n1, hb1⟩
  obtain ⟨q1, p1⟩ := bcell hb1
  have z1 := hb1.size
  simp only [World.size_alloc, World.size_setCell] at z1 n1 q1 p1
  have B1 : Below w.heap.size w w1 := bnext (by repeat (first | (with_reducible exact B0) | (with_reducible exact Below.refl _ _) | refine Below.setCell ?_ (by simp <;> omega) _ | refine Below.alloc ?_ (by simp <;> omega) _)) hb1
  have q1a := fun o => q1 w.heap.size o (by omega)
  have p1a := fun o => p1 w.heap.size o (by omega)
  have q1b := fun o => q1 (w.heap.size + 1) o (by omega)
  have p1b := fun o => p1 (w.heap.size + 1) o (by omega)
  have q1c := fun o => q1 (w.heap.size + 1 + 1) o (by omega)
  have p1c := fun o => p1 (w.heap.size + 1 + 1) o (by omega)
  go_wp2_with fail
  refine (toWaitS_own x.waits s.2.2 _ (by unfold cntEngine at hl; omega) ((hbx _ (by repeat (first | (with_reducible exact B1) | (with_reducible exact Below.refl _ _) | refine Below.setCell ?_ (by simp <;> omega) _ | refine Below.alloc ?_ (by simp <;> omega) _))).2.2)).mono ?_
  rintro e w2 ⟨s2, F2, rfl, o2, n2, hb2⟩
  obtain ⟨q2, p2⟩ := bcell hb2
  have z2 := hb2.size
  simp only [World.size_alloc, World.size_setCell] at z2 n2 q2 p2
  have B2 : Below w.heap.size w w2 := bnext (by repeat (first | (with_reducible exact B1) | (with_reducible exact Below.refl _ _) | refine Below.setCell ?_ (by simp <;> omega) _ | refine Below.alloc ?_ (by simp <;> omega) _)) hb2
  have q2a := fun o => q2 w.heap.size o (by omega)
  have p2a := fun o => p2 w.heap.size o (by omega)
  have q2b := fun o => q2 (w.heap.size + 1) o (by omega)
  have p2b := fun o => p2 (w.heap.size + 1) o (by omega)
  have q2c := fun o => q2 (w.heap.size + 1 + 1) o (by omega)
  have p2c := fun o => p2 (w.heap.size + 1 + 1) o (by omega)
  go_wp2
  refine bodyPost_ret (v := engineW x (s0, s1, s2)) ?_ rfl ?_
  · simp [engineW, results, Try.results14, go_sem, q0, q1, q1a, q1b, q1c, q2, q2a, q2b, q2c]
  · refine ⟨(s0, s1, s2), F0 ++ (F1 ++ F2), rfl, ⟨F0, F1 ++ F2, rfl, ?_, ?_, ⟨F1, F2, rfl, ?_, ?_, ?_⟩⟩, ?_, ?_⟩
    · rw [List.nodup_append]
      refine ⟨Dt.ow_nodup yardD o0, ?_, fun u hu u' hu' e => ?_⟩
      · rw [List.nodup_append]
        refine ⟨Dt.ow_nodup diskD o1, Dt.ow_nodup (Dt.list waitD) o2, fun u hu u' hu' e => ?_⟩
        have h1 := Dt.ow_lt diskD o1 u hu
        have h2 := n2 u' hu'
        omega
      · have h1 := Dt.ow_lt yardD o0 u hu
        rcases List.mem_append.1 hu' with hu' | hu'
        · have h2 := n1 u' hu'
          omega
        · have h2 := n2 u' hu'
          omega
    · repeat (first | (with_reducible exact o0) | refine Dt.ow_set yardD ?_ (by intro hm; have := n0 _ hm; (try simp only [World.size_alloc, World.size_setCell] at this); omega) _ | (with_reducible refine Dt.ow_below yardD ?_ hb1) | (with_reducible refine Dt.ow_below yardD ?_ hb2))
    · rw [List.nodup_append]
      refine ⟨Dt.ow_nodup diskD o1, Dt.ow_nodup (Dt.list waitD) o2, fun u hu u' hu' e => ?_⟩
      have h1 := Dt.ow_lt diskD o1 u hu
      have h2 := n2 u' hu'
      omega
    · repeat (first | (with_reducible exact o1) | refine Dt.ow_set diskD ?_ (by intro hm; have := n1 _ hm; (try simp only [World.size_alloc, World.size_setCell] at this); omega) _ | (with_reducible refine Dt.ow_below diskD ?_ hb2))
    · repeat (first | (with_reducible exact o2) | refine Dt.ow_set (Dt.list waitD) ?_ (by intro hm; have := n2 _ hm; (try simp only [World.size_alloc, World.size_setCell] at this); omega) _)
    · intro u hu
      rcases List.mem_append.1 hu with hu | hu
      · have := n0 u hu
        omega
      · rcases List.mem_append.1 hu with hu | hu
        · have := n1 u hu
          omega
        · have := n2 u hu
          omega
    · repeat (first | (with_reducible exact B2) | (with_reducible exact Below.refl _ _) | refine Below.setCell ?_ (by simp <;> omega) _ | refine Below.alloc ?_ (by simp <;> omega) _)

theorem eqEngine_own (x y : Engine) (s r : (Sl × Sl) × Sl × Sl) (w : World) (hl : cntEngine x ≤ 2000000) (hl' : cntEngine y ≤ 2000000) (h : engineD.rd w w.heap.size x s) (h' : engineD.rd w w.heap.size y r) :
    Calls Try.prog 17 #[engineW x s, engineW y r] w fun e w' => e = .returned (.bool (decide (x = y))) ∧ Below w.heap.size w w' := by
  have hbx : ∀ W, Below w.heap.size w W → engineD.rd W W.heap.size x s := fun W hW => engineD.rd_more (engineD.rd_below h hW) hW.size
  have hby : ∀ W, Below w.heap.size w W → engineD.rd W W.heap.size y r := fun W hW => engineD.rd_more (engineD.rd_below h' hW) hW.size
  go_enter Try.func17, Try.ntmps17
  go_wp2_with fail
  refine (eqYard_own x.yard y.yard s.1 r.1 _ (by unfold cntEngine at hl; omega) (by unfold cntEngine at hl'; omega) ((hbx _ (by repeat (first | exact Below.refl _ _ | refine Below.alloc ?_ (by simp <;> omega) _))).1) ((hby _ (by repeat (first | exact Below.refl _ _ | refine Below.alloc ?_ (by simp <;> omega) _))).1)).mono ?_
  rintro e w0 ⟨rfl, hb0⟩
  have B0 : Below w.heap.size w w0 := bnext (by repeat (first | exact Below.refl _ _ | refine Below.alloc ?_ (by simp <;> omega) _)) hb0
  obtain ⟨q0, p0⟩ := bcell hb0
  have z0 := hb0.size
  try simp only [World.size_alloc] at z0
  by_cases h0 : x.yard = y.yard
  case neg =>
    have H := Lib.hid (show decide (x = y) = false by simp only [decide_eq_false_iff_not]; intro e; exact h0 (by rw [e]))
    rw [decide_eq_false h0]
    clear h0
    go_wp2
    go_ret
    exact ⟨ret_bool (by first | exact H.out.symm | rfl), by exact B0⟩
  rw [decide_eq_true h0]
  have H0 := Lib.hid h0
  clear h0
  go_wp2_with fail
  refine (eqDisk_own x.disk y.disk s.2.1 r.2.1 _ (by unfold cntEngine at hl; omega) (by unfold cntEngine at hl'; omega) ((hbx _ (by first | exact B0 | (repeat (first | exact Below.refl _ _ | refine Below.alloc ?_ (by simp <;> omega) _)))).2.1) ((hby _ (by first | exact B0 | (repeat (first | exact Below.refl _ _ | refine Below.alloc ?_ (by simp <;> omega) _)))).2.1)).mono ?_
  rintro e w1 ⟨rfl, hb1⟩
  have B1 : Below w.heap.size w w1 := bnext (by first | exact B0 | (repeat (first | exact Below.refl _ _ | refine Below.alloc ?_ (by simp <;> omega) _))) hb1
  obtain ⟨q1, p1⟩ := bcell hb1
  have z1 := hb1.size
  try simp only [World.size_alloc] at z1
  have q1a := fun o => q1 w.heap.size o (by omega)
  have q1b := fun o => q1 (w.heap.size + 1) o (by omega)
  by_cases h1 : x.disk = y.disk
  case neg =>
    have H := Lib.hid (show decide (x = y) = false by simp only [decide_eq_false_iff_not]; intro e; exact h1 (by rw [e]))
    rw [decide_eq_false h1]
    clear h1
    go_wp2
    go_ret
    exact ⟨ret_bool (by first | exact H.out.symm | rfl), by exact B1⟩
  rw [decide_eq_true h1]
  have H1 := Lib.hid h1
  clear h1
  by_cases h2 : x.next = y.next
  case neg =>
    have t2 : (x.next != y.next) = true := by rw [bne_iff_ne]; exact h2
    have H := Lib.hid (show decide (x = y) = false by simp only [decide_eq_false_iff_not]; intro e; exact h2 (by rw [e]))
    clear h2
    go_wp2
    go_ret
    exact ⟨ret_bool (by first | exact H.out.symm | rfl), by exact B1⟩
  have t2 : (x.next != y.next) = false := by simp [h2]
  have H2 := Lib.hid h2
  clear h2
  by_cases h3 : x.calls = y.calls
  case neg =>
    have t3 : (x.calls != y.calls) = true := by rw [bne_iff_ne]; exact h3
    have H := Lib.hid (show decide (x = y) = false by simp only [decide_eq_false_iff_not]; intro e; exact h3 (by rw [e]))
    clear h3
    go_wp2
    go_ret
    exact ⟨ret_bool (by first | exact H.out.symm | rfl), by exact B1⟩
  have t3 : (x.calls != y.calls) = false := by simp [h3]
  have H3 := Lib.hid h3
  clear h3
  go_wp2_with fail
  refine (eqWaitS_own x.waits y.waits s.2.2 r.2.2 _ (by unfold cntEngine at hl; omega) (by unfold cntEngine at hl'; omega) ((hbx _ (by first | exact B1 | (repeat (first | exact Below.refl _ _ | refine Below.alloc ?_ (by simp <;> omega) _)))).2.2) ((hby _ (by first | exact B1 | (repeat (first | exact Below.refl _ _ | refine Below.alloc ?_ (by simp <;> omega) _)))).2.2)).mono ?_
  rintro e w4 ⟨rfl, hb4⟩
  have B4 : Below w.heap.size w w4 := bnext (by first | exact B1 | (repeat (first | exact Below.refl _ _ | refine Below.alloc ?_ (by simp <;> omega) _))) hb4
  obtain ⟨q4, p4⟩ := bcell hb4
  have z4 := hb4.size
  try simp only [World.size_alloc] at z4
  have q4a := fun o => q4 w.heap.size o (by omega)
  have q4b := fun o => q4 (w.heap.size + 1) o (by omega)
  by_cases h4 : x.waits = y.waits
  case neg =>
    have H := Lib.hid (show decide (x = y) = false by simp only [decide_eq_false_iff_not]; intro e; exact h4 (by rw [e]))
    rw [decide_eq_false h4]
    clear h4
    go_wp2
    go_ret
    exact ⟨ret_bool (by first | exact H.out.symm | rfl), by exact B4⟩
  rw [decide_eq_true h4]
  have H4 := Lib.hid h4
  clear h4
  by_cases h5 : x.state = y.state
  case neg =>
    have t5 : (x.state != y.state) = true := by rw [bne_iff_ne]; exact h5
    have H := Lib.hid (show decide (x = y) = false by simp only [decide_eq_false_iff_not]; intro e; exact h5 (by rw [e]))
    clear h5
    go_wp2
    go_ret
    exact ⟨ret_bool (by first | exact H.out.symm | rfl), by exact B4⟩
  have t5 : (x.state != y.state) = false := by simp [h5]
  have H5 := Lib.hid h5
  clear h5
  by_cases h6 : x.broken = y.broken
  case neg =>
    have t6 : (x.broken == y.broken) = false := beq_eq_false_iff_ne.2 h6
    have H := Lib.hid (show decide (x = y) = false by simp only [decide_eq_false_iff_not]; intro e; exact h6 (by rw [e]))
    clear h6
    go_wp2
    go_ret
    exact ⟨ret_bool (by first | exact H.out.symm | rfl), by exact B4⟩
  have t6 : (x.broken == y.broken) = true := by simp [h6]
  have H6 := Lib.hid h6
  clear h6
  have H := Lib.hid (show decide (x = y) = true by
    simp only [decide_eq_true_eq]
    have hh := And.intro H0.out (And.intro H1.out (And.intro H2.out (And.intro H3.out (And.intro H4.out (And.intro H5.out H6.out)))))
    obtain ⟨e0, e1, e2, e3, e4, e5, e6⟩ := hh
    cases x
    cases y
    simp only at e0 e1 e2 e3 e4 e5 e6
    subst e0 e1 e2 e3 e4 e5 e6
    rfl)
  go_wp2
  go_ret
  exact ⟨ret_bool (by first | exact H.out.symm | rfl), by exact B4⟩

theorem szEngine_own (x : Engine) (s : (Sl × Sl) × Sl × Sl) (left : Int) (w : World) (h0 : 0 ≤ left) (h1 : left ≤ 2000000) (hw : wfEngine x) (h : engineD.rd w w.heap.size x s) :
    Calls Try.prog 11 #[engineW x s, .int .i64 left] w (SzPost left (cntEngine x) w) := by
  have hbx : ∀ W, Below w.heap.size w W → engineD.rd W W.heap.size x s := fun W hW => engineD.rd_more (engineD.rd_below h hW) hW.size
  go_enter Try.func11, Try.ntmps11
  go_wp2_with fail
  refine (szYard_own x.yard s.1 left _ (by omega) (by omega) hw.1 ((hbx _ (by repeat (first | exact Below.refl _ _ | refine Below.alloc ?_ (by simp <;> omega) _))).1)).mono ?_
  rintro e w0 ⟨r0, rfl, hr0, hb0⟩
  have B0 : Below w.heap.size w w0 := bnext (by repeat (first | exact Below.refl _ _ | refine Below.alloc ?_ (by simp <;> omega) _)) hb0
  obtain ⟨q0, p0⟩ := bcell hb0
  have u0 := hb0.size
  simp only [World.size_alloc] at u0
  rcases hr0 with rfl | ⟨y0, z0⟩
  · go_wp2
    go_ret
    exact ⟨-1, rfl, .inl rfl, B0⟩
  go_wp2_with fail
  refine (szDisk_own x.disk s.2.1 r0 _ (by omega) (by omega) hw.2.1 ((hbx _ B0).2.1)).mono ?_
  rintro e w1 ⟨r1, rfl, hr1, hb1⟩
  have B1 : Below w.heap.size w w1 := bnext B0 hb1
  obtain ⟨q1, p1⟩ := bcell hb1
  have u1 := hb1.size
  have q1a := fun o => q1 w.heap.size o (by omega)
  rcases hr1 with rfl | ⟨y1, z1⟩
  · go_wp2
    go_ret
    exact ⟨-1, rfl, .inl rfl, B1⟩
  go_wp2_with fail
  refine (szWaitS_own x.waits s.2.2 r1 _ (by omega) (by omega) hw.2.2.2.2.1 ((hbx _ B1).2.2)).mono ?_
  rintro e w2 ⟨r2, rfl, hr2, hb2⟩
  have B2 : Below w.heap.size w w2 := bnext B1 hb2
  obtain ⟨q2, p2⟩ := bcell hb2
  have u2 := hb2.size
  have q2a := fun o => q2 w.heap.size o (by omega)
  rcases hr2 with rfl | ⟨y2, z2⟩
  · go_wp2
    go_ret
    exact ⟨-1, rfl, .inl rfl, B2⟩
  go_wp2
  go_ret
  exact ⟨_, rfl, .inr ⟨by omega, by unfold cntEngine; omega⟩, B2⟩
end Go.Proofs.Ytjobmbjadpldfaa
