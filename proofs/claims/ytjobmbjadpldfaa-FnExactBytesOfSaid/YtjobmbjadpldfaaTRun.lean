/-
  Data of the type Run: how it lies in memory, and the walks of the laws' helpers on it. Written by program (deep.py).
-/
import Derived.Test.YtjobmbjadpldfaaTPlan
import Derived.Test.YtjobmbjadpldfaaTTask
namespace Go.Proofs.Ytjobmbjadpldfaa
open Go.RowKit
set_option maxRecDepth 100000
set_option maxHeartbeats 1000000
set_option linter.unusedVariables false
set_option linter.unusedSimpArgs false

structure Run where
  id : Int
  plan : Plan
  state : Int
  tasks : List Task
deriving DecidableEq, Inhabited

@[go_sem] abbrev runW (x : Run) (s : Sl × Sl) : Value := .agg #[.int .i64 x.id, .int .i64 x.plan.prio, .int .i64 x.plan.most, .int .i64 x.plan.wait, .int .i64 x.plan.tasks, .slice s.1.a s.1.n s.1.c, .int .i64 x.state, .slice s.2.a s.2.n s.2.c]
abbrev runD : Dt Run := Dt.two planD (Dt.list taskD) (·.plan) (·.tasks) (fun q => [.int .i64 q.1.id, .int .i64 q.1.plan.prio, .int .i64 q.1.plan.most, .int .i64 q.1.plan.wait, .int .i64 q.1.plan.tasks, .slice q.2.1.a q.2.1.n q.2.1.c, .int .i64 q.1.state, .slice q.2.2.a q.2.2.n q.2.2.c]) 8 (fun _ => rfl) (fun q u hu => by simp at hu; rcases hu with rfl | rfl | rfl | rfl | rfl | rfl | rfl | rfl <;> rfl)
/-- all lengths in it together -/
def cntRun (x : Run) : Nat := cntPlan x.plan + cntL cntTask x.tasks
/-- ints are int64, lengths are what a machine holds -/
def wfRun (x : Run) : Prop := Wf x.id ∧ wfPlan x.plan ∧ Wf x.state ∧ wfL wfTask x.tasks
def numRun (x : Run) : Nat := 6 + numL numEdge x.plan.edges + numL numTask x.tasks
/-- with the marks from k on -/
def mkRun (k : Int) (x : Run) : Run := ⟨k, ⟨k + 1, k + 1 + 1, k + 1 + 1 + 1, k + 1 + 1 + 1 + 1, mkL mkEdge numEdge (k + 1 + 1 + 1 + 1 + 1) x.plan.edges⟩, k + 1 + 1 + 1 + 1 + 1 + (numL numEdge x.plan.edges : Nat), mkL mkTask numTask (k + 1 + 1 + 1 + 1 + 1 + (numL numEdge x.plan.edges : Nat) + 1) x.tasks⟩
theorem numRun_le (x : Run) : numRun x ≤ 13 * (cntRun x + 1) := by
  have h0 := numL_le (num := numEdge) (cnt := cntEdge) (K := 13) numEdge_le x.plan.edges
  have h1 := numL_le (num := numTask) (cnt := cntTask) (K := 13) numTask_le x.tasks
  unfold numRun cntRun cntPlan
  omega

theorem toRun_own (x : Run) (s : Sl × Sl) (w : World) (hl : cntRun x ≤ 2000000) (h : runD.rd w w.heap.size x s) :
    Calls Try.prog 70 #[runW x s] w (OwnPost runD runW x w) := by
  have hbx : ∀ W, Below w.heap.size w W → runD.rd W W.heap.size x s := fun W hW => runD.rd_more (runD.rd_below h hW) hW.size
  go_enter Try.func70, Try.ntmps70
  go_wp2_with fail
  refine (toPlan_own x.plan s.1 _ (by unfold cntRun at hl; omega) ((hbx _ (by repeat (first | exact Below.refl _ _ | refine Below.alloc ?_ (by simp <;> omega) _))).1)).mono ?_
  rintro e w0 ⟨s0, F0, rfl, o0, n0, hb0⟩
  obtain ⟨q0, p0⟩ := bcell hb0
  have z0 := hb0.size
  simp only [World.size_alloc, World.size_setCell] at z0 n0
  have B0 : Below w.heap.size w w0 := bnext (by repeat (first | exact Below.refl _ _ | refine Below.alloc ?_ (by simp <;> omega) _)) hb0
  go_wp2_with fail
  refine (toTaskS_own x.tasks s.2 _ (by unfold cntRun at hl; omega) ((hbx _ (by repeat (first | (with_reducible exact B0) | (with_reducible exact Below.refl _ _) | refine Below.setCell ?_ (by simp <;> omega) _ | refine Below.alloc ?_ (by simp <;> omega) _))).2)).mono ?_
  rintro e w1 ⟨s1, F1, rfl, o1, n1, hb1⟩
  obtain ⟨q1, p1⟩ := bcell hb1
  have z1 := hb1.size
  simp only [World.size_alloc, World.size_setCell] at z1 n1 q1 p1
  have B1 : Below w.heap.size w w1 := bnext (by repeat (first | (with_reducible exact B0) | (with_reducible exact Below.refl _ _) | refine Below.setCell ?_ (by simp <;> omega) _ | refine Below.alloc ?_ (by simp <;> omega) _)) hb1
  have q1a := fun o => q1 w.heap.size o (by omega)
  have p1a := fun o => p1 w.heap.size o (by omega)
  have q1b := fun o => q1 (w.heap.size + 1) o (by omega)
  have p1b := fun o => p1 (w.heap.size + 1) o (by omega)
  have q1c := fun o => q1 (w.heap.size + 1 + 1) o (by omega)
  have p1c := fun o => p1 (w.heap.size + 1 + 1) o (by omega)
  go_wp2
  refine bodyPost_ret (v := runW x (s0, s1)) ?_ rfl ?_
  · simp [runW, results, Try.results70, go_sem, q0, q1, q1a, q1b, q1c]
  · refine ⟨(s0, s1), F0 ++ F1, rfl, ⟨F0, F1, rfl, ?_, ?_, ?_⟩, ?_, ?_⟩
    · rw [List.nodup_append]
      refine ⟨Dt.ow_nodup planD o0, Dt.ow_nodup (Dt.list taskD) o1, fun u hu u' hu' e => ?_⟩
      have h1 := Dt.ow_lt planD o0 u hu
      have h2 := n1 u' hu'
      omega
    · repeat (first | (with_reducible exact o0) | refine Dt.ow_set planD ?_ (by intro hm; have := n0 _ hm; (try simp only [World.size_alloc, World.size_setCell] at this); omega) _ | (with_reducible refine Dt.ow_below planD ?_ hb1))
    · repeat (first | (with_reducible exact o1) | refine Dt.ow_set (Dt.list taskD) ?_ (by intro hm; have := n1 _ hm; (try simp only [World.size_alloc, World.size_setCell] at this); omega) _)
    · intro u hu
      rcases List.mem_append.1 hu with hu | hu
      · have := n0 u hu
        omega
      · have := n1 u hu
        omega
    · repeat (first | (with_reducible exact B1) | (with_reducible exact Below.refl _ _) | refine Below.setCell ?_ (by simp <;> omega) _ | refine Below.alloc ?_ (by simp <;> omega) _)

theorem eqRun_own (x y : Run) (s r : Sl × Sl) (w : World) (hl : cntRun x ≤ 2000000) (hl' : cntRun y ≤ 2000000) (h : runD.rd w w.heap.size x s) (h' : runD.rd w w.heap.size y r) :
    Calls Try.prog 78 #[runW x s, runW y r] w fun e w' => e = .returned (.bool (decide (x = y))) ∧ Below w.heap.size w w' := by
  have hbx : ∀ W, Below w.heap.size w W → runD.rd W W.heap.size x s := fun W hW => runD.rd_more (runD.rd_below h hW) hW.size
  have hby : ∀ W, Below w.heap.size w W → runD.rd W W.heap.size y r := fun W hW => runD.rd_more (runD.rd_below h' hW) hW.size
  by_cases h0 : x.id = y.id
  case neg =>
    have t0 : (x.id != y.id) = true := by rw [bne_iff_ne]; exact h0
    have H := Lib.hid (show decide (x = y) = false by simp only [decide_eq_false_iff_not]; intro e; exact h0 (by rw [e]))
    clear h0
    go_enter Try.func78, Try.ntmps78
    go_wp2
    go_ret
    exact ⟨ret_bool (by first | exact H.out.symm | rfl), by repeat (first | exact Below.refl _ _ | refine Below.alloc ?_ (by simp <;> omega) _)⟩
  have t0 : (x.id != y.id) = false := by simp [h0]
  have H0 := Lib.hid h0
  clear h0
  go_enter Try.func78, Try.ntmps78
  go_wp2_with fail
  refine (eqPlan_own x.plan y.plan s.1 r.1 _ (by unfold cntRun at hl; omega) (by unfold cntRun at hl'; omega) ((hbx _ (by repeat (first | exact Below.refl _ _ | refine Below.alloc ?_ (by simp <;> omega) _))).1) ((hby _ (by repeat (first | exact Below.refl _ _ | refine Below.alloc ?_ (by simp <;> omega) _))).1)).mono ?_
  rintro e w1 ⟨rfl, hb1⟩
  have B1 : Below w.heap.size w w1 := bnext (by repeat (first | exact Below.refl _ _ | refine Below.alloc ?_ (by simp <;> omega) _)) hb1
  obtain ⟨q1, p1⟩ := bcell hb1
  by_cases h1 : x.plan = y.plan
  case neg =>
    have H := Lib.hid (show decide (x = y) = false by simp only [decide_eq_false_iff_not]; intro e; exact h1 (by rw [e]))
    rw [decide_eq_false h1]
    clear h1
    go_wp2
    go_ret
    exact ⟨ret_bool (by first | exact H.out.symm | rfl), by exact B1⟩
  rw [decide_eq_true h1]
  have H1 := Lib.hid h1
  clear h1
  by_cases h2 : x.state = y.state
  case neg =>
    have t2 : (x.state != y.state) = true := by rw [bne_iff_ne]; exact h2
    have H := Lib.hid (show decide (x = y) = false by simp only [decide_eq_false_iff_not]; intro e; exact h2 (by rw [e]))
    clear h2
    go_wp2
    go_ret
    exact ⟨ret_bool (by first | exact H.out.symm | rfl), by exact B1⟩
  have t2 : (x.state != y.state) = false := by simp [h2]
  have H2 := Lib.hid h2
  clear h2
  go_wp2_with fail
  refine (eqTaskS_own x.tasks y.tasks s.2 r.2 _ (by unfold cntRun at hl; omega) (by unfold cntRun at hl'; omega) ((hbx _ (by first | exact B1 | (repeat (first | exact Below.refl _ _ | refine Below.alloc ?_ (by simp <;> omega) _)))).2) ((hby _ (by first | exact B1 | (repeat (first | exact Below.refl _ _ | refine Below.alloc ?_ (by simp <;> omega) _)))).2)).mono ?_
  rintro e w3 ⟨rfl, hb3⟩
  have B3 : Below w.heap.size w w3 := bnext (by first | exact B1 | (repeat (first | exact Below.refl _ _ | refine Below.alloc ?_ (by simp <;> omega) _))) hb3
  obtain ⟨q3, p3⟩ := bcell hb3
  by_cases h3 : x.tasks = y.tasks
  case neg =>
    have H := Lib.hid (show decide (x = y) = false by simp only [decide_eq_false_iff_not]; intro e; exact h3 (by rw [e]))
    rw [decide_eq_false h3]
    clear h3
    go_wp2
    go_ret
    exact ⟨ret_bool (by first | exact H.out.symm | rfl), by exact B3⟩
  rw [decide_eq_true h3]
  have H3 := Lib.hid h3
  clear h3
  have H := Lib.hid (show decide (x = y) = true by
    simp only [decide_eq_true_eq]
    have hh := And.intro H0.out (And.intro H1.out (And.intro H2.out H3.out))
    obtain ⟨e0, e1, e2, e3⟩ := hh
    cases x
    cases y
    simp only at e0 e1 e2 e3
    subst e0 e1 e2 e3
    rfl)
  go_wp2
  go_ret
  exact ⟨ret_bool (by first | exact H.out.symm | rfl), by exact B3⟩

theorem szRun_own (x : Run) (s : Sl × Sl) (left : Int) (w : World) (h0 : 0 ≤ left) (h1 : left ≤ 2000000) (hw : wfRun x) (h : runD.rd w w.heap.size x s) :
    Calls Try.prog 67 #[runW x s, .int .i64 left] w (SzPost left (cntRun x) w) := by
  have hbx : ∀ W, Below w.heap.size w W → runD.rd W W.heap.size x s := fun W hW => runD.rd_more (runD.rd_below h hW) hW.size
  go_enter Try.func67, Try.ntmps67
  go_wp2_with fail
  refine (szPlan_own x.plan s.1 left _ (by omega) (by omega) hw.2.1 ((hbx _ (by repeat (first | exact Below.refl _ _ | refine Below.alloc ?_ (by simp <;> omega) _))).1)).mono ?_
  rintro e w0 ⟨r0, rfl, hr0, hb0⟩
  have B0 : Below w.heap.size w w0 := bnext (by repeat (first | exact Below.refl _ _ | refine Below.alloc ?_ (by simp <;> omega) _)) hb0
  obtain ⟨q0, p0⟩ := bcell hb0
  rcases hr0 with rfl | ⟨y0, z0⟩
  · go_wp2
    go_ret
    exact ⟨-1, rfl, .inl rfl, B0⟩
  go_wp2_with fail
  refine (szTaskS_own x.tasks s.2 r0 _ (by omega) (by omega) hw.2.2.2 ((hbx _ B0).2)).mono ?_
  rintro e w1 ⟨r1, rfl, hr1, hb1⟩
  have B1 : Below w.heap.size w w1 := bnext B0 hb1
  obtain ⟨q1, p1⟩ := bcell hb1
  rcases hr1 with rfl | ⟨y1, z1⟩
  · go_wp2
    go_ret
    exact ⟨-1, rfl, .inl rfl, B1⟩
  go_wp2
  go_ret
  exact ⟨_, rfl, .inr ⟨by omega, by unfold cntRun; omega⟩, B1⟩

theorem RdL.run {w : World} {B : Nat} {A : Option Addr} {n c : Nat} {l : List (Run)} (h : RdL runD w B (.slice A n c) l) {k : Nat} (hk : k < l.length) :
    ∃ b o, ∃ s : Sl × Sl, A = some ⟨b, o, none⟩ ∧ b < B ∧ runD.rd w B l[k] s ∧ w.cell? ⟨b, o + k * 8, none⟩ = some (.int .i64 l[k].id) ∧ w.cell? ⟨b, o + k * 8 + 1, none⟩ = some (.int .i64 l[k].plan.prio) ∧ w.cell? ⟨b, o + k * 8 + 2, none⟩ = some (.int .i64 l[k].plan.most) ∧ w.cell? ⟨b, o + k * 8 + 3, none⟩ = some (.int .i64 l[k].plan.wait) ∧ w.cell? ⟨b, o + k * 8 + 4, none⟩ = some (.int .i64 l[k].plan.tasks) ∧ w.cell? ⟨b, o + k * 8 + 5, none⟩ = some (.slice s.1.a s.1.n s.1.c) ∧ w.cell? ⟨b, o + k * 8 + 6, none⟩ = some (.int .i64 l[k].state) ∧ w.cell? ⟨b, o + k * 8 + 7, none⟩ = some (.slice s.2.a s.2.n s.2.c) := by
  obtain ⟨b, o, s, rfl, hb, hc, hr⟩ := h.at_ k hk
  exact ⟨b, o, s, rfl, hb, hr, hc 0 _ rfl, hc 1 _ rfl, hc 2 _ rfl, hc 3 _ rfl, hc 4 _ rfl, hc 5 _ rfl, hc 6 _ rfl, hc 7 _ rfl⟩
theorem Ow.c_run {E : TypeId} {w : World} {base g n cap : Nat} {l : List ((Run) × Sl × Sl)} (h : Ow runD.enc E w base (.slice (some ⟨g, 0, none⟩) n cap) l) {k : Nat} (hk : k < l.length) :
    w.cell? ⟨g, k * 8, none⟩ = some (.int .i64 l[k].1.id) ∧ w.cell? ⟨g, k * 8 + 1, none⟩ = some (.int .i64 l[k].1.plan.prio) ∧ w.cell? ⟨g, k * 8 + 2, none⟩ = some (.int .i64 l[k].1.plan.most) ∧ w.cell? ⟨g, k * 8 + 3, none⟩ = some (.int .i64 l[k].1.plan.wait) ∧ w.cell? ⟨g, k * 8 + 4, none⟩ = some (.int .i64 l[k].1.plan.tasks) ∧ w.cell? ⟨g, k * 8 + 5, none⟩ = some (.slice l[k].2.1.a l[k].2.1.n l[k].2.1.c) ∧ w.cell? ⟨g, k * 8 + 6, none⟩ = some (.int .i64 l[k].1.state) ∧ w.cell? ⟨g, k * 8 + 7, none⟩ = some (.slice l[k].2.2.a l[k].2.2.n l[k].2.2.c) := by
  rcases h.form with ⟨h1, _⟩ | ⟨g', cap', hv, _, _, _, _, _, hc⟩
  · simp at h1
  · simp only [Value.slice.injEq, Option.some.injEq, Addr.mk.injEq, and_true] at hv
    obtain ⟨rfl, _, _⟩ := hv
    exact ⟨hc k hk 0 _ rfl, hc k hk 1 _ rfl, hc k hk 2 _ rfl, hc k hk 3 _ rfl, hc k hk 4 _ rfl, hc k hk 5 _ rfl, hc k hk 6 _ rfl, hc k hk 7 _ rfl⟩
theorem Foc.run {w : World} {b o n c j : Nat} {rs : List ((Run) × Sl × Sl)} {G1 Fx G2 : List Nat} {x : Run} {s : Sl × Sl} (h : Foc runD w b o n c rs j G1 Fx G2 x s) :
    w.cell? ⟨b, o + j * 8, none⟩ = some (.int .i64 x.id) ∧ w.cell? ⟨b, o + j * 8 + 1, none⟩ = some (.int .i64 x.plan.prio) ∧ w.cell? ⟨b, o + j * 8 + 2, none⟩ = some (.int .i64 x.plan.most) ∧ w.cell? ⟨b, o + j * 8 + 3, none⟩ = some (.int .i64 x.plan.wait) ∧ w.cell? ⟨b, o + j * 8 + 4, none⟩ = some (.int .i64 x.plan.tasks) ∧ w.cell? ⟨b, o + j * 8 + 5, none⟩ = some (.slice s.1.a s.1.n s.1.c) ∧ w.cell? ⟨b, o + j * 8 + 6, none⟩ = some (.int .i64 x.state) ∧ w.cell? ⟨b, o + j * 8 + 7, none⟩ = some (.slice s.2.a s.2.n s.2.c) := ⟨h.cells 0 _ rfl, h.cells 1 _ rfl, h.cells 2 _ rfl, h.cells 3 _ rfl, h.cells 4 _ rfl, h.cells 5 _ rfl, h.cells 6 _ rfl, h.cells 7 _ rfl⟩

theorem szRunS_own (l : List (Run)) (s : Sl) (left : Int) (w : World) (h0 : 0 ≤ left) (h1 : left ≤ 2000000) (hw : wfL wfRun l) (h : RdL runD w w.heap.size s.v l) :
    Calls Try.prog 42 #[.slice s.a s.n s.c, .int .i64 left] w (SzPost left (cntL cntRun l) w) := by
  obtain ⟨A, n, c⟩ := s
  obtain ⟨A', c', hv, -⟩ := h.form
  simp only [Sl.v, Value.slice.injEq] at hv
  obtain ⟨rfl, rfl, rfl⟩ := hv
  have hll := hw.1
  by_cases hlt : left < l.length
  · go_enter Try.func42, Try.ntmps42
    go_wp2
    go_ret
    exact ⟨-1, rfl, .inl rfl, Below.refl _ _⟩
  have Hw := Lib.hid hw
  clear hw
  go_enter Try.func42, Try.ntmps42
  go_wp2
  go_loopw [1, 5] (fun t i wr => ∃ k : Nat, ∃ m : Int, k ≤ l.length ∧ i = .int .i64 k ∧ t = .int .i64 m ∧ 0 ≤ m ∧ m + l.length + (((l.take k).map cntRun).sum : Nat) ≤ left ∧ Below w.heap.size w wr) (fun _ i _ => l.length - (intOf i).toNat)
  case atStart => exact ⟨0, _, Nat.zero_le _, rfl, rfl, by omega, by simp <;> omega, Below.refl _ _⟩
  case round =>
    obtain ⟨k, m, hk, rfl, rfl, m0, m1, hb⟩ := hrel
    by_cases hlt : k < l.length
    · obtain ⟨b, o, s, rfl, hbb, hr, c0, c1, c2, c3, c4, c5, c6, c7⟩ := (h.below hb).run hlt
      have hx : ∀ W, Below wr.heap.size wr W → runD.rd W W.heap.size l[k] s := fun W hW => runD.rd_more (runD.rd_below (runD.rd_more hr hb.size) hW) hW.size
      have hwk : wfRun l[k] := Hw.out.2 _ (List.getElem_mem hlt)
      have M1 := Lib.hid m1
      have m2 : m ≤ 2000000 := by omega
      clear m1
      go_wp2_with fail
      refine (szRun_own l[k] s m _ m0 m2 hwk (hx _ (by first | exact Below.refl _ _ | exact (Below.refl _ _).drew))).mono ?_
      rintro e w1 ⟨r, rfl, hr, hb1⟩
      rcases hr with rfl | ⟨r0, r1⟩
      · go_wp2
        go_ret
        exact ⟨-1, rfl, .inl rfl, bnext hb hb1⟩
      · go_wp2
        refine ⟨⟨k + 1, r, by omega, by go_num, rfl, r0, ?_, bnext hb hb1⟩, by simp [intOf]; omega⟩
        have M2 := M1.out
        have r2 : r + (cntRun l[k] : Nat) ≤ m := r1
        rw [sum_take_succ _ _ _ hlt]
        push_cast
        omega
    · go_wp2
      go_ret
      refine ⟨_, rfl, .inr ⟨by omega, ?_⟩, hb⟩
      rw [List.take_of_length_le (by omega)] at m1
      unfold cntL
      push_cast
      omega

theorem eqRunS_own (l l' : List (Run)) (s s' : Sl) (w : World) (hl : cntL cntRun l ≤ 2000000) (hl' : cntL cntRun l' ≤ 2000000) (h : RdL runD w w.heap.size s.v l) (h' : RdL runD w w.heap.size s'.v l') :
    Calls Try.prog 51 #[.slice s.a s.n s.c, .slice s'.a s'.n s'.c] w fun e w' => e = .returned (.bool (decide (l = l'))) ∧ Below w.heap.size w w' := by
  obtain ⟨A, n, c⟩ := s
  obtain ⟨A0, c0, hv, -⟩ := h.form
  simp only [Sl.v, Value.slice.injEq] at hv
  obtain ⟨rfl, rfl, rfl⟩ := hv
  obtain ⟨A', n', c'⟩ := s'
  obtain ⟨A0, c0, hv, -⟩ := h'.form
  simp only [Sl.v, Value.slice.injEq] at hv
  obtain ⟨rfl, rfl, rfl⟩ := hv
  have hll : l.length ≤ 2000000 := Nat.le_trans (cntL_len _ _) hl
  have hll' : l'.length ≤ 2000000 := Nat.le_trans (cntL_len _ _) hl'
  have hcc : ∀ k (hk : k < l.length), cntRun l[k] ≤ 2000000 := fun k hk => by have := cntL_mem (cnt := cntRun) (List.getElem_mem hk); omega
  have hcc' : ∀ k (hk : k < l'.length), cntRun l'[k] ≤ 2000000 := fun k hk => by have := cntL_mem (cnt := cntRun) (List.getElem_mem hk); omega
  clear hl hl'
  by_cases hne : l.length = l'.length
  · have hb0 : ((l.length : Int) != (l'.length : Int)) = false := by simp [hne]
    have Hne := Lib.hid hne
    clear hne
    go_enter Try.func51, Try.ntmps51
    go_wp2
    go_loopw [5] (fun i wr => ∃ k : Nat, k ≤ l.length ∧ i = .int .i64 k ∧ Hid (l.take k = l'.take k) ∧ Below w.heap.size w wr) (fun i _ => l.length - (intOf i).toNat)
    case atStart => exact ⟨0, Nat.zero_le _, rfl, rfl, Below.refl _ _⟩
    case round =>
      obtain ⟨k, hk, rfl, heq, hb⟩ := hrel
      by_cases hlt : k < l.length
      · have hlt' : k < l'.length := by rw [← Hne.out]; exact hlt
        obtain ⟨b, o, s, rfl, hbb, hr, c0, c1, c2, c3, c4, c5, c6, c7⟩ := (h.below hb).run hlt
        obtain ⟨b', o', s', rfl, hbb', hr', d0, d1, d2, d3, d4, d5, d6, d7⟩ := (h'.below hb).run hlt'
        have hx : ∀ W, Below wr.heap.size wr W → runD.rd W W.heap.size l[k] s := fun W hW => runD.rd_more (runD.rd_below (runD.rd_more hr hb.size) hW) hW.size
        have hx' : ∀ W, Below wr.heap.size wr W → runD.rd W W.heap.size l'[k] s' := fun W hW => runD.rd_more (runD.rd_below (runD.rd_more hr' hb.size) hW) hW.size
        go_wp2
        go_still_tail 8, (by kernel_rfl)
        go_wp2_with (go_at_call 78; refine (eqRun_own l[k] l'[k] s s' _ (hcc k hlt) (hcc' k hlt') (hx _ (by first | exact Below.refl _ _ | exact (Below.refl _ _).drew)) (hx' _ (by first | exact Below.refl _ _ | exact (Below.refl _ _).drew))).mono ?_; rintro e w1 ⟨rfl, hb1⟩)
        · rename_i hd
          go_ret
          refine ⟨ret_bool ?_, (hb.drew).trans (hb1.mono hb.size)⟩
          simp only [Bool.false_eq, decide_eq_false_iff_not]
          intro e
          subst e
          simp at hd
        · rename_i hd
          refine ⟨⟨k + 1, by omega, by go_num, ?_, (hb.drew).trans (hb1.mono hb.size)⟩, by simp [intOf]; omega⟩
          show List.take (k + 1) l = List.take (k + 1) l'
          rw [take_snoc l k hlt, take_snoc l' k hlt', heq.out]
          simp at hd
          rw [hd]
      · go_wp2
        go_ret
        refine ⟨ret_bool ?_, hb⟩
        have h1 := heq.out
        rw [List.take_of_length_le (by omega), List.take_of_length_le (by rw [← Hne.out]; omega)] at h1
        simp [h1]
  · have hb0 : ((l.length : Int) != (l'.length : Int)) = true := by simp; omega
    go_enter Try.func51, Try.ntmps51
    go_wp2
    go_ret
    refine ⟨ret_bool ?_, Below.refl _ _⟩
    simp only [Bool.false_eq, decide_eq_false_iff_not]
    intro e
    exact hne (by rw [e])


theorem run_infoD : (Try.prog.info? 102).map (fun i => (i.zero, i.size, i.bytes)) = some (some (.agg #[.int .i64 0, .int .i64 0, .int .i64 0, .int .i64 0, .int .i64 0, .slice none 0 0, .int .i64 0, .slice none 0 0]), 8, 96) := by kernel_rfl

theorem toRunS_own (l : List (Run)) (s : Sl) (w : World) (hl : cntL cntRun l ≤ 2000000) (h : RdL runD w w.heap.size s.v l) :
    Calls Try.prog 46 #[.slice s.a s.n s.c] w (OwnPost (Dt.list runD) slV l w) := by
  obtain ⟨A, n, c⟩ := s
  obtain ⟨A', c', hv, -⟩ := h.form
  simp only [Sl.v, Value.slice.injEq] at hv
  obtain ⟨rfl, rfl, rfl⟩ := hv
  have hll : l.length ≤ 2000000 := Nat.le_trans (cntL_len _ _) hl
  have hcc : ∀ k (hk : k < l.length), cntRun l[k] ≤ 2000000 := fun k hk => by have := cntL_mem (cnt := cntRun) (List.getElem_mem hk); omega
  clear hl
  obtain ⟨i0, hi0, hz0, hz1, hz2⟩ := info_parts run_infoD
  have hmk : ∀ w : World, (Instr.makeSlice 45 (.int .i64 (l.length : Int)) (.int .i64 (l.length : Int))).run Try.prog w = .ok (.slice (some ⟨w.heap.size, 0, none⟩) l.length l.length) (w.alloc (.cells (madeCells #[.int .i64 0, .int .i64 0, .int .i64 0, .int .i64 0, .int .i64 0, .slice none 0 0, .int .i64 0, .slice none 0 0] (l.length * 8)) 102)) := by
    intro w
    have := run_make (P := Try.prog) w 45 102 i0 _ Try.underlying45 hi0 hz0 .i64 .i64 l.length l.length (by omega) (by omega) (by rw [hz2]; omega) (by omega)
    rw [hz1] at this
    simpa [Value.cells] using this
  go_enter Try.func46, Try.ntmps46
  go_wp2
  go_loopw [4] (fun i wr => ∃ k : Nat, k ≤ l.length ∧ i = .int .i64 k ∧ Hid (∃ (rs : List ((Run) × Sl × Sl)) (G : List Nat), rs.map (·.1) = l.take k ∧ Ow runD.enc 102 wr w.heap.size (.slice (some ⟨w.heap.size, 0, none⟩) l.length l.length) (rs ++ List.replicate (l.length - k) (⟨0, ⟨0, 0, 0, 0, []⟩, 0, []⟩, (⟨none, 0, 0⟩, ⟨none, 0, 0⟩))) ∧ Ows runD wr G rs ∧ G.Nodup ∧ ∀ b ∈ G, w.heap.size < b) ∧ Below w.heap.size w wr) (fun i _ => l.length - (intOf i).toNat)
  case atStart => exact ⟨0, Nat.zero_le _, rfl, ⟨[], [], rfl, by rw [List.nil_append, Nat.sub_zero]; exact Ow.made runD.enc 102 w (⟨0, ⟨0, 0, 0, 0, []⟩, 0, []⟩, (⟨none, 0, 0⟩, ⟨none, 0, 0⟩)) l.length (by decide) (by simp [maxLen]; omega) rfl rfl, .nil, List.nodup_nil, fun _ h => by cases h⟩, (Below.refl _ _).alloc (Nat.le_refl _) _⟩
  case round =>
    obtain ⟨k, hk, rfl, ⟨rs, G, hm, hown, hG, hGn, hGb⟩, hb⟩ := hrel
    have hrl : rs.length = k := by have := congrArg List.length hm; simpa [Nat.min_eq_left hk] using this
    by_cases hlt : k < l.length
    · obtain ⟨b, o, s, rfl, hbb, hr, c0, c1, c2, c3, c4, c5, c6, c7⟩ := (h.below hb).run hlt
      have hx : ∀ W, Below wr.heap.size wr W → runD.rd W W.heap.size l[k] s := fun W hW => runD.rd_more (runD.rd_below (runD.rd_more hr hb.size) hW) hW.size
      have hlen : (rs ++ List.replicate (l.length - k) ((⟨0, ⟨0, 0, 0, 0, []⟩, 0, []⟩, (⟨none, 0, 0⟩, ⟨none, 0, 0⟩)) : (Run) × Sl × Sl)).length = l.length := by simp; omega
      have Hm := Lib.hid hm
      have Hrl := Lib.hid hrl
      clear hm hrl
      go_wp2_with (go_at_call 70; refine (toRun_own l[k] s _ (hcc k hlt) (hx _ (by first | exact Below.refl _ _ | exact (Below.refl _ _).drew))).mono ?_; rintro e w1 ⟨s1, F1, rfl, o1, n1, hb1⟩; have hown1 := hown.below hb1; have hf := hown1.free; obtain ⟨d0, d1, d2, d3, d4, d5, d6, d7⟩ := hown1.c_run (k := k) (by rw [hlen]; exact hlt))
      have hp := Ow.put hown1 hlen k hlt (l[k], s1)
      have Hp := Bld.lay hG hGn hGb hb1 (r := (l[k], s1)) o1 n1 (Nat.lt_of_lt_of_le (hown.blk).2 (Nat.le_refl _)) hp.2
      rw [mix_snoc rs _ k l.length Hrl.out hlt] at hp
      refine ⟨⟨k + 1, by omega, by go_num, ⟨rs ++ [(l[k], s1)], G ++ F1, ?_, hp.1, Hp.1, Hp.2.1, Hp.2.2⟩, (hb.trans (hb1.mono hb.size)).grown hp.2 (Nat.le_trans hb.size hb1.size) (fun g hg => by simp at hg; omega)⟩, by simp [intOf]; omega⟩
      rw [List.map_append, Hm.out, take_snoc l k hlt]
      rfl
    · have hk' : k = l.length := by omega
      subst hk'
      rw [Nat.sub_self, List.replicate_zero, List.append_nil] at hown
      go_wp2
      go_ret
      rw [List.take_length] at hm
      have hB : Bld runD 102 wr w.heap.size (.slice (some ⟨w.heap.size, 0, none⟩) l.length l.length) rs := ⟨G, by rw [← hrl]; exact (by rw [hrl]; exact hown), hG, hGn, fun b hb' => ⟨Nat.le_of_lt (hGb b hb'), by simp [Value.ownBlock]; have := hGb b hb'; omega⟩⟩
      obtain ⟨F, h1, h2⟩ := hB.owl hm
      exact ⟨⟨some ⟨w.heap.size, 0, none⟩, l.length, l.length⟩, F, rfl, h1, h2, hb⟩


end Go.Proofs.Ytjobmbjadpldfaa
