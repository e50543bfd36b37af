/-
  Data of the type Deed: how it lies in memory, and the walks of the laws' helpers on it. Written by program (deep.py).
-/
import Derived.Test.YtjobmbjadpldfaaTPlan
namespace Go.Proofs.Ytjobmbjadpldfaa
open Go.RowKit
set_option maxRecDepth 100000
set_option maxHeartbeats 1000000
set_option linter.unusedVariables false
set_option linter.unusedSimpArgs false

structure Deed where
  kind : Int
  run : Int
  plan : Plan
  task : Int
  try_ : Int
  worker : Int
  draw : Int
deriving DecidableEq, Inhabited

@[go_sem] abbrev deedW (x : Deed) (s : Sl) : Value := .agg #[.int .i64 x.kind, .int .i64 x.run, .int .i64 x.plan.prio, .int .i64 x.plan.most, .int .i64 x.plan.wait, .int .i64 x.plan.tasks, .slice s.a s.n s.c, .int .i64 x.task, .int .i64 x.try_, .int .i64 x.worker, .int .i64 x.draw]
abbrev deedD : Dt Deed := Dt.via planD (·.plan) (fun q => [.int .i64 q.1.kind, .int .i64 q.1.run, .int .i64 q.1.plan.prio, .int .i64 q.1.plan.most, .int .i64 q.1.plan.wait, .int .i64 q.1.plan.tasks, .slice q.2.a q.2.n q.2.c, .int .i64 q.1.task, .int .i64 q.1.try_, .int .i64 q.1.worker, .int .i64 q.1.draw]) 11 (fun _ => rfl) (fun q u hu => by simp at hu; rcases hu with rfl | rfl | rfl | rfl | rfl | rfl | rfl | rfl | rfl | rfl | rfl <;> rfl)
/-- all lengths in it together -/
def cntDeed (x : Deed) : Nat := cntPlan x.plan
/-- ints are int64, lengths are what a machine holds -/
def wfDeed (x : Deed) : Prop := Wf x.kind ∧ Wf x.run ∧ wfPlan x.plan ∧ Wf x.task ∧ Wf x.try_ ∧ Wf x.worker ∧ Wf x.draw
def numDeed (x : Deed) : Nat := 10 + numL numEdge x.plan.edges
/-- with the marks from k on -/
def mkDeed (k : Int) (x : Deed) : Deed := ⟨k, k + 1, ⟨k + 1 + 1, k + 1 + 1 + 1, k + 1 + 1 + 1 + 1, k + 1 + 1 + 1 + 1 + 1, mkL mkEdge numEdge (k + 1 + 1 + 1 + 1 + 1 + 1) x.plan.edges⟩, k + 1 + 1 + 1 + 1 + 1 + 1 + (numL numEdge x.plan.edges : Nat), k + 1 + 1 + 1 + 1 + 1 + 1 + (numL numEdge x.plan.edges : Nat) + 1, k + 1 + 1 + 1 + 1 + 1 + 1 + (numL numEdge x.plan.edges : Nat) + 1 + 1, k + 1 + 1 + 1 + 1 + 1 + 1 + (numL numEdge x.plan.edges : Nat) + 1 + 1 + 1⟩
theorem numDeed_le (x : Deed) : numDeed x ≤ 13 * (cntDeed x + 1) := by
  have h0 := numL_le (num := numEdge) (cnt := cntEdge) (K := 13) numEdge_le x.plan.edges
  unfold numDeed cntDeed cntPlan
  omega

theorem toDeed_own (x : Deed) (s : Sl) (w : World) (hl : cntDeed x ≤ 2000000) (h : deedD.rd w w.heap.size x s) :
    Calls Try.prog 37 #[deedW x s] w (OwnPost deedD deedW x w) := by
  have hbx : ∀ W, Below w.heap.size w W → deedD.rd W W.heap.size x s := fun W hW => deedD.rd_more (deedD.rd_below h hW) hW.size
  go_enter Try.func37, Try.ntmps37
  go_wp2_with fail
  refine (toPlan_own x.plan s _ (by unfold cntDeed at hl; omega) ((hbx _ (by repeat (first | exact Below.refl _ _ | refine Below.alloc ?_ (by simp <;> omega) _))))).mono ?_
  rintro e w0 ⟨s0, F0, rfl, o0, n0, hb0⟩
  obtain ⟨q0, p0⟩ := bcell hb0
  have z0 := hb0.size
  simp only [World.size_alloc, World.size_setCell] at z0 n0
  have B0 : Below w.heap.size w w0 := bnext (by repeat (first | exact Below.refl _ _ | refine Below.alloc ?_ (by simp <;> omega) _)) hb0
  go_wp2
  refine bodyPost_ret (v := deedW x s0) ?_ rfl ?_
  · simp [deedW, results, Try.results37, go_sem, q0]
  · refine ⟨s0, F0, rfl, ?_, ?_, ?_⟩
    · repeat (first | (with_reducible exact o0) | refine Dt.ow_set _ ?_ (by intro hm; have := n0 _ hm; (try simp only [World.size_alloc, World.size_setCell] at this); omega) _)
    · intro b hb
      have := n0 b hb
      omega
    · repeat (first | (with_reducible exact B0) | (with_reducible exact Below.refl _ _) | refine Below.setCell ?_ (by simp <;> omega) _ | refine Below.alloc ?_ (by simp <;> omega) _)

theorem eqDeed_own (x y : Deed) (s r : Sl) (w : World) (hl : cntDeed x ≤ 2000000) (hl' : cntDeed y ≤ 2000000) (h : deedD.rd w w.heap.size x s) (h' : deedD.rd w w.heap.size y r) :
    Calls Try.prog 40 #[deedW x s, deedW y r] w fun e w' => e = .returned (.bool (decide (x = y))) ∧ Below w.heap.size w w' := by
  have hbx : ∀ W, Below w.heap.size w W → deedD.rd W W.heap.size x s := fun W hW => deedD.rd_more (deedD.rd_below h hW) hW.size
  have hby : ∀ W, Below w.heap.size w W → deedD.rd W W.heap.size y r := fun W hW => deedD.rd_more (deedD.rd_below h' hW) hW.size
  by_cases h0 : x.kind = y.kind
  case neg =>
    have t0 : (x.kind != y.kind) = true := by rw [bne_iff_ne]; exact h0
    have H := Lib.hid (show decide (x = y) = false by simp only [decide_eq_false_iff_not]; intro e; exact h0 (by rw [e]))
    clear h0
    go_enter Try.func40, Try.ntmps40
    go_wp2
    go_ret
    exact ⟨ret_bool (by first | exact H.out.symm | rfl), by repeat (first | exact Below.refl _ _ | refine Below.alloc ?_ (by simp <;> omega) _)⟩
  have t0 : (x.kind != y.kind) = false := by simp [h0]
  have H0 := Lib.hid h0
  clear h0
  by_cases h1 : x.run = y.run
  case neg =>
    have t1 : (x.run != y.run) = true := by rw [bne_iff_ne]; exact h1
    have H := Lib.hid (show decide (x = y) = false by simp only [decide_eq_false_iff_not]; intro e; exact h1 (by rw [e]))
    clear h1
    go_enter Try.func40, Try.ntmps40
    go_wp2
    go_ret
    exact ⟨ret_bool (by first | exact H.out.symm | rfl), by repeat (first | exact Below.refl _ _ | refine Below.alloc ?_ (by simp <;> omega) _)⟩
  have t1 : (x.run != y.run) = false := by simp [h1]
  have H1 := Lib.hid h1
  clear h1
  go_enter Try.func40, Try.ntmps40
  go_wp2_with fail
  refine (eqPlan_own x.plan y.plan s r _ (by unfold cntDeed at hl; omega) (by unfold cntDeed at hl'; omega) ((hbx _ (by repeat (first | exact Below.refl _ _ | refine Below.alloc ?_ (by simp <;> omega) _)))) ((hby _ (by repeat (first | exact Below.refl _ _ | refine Below.alloc ?_ (by simp <;> omega) _))))).mono ?_
  rintro e w2 ⟨rfl, hb2⟩
  have B2 : Below w.heap.size w w2 := bnext (by repeat (first | exact Below.refl _ _ | refine Below.alloc ?_ (by simp <;> omega) _)) hb2
  obtain ⟨q2, p2⟩ := bcell hb2
  by_cases h2 : x.plan = y.plan
  case neg =>
    have H := Lib.hid (show decide (x = y) = false by simp only [decide_eq_false_iff_not]; intro e; exact h2 (by rw [e]))
    rw [decide_eq_false h2]
    clear h2
    go_wp2
    go_ret
    exact ⟨ret_bool (by first | exact H.out.symm | rfl), by exact B2⟩
  rw [decide_eq_true h2]
  have H2 := Lib.hid h2
  clear h2
  by_cases h3 : x.task = y.task
  case neg =>
    have t3 : (x.task != y.task) = true := by rw [bne_iff_ne]; exact h3
    have H := Lib.hid (show decide (x = y) = false by simp only [decide_eq_false_iff_not]; intro e; exact h3 (by rw [e]))
    clear h3
    go_wp2
    go_ret
    exact ⟨ret_bool (by first | exact H.out.symm | rfl), by exact B2⟩
  have t3 : (x.task != y.task) = false := by simp [h3]
  have H3 := Lib.hid h3
  clear h3
  by_cases h4 : x.try_ = y.try_
  case neg =>
    have t4 : (x.try_ != y.try_) = true := by rw [bne_iff_ne]; exact h4
    have H := Lib.hid (show decide (x = y) = false by simp only [decide_eq_false_iff_not]; intro e; exact h4 (by rw [e]))
    clear h4
    go_wp2
    go_ret
    exact ⟨ret_bool (by first | exact H.out.symm | rfl), by exact B2⟩
  have t4 : (x.try_ != y.try_) = false := by simp [h4]
  have H4 := Lib.hid h4
  clear h4
  by_cases h5 : x.worker = y.worker
  case neg =>
    have t5 : (x.worker != y.worker) = true := by rw [bne_iff_ne]; exact h5
    have H := Lib.hid (show decide (x = y) = false by simp only [decide_eq_false_iff_not]; intro e; exact h5 (by rw [e]))
    clear h5
    go_wp2
    go_ret
    exact ⟨ret_bool (by first | exact H.out.symm | rfl), by exact B2⟩
  have t5 : (x.worker != y.worker) = false := by simp [h5]
  have H5 := Lib.hid h5
  clear h5
  by_cases h6 : x.draw = y.draw
  case neg =>
    have t6 : (x.draw != y.draw) = true := by rw [bne_iff_ne]; exact h6
    have H := Lib.hid (show decide (x = y) = false by simp only [decide_eq_false_iff_not]; intro e; exact h6 (by rw [e]))
    clear h6
    go_wp2
    go_ret
    exact ⟨ret_bool (by first | exact H.out.symm | rfl), by exact B2⟩
  have t6 : (x.draw != y.draw) = false := by simp [h6]
  have H6 := Lib.hid h6
  clear h6
  have H := Lib.hid (show decide (x = y) = true by
    simp only [decide_eq_true_eq]
    have hh := And.intro H0.out (And.intro H1.out (And.intro H2.out (And.intro H3.out (And.intro H4.out (And.intro H5.out H6.out)))))
    obtain ⟨e0, e1, e2, e3, e4, e5, e6⟩ := hh
    cases x
    cases y
    simp only at e0 e1 e2 e3 e4 e5 e6
    subst e0 e1 e2 e3 e4 e5 e6
    rfl)
  go_wp2
  go_ret
  exact ⟨ret_bool (by first | exact H.out.symm | rfl), by exact B2⟩

theorem szDeed_own (x : Deed) (s : Sl) (left : Int) (w : World) (h0 : 0 ≤ left) (h1 : left ≤ 2000000) (hw : wfDeed x) (h : deedD.rd w w.heap.size x s) :
    Calls Try.prog 34 #[deedW x s, .int .i64 left] w (SzPost left (cntDeed x) w) := by
  have hbx : ∀ W, Below w.heap.size w W → deedD.rd W W.heap.size x s := fun W hW => deedD.rd_more (deedD.rd_below h hW) hW.size
  go_enter Try.func34, Try.ntmps34
  go_wp2_with fail
  refine (szPlan_own x.plan s left _ (by omega) (by omega) hw.2.2.1 ((hbx _ (by repeat (first | exact Below.refl _ _ | refine Below.alloc ?_ (by simp <;> omega) _))))).mono ?_
  rintro e w0 ⟨r0, rfl, hr0, hb0⟩
  have B0 : Below w.heap.size w w0 := bnext (by repeat (first | exact Below.refl _ _ | refine Below.alloc ?_ (by simp <;> omega) _)) hb0
  obtain ⟨q0, p0⟩ := bcell hb0
  rcases hr0 with rfl | ⟨y0, z0⟩
  · go_wp2
    go_ret
    exact ⟨-1, rfl, .inl rfl, B0⟩
  go_wp2
  go_ret
  exact ⟨_, rfl, .inr ⟨by omega, by unfold cntDeed; omega⟩, B0⟩

theorem RdL.deed {w : World} {B : Nat} {A : Option Addr} {n c : Nat} {l : List (Deed)} (h : RdL deedD w B (.slice A n c) l) {k : Nat} (hk : k < l.length) :
    ∃ b o, ∃ s : Sl, A = some ⟨b, o, none⟩ ∧ b < B ∧ deedD.rd w B l[k] s ∧ w.cell? ⟨b, o + k * 11, none⟩ = some (.int .i64 l[k].kind) ∧ w.cell? ⟨b, o + k * 11 + 1, none⟩ = some (.int .i64 l[k].run) ∧ w.cell? ⟨b, o + k * 11 + 2, none⟩ = some (.int .i64 l[k].plan.prio) ∧ w.cell? ⟨b, o + k * 11 + 3, none⟩ = some (.int .i64 l[k].plan.most) ∧ w.cell? ⟨b, o + k * 11 + 4, none⟩ = some (.int .i64 l[k].plan.wait) ∧ w.cell? ⟨b, o + k * 11 + 5, none⟩ = some (.int .i64 l[k].plan.tasks) ∧ w.cell? ⟨b, o + k * 11 + 6, none⟩ = some (.slice s.a s.n s.c) ∧ w.cell? ⟨b, o + k * 11 + 7, none⟩ = some (.int .i64 l[k].task) ∧ w.cell? ⟨b, o + k * 11 + 8, none⟩ = some (.int .i64 l[k].try_) ∧ w.cell? ⟨b, o + k * 11 + 9, none⟩ = some (.int .i64 l[k].worker) ∧ w.cell? ⟨b, o + k * 11 + 10, none⟩ = some (.int .i64 l[k].draw) := by
  obtain ⟨b, o, s, rfl, hb, hc, hr⟩ := h.at_ k hk
  exact ⟨b, o, s, rfl, hb, hr, hc 0 _ rfl, hc 1 _ rfl, hc 2 _ rfl, hc 3 _ rfl, hc 4 _ rfl, hc 5 _ rfl, hc 6 _ rfl, hc 7 _ rfl, hc 8 _ rfl, hc 9 _ rfl, hc 10 _ rfl⟩
theorem Ow.c_deed {E : TypeId} {w : World} {base g n cap : Nat} {l : List ((Deed) × Sl)} (h : Ow deedD.enc E w base (.slice (some ⟨g, 0, none⟩) n cap) l) {k : Nat} (hk : k < l.length) :
    w.cell? ⟨g, k * 11, none⟩ = some (.int .i64 l[k].1.kind) ∧ w.cell? ⟨g, k * 11 + 1, none⟩ = some (.int .i64 l[k].1.run) ∧ w.cell? ⟨g, k * 11 + 2, none⟩ = some (.int .i64 l[k].1.plan.prio) ∧ w.cell? ⟨g, k * 11 + 3, none⟩ = some (.int .i64 l[k].1.plan.most) ∧ w.cell? ⟨g, k * 11 + 4, none⟩ = some (.int .i64 l[k].1.plan.wait) ∧ w.cell? ⟨g, k * 11 + 5, none⟩ = some (.int .i64 l[k].1.plan.tasks) ∧ w.cell? ⟨g, k * 11 + 6, none⟩ = some (.slice l[k].2.a l[k].2.n l[k].2.c) ∧ w.cell? ⟨g, k * 11 + 7, none⟩ = some (.int .i64 l[k].1.task) ∧ w.cell? ⟨g, k * 11 + 8, none⟩ = some (.int .i64 l[k].1.try_) ∧ w.cell? ⟨g, k * 11 + 9, none⟩ = some (.int .i64 l[k].1.worker) ∧ w.cell? ⟨g, k * 11 + 10, none⟩ = some (.int .i64 l[k].1.draw) := by
  rcases h.form with ⟨h1, _⟩ | ⟨g', cap', hv, _, _, _, _, _, hc⟩
  · simp at h1
  · simp only [Value.slice.injEq, Option.some.injEq, Addr.mk.injEq, and_true] at hv
    obtain ⟨rfl, _, _⟩ := hv
    exact ⟨hc k hk 0 _ rfl, hc k hk 1 _ rfl, hc k hk 2 _ rfl, hc k hk 3 _ rfl, hc k hk 4 _ rfl, hc k hk 5 _ rfl, hc k hk 6 _ rfl, hc k hk 7 _ rfl, hc k hk 8 _ rfl, hc k hk 9 _ rfl, hc k hk 10 _ rfl⟩
theorem Foc.deed {w : World} {b o n c j : Nat} {rs : List ((Deed) × Sl)} {G1 Fx G2 : List Nat} {x : Deed} {s : Sl} (h : Foc deedD w b o n c rs j G1 Fx G2 x s) :
    w.cell? ⟨b, o + j * 11, none⟩ = some (.int .i64 x.kind) ∧ w.cell? ⟨b, o + j * 11 + 1, none⟩ = some (.int .i64 x.run) ∧ w.cell? ⟨b, o + j * 11 + 2, none⟩ = some (.int .i64 x.plan.prio) ∧ w.cell? ⟨b, o + j * 11 + 3, none⟩ = some (.int .i64 x.plan.most) ∧ w.cell? ⟨b, o + j * 11 + 4, none⟩ = some (.int .i64 x.plan.wait) ∧ w.cell? ⟨b, o + j * 11 + 5, none⟩ = some (.int .i64 x.plan.tasks) ∧ w.cell? ⟨b, o + j * 11 + 6, none⟩ = some (.slice s.a s.n s.c) ∧ w.cell? ⟨b, o + j * 11 + 7, none⟩ = some (.int .i64 x.task) ∧ w.cell? ⟨b, o + j * 11 + 8, none⟩ = some (.int .i64 x.try_) ∧ w.cell? ⟨b, o + j * 11 + 9, none⟩ = some (.int .i64 x.worker) ∧ w.cell? ⟨b, o + j * 11 + 10, none⟩ = some (.int .i64 x.draw) := ⟨h.cells 0 _ rfl, h.cells 1 _ rfl, h.cells 2 _ rfl, h.cells 3 _ rfl, h.cells 4 _ rfl, h.cells 5 _ rfl, h.cells 6 _ rfl, h.cells 7 _ rfl, h.cells 8 _ rfl, h.cells 9 _ rfl, h.cells 10 _ rfl⟩

theorem deed_infoD : (Try.prog.info? 74).map (fun i => (i.zero, i.size, i.bytes)) = some (some (.agg #[.int .i64 0, .int .i64 0, .int .i64 0, .int .i64 0, .int .i64 0, .int .i64 0, .slice none 0 0, .int .i64 0, .int .i64 0, .int .i64 0, .int .i64 0]), 11, 104) := by kernel_rfl

end Go.Proofs.Ytjobmbjadpldfaa
