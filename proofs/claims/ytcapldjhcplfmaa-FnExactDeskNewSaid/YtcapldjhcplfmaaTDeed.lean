/-
  Data of the type Deed: how it lies in memory, and the walks of the laws' helpers on it. Written by program (deep.py).
-/
import Derived.Test.YtcapldjhcplfmaaTPlan
namespace Go.Proofs.Ytcapldjhcplfmaa
open Go.RowKit
set_option maxRecDepth 100000
set_option maxHeartbeats 1000000
set_option linter.unusedVariables false
set_option linter.unusedSimpArgs false

structure Deed where
  kind : Int
  run : Int
  plan : Plan
  task : Int
  try_ : Int
  worker : Int
  draw : Int
deriving DecidableEq, Inhabited

@[go_sem] abbrev deedW (x : Deed) (s : Sl) : Value := .agg #[.int .i64 x.kind, .int .i64 x.run, .int .i64 x.plan.prio, .int .i64 x.plan.most, .int .i64 x.plan.wait, .int .i64 x.plan.tasks, .slice s.a s.n s.c, .int .i64 x.task, .int .i64 x.try_, .int .i64 x.worker, .int .i64 x.draw]
abbrev deedD : Dt Deed := Dt.via planD (·.plan) (fun q => [.int .i64 q.1.kind, .int .i64 q.1.run, .int .i64 q.1.plan.prio, .int .i64 q.1.plan.most, .int .i64 q.1.plan.wait, .int .i64 q.1.plan.tasks, .slice q.2.a q.2.n q.2.c, .int .i64 q.1.task, .int .i64 q.1.try_, .int .i64 q.1.worker, .int .i64 q.1.draw]) 11 (fun _ => rfl) (fun q u hu => by simp at hu; rcases hu with rfl | rfl | rfl | rfl | rfl | rfl | rfl | rfl | rfl | rfl | rfl <;> rfl)
/-- all lengths in it together -/
def cntDeed (x : Deed) : Nat := cntPlan x.plan
/-- ints are int64, lengths are what a machine holds -/
def wfDeed (x : Deed) : Prop := Wf x.kind ∧ Wf x.run ∧ wfPlan x.plan ∧ Wf x.task ∧ Wf x.try_ ∧ Wf x.worker ∧ Wf x.draw
def numDeed (x : Deed) : Nat := 10 + numL numEdge x.plan.edges
/-- with the marks from k on -/
def mkDeed (k : Int) (x : Deed) : Deed := ⟨k, k + 1, ⟨k + 1 + 1, k + 1 + 1 + 1, k + 1 + 1 + 1 + 1, k + 1 + 1 + 1 + 1 + 1, mkL mkEdge numEdge (k + 1 + 1 + 1 + 1 + 1 + 1) x.plan.edges⟩, k + 1 + 1 + 1 + 1 + 1 + 1 + (numL numEdge x.plan.edges : Nat), k + 1 + 1 + 1 + 1 + 1 + 1 + (numL numEdge x.plan.edges : Nat) + 1, k + 1 + 1 + 1 + 1 + 1 + 1 + (numL numEdge x.plan.edges : Nat) + 1 + 1, k + 1 + 1 + 1 + 1 + 1 + 1 + (numL numEdge x.plan.edges : Nat) + 1 + 1 + 1⟩
theorem numDeed_le (x : Deed) : numDeed x ≤ 13 * (cntDeed x + 1) := by
  have h0 := numL_le (num := numEdge) (cnt := cntEdge) (K := 13) numEdge_le x.plan.edges
  unfold numDeed cntDeed cntPlan
  omega

theorem toDeed_own (x : Deed) (s : Sl) (w : World) (hl : cntDeed x ≤ 2000000) (h : deedD.rd w w.heap.size x s) :
    Calls Try.prog 88 #[deedW x s] w (OwnPost deedD deedW x w) := by
  have hbx : ∀ W, Below w.heap.size w W → deedD.rd W W.heap.size x s := fun W hW => deedD.rd_more (deedD.rd_below h hW) hW.size
  go_enter Try.func88, Try.ntmps88
  go_wp2_with fail
  refine (toPlan_own x.plan s _ (by unfold cntDeed at hl; omega) ((hbx _ (by repeat (first | exact Below.refl _ _ | refine Below.alloc ?_ (by simp <;> omega) _))))).mono ?_
  rintro e w0 ⟨s0, F0, rfl, o0, n0, hb0⟩
  obtain ⟨q0, p0⟩ := bcell hb0
  have z0 := hb0.size
  simp only [World.size_alloc, World.size_setCell] at z0 n0
  have B0 : Below w.heap.size w w0 := bnext (by repeat (first | exact Below.refl _ _ | refine Below.alloc ?_ (by simp <;> omega) _)) hb0
  go_wp2
  refine bodyPost_ret (v := deedW x s0) ?_ rfl ?_
  · simp [deedW, results, Try.results88, go_sem, q0]
  · refine ⟨s0, F0, rfl, ?_, ?_, ?_⟩
    · repeat (first | (with_reducible exact o0) | refine Dt.ow_set _ ?_ (by intro hm; have := n0 _ hm; (try simp only [World.size_alloc, World.size_setCell] at this); omega) _)
    · intro b hb
      have := n0 b hb
      omega
    · repeat (first | (with_reducible exact B0) | (with_reducible exact Below.refl _ _) | refine Below.setCell ?_ (by simp <;> omega) _ | refine Below.alloc ?_ (by simp <;> omega) _)

theorem eqDeed_own (x y : Deed) (s r : Sl) (w : World) (hl : cntDeed x ≤ 2000000) (hl' : cntDeed y ≤ 2000000) (h : deedD.rd w w.heap.size x s) (h' : deedD.rd w w.heap.size y r) :
    Calls Try.prog 91 #[deedW x s, deedW y r] w fun e w' => e = .returned (.bool (decide (x = y))) ∧ Below w.heap.size w w' := by
  have hbx : ∀ W, Below w.heap.size w W → deedD.rd W W.heap.size x s := fun W hW => deedD.rd_more (deedD.rd_below h hW) hW.size
  have hby : ∀ W, Below w.heap.size w W → deedD.rd W W.heap.size y r := fun W hW => deedD.rd_more (deedD.rd_below h' hW) hW.size
  by_cases h0 : x.kind = y.kind
  case neg =>
    have t0 : (x.kind != y.kind) = true := by rw [bne_iff_ne]; exact h0
    have H := Lib.hid (show decide (x = y) = false by simp only [decide_eq_false_iff_not]; intro e; exact h0 (by rw [e]))
    clear h0
    go_enter Try.func91, Try.ntmps91
    go_wp2
    go_ret
    exact ⟨ret_bool (by first | exact H.out.symm | rfl), by repeat (first | exact Below.refl _ _ | refine Below.alloc ?_ (by simp <;> omega) _)⟩
  have t0 : (x.kind != y.kind) = false := by simp [h0]
  have H0 := Lib.hid h0
  clear h0
  by_cases h1 : x.run = y.run
  case neg =>
    have t1 : (x.run != y.run) = true := by rw [bne_iff_ne]; exact h1
    have H := Lib.hid (show decide (x = y) = false by simp only [decide_eq_false_iff_not]; intro e; exact h1 (by rw [e]))
    clear h1
    go_enter Try.func91, Try.ntmps91
    go_wp2
    go_ret
    exact ⟨ret_bool (by first | exact H.out.symm | rfl), by repeat (first | exact Below.refl _ _ | refine Below.alloc ?_ (by simp <;> omega) _)⟩
  have t1 : (x.run != y.run) = false := by simp [h1]
  have H1 := Lib.hid h1
  clear h1
  go_enter Try.func91, Try.ntmps91
  go_wp2_with fail
  refine (eqPlan_own x.plan y.plan s r _ (by unfold cntDeed at hl; omega) (by unfold cntDeed at hl'; omega) ((hbx _ (by repeat (first | exact Below.refl _ _ | refine Below.alloc ?_ (by simp <;> omega) _)))) ((hby _ (by repeat (first | exact Below.refl _ _ | refine Below.alloc ?_ (by simp <;> omega) _))))).mono ?_
  rintro e w2 ⟨rfl, hb2⟩
  have B2 : Below w.heap.size w w2 := bnext (by repeat (first | exact Below.refl _ _ | refine Below.alloc ?_ (by simp <;> omega) _)) hb2
  obtain ⟨q2, p2⟩ := bcell hb2
  by_cases h2 : x.plan = y.plan
  case neg =>
    have H := Lib.hid (show decide (x = y) = false by simp only [decide_eq_false_iff_not]; intro e; exact h2 (by rw [e]))
    rw [decide_eq_false h2]
    clear h2
    go_wp2
    go_ret
    exact ⟨ret_bool (by first | exact H.out.symm | rfl), by exact B2⟩
  rw [decide_eq_true h2]
  have H2 := Lib.hid h2
  clear h2
  by_cases h3 : x.task = y.task
  case neg =>
    have t3 : (x.task != y.task) = true := by rw [bne_iff_ne]; exact h3
    have H := Lib.hid (show decide (x = y) = false by simp only [decide_eq_false_iff_not]; intro e; exact h3 (by rw [e]))
    clear h3
    go_wp2
    go_ret
    exact ⟨ret_bool (by first | exact H.out.symm | rfl), by exact B2⟩
  have t3 : (x.task != y.task) = false := by simp [h3]
  have H3 := Lib.hid h3
  clear h3
  by_cases h4 : x.try_ = y.try_
  case neg =>
    have t4 : (x.try_ != y.try_) = true := by rw [bne_iff_ne]; exact h4
    have H := Lib.hid (show decide (x = y) = false by simp only [decide_eq_false_iff_not]; intro e; exact h4 (by rw [e]))
    clear h4
    go_wp2
    go_ret
    exact ⟨ret_bool (by first | exact H.out.symm | rfl), by exact B2⟩
  have t4 : (x.try_ != y.try_) = false := by simp [h4]
  have H4 := Lib.hid h4
  clear h4
  by_cases h5 : x.worker = y.worker
  case neg =>
    have t5 : (x.worker != y.worker) = true := by rw [bne_iff_ne]; exact h5
    have H := Lib.hid (show decide (x = y) = false by simp only [decide_eq_false_iff_not]; intro e; exact h5 (by rw [e]))
    clear h5
    go_wp2
    go_ret
    exact ⟨ret_bool (by first | exact H.out.symm | rfl), by exact B2⟩
  have t5 : (x.worker != y.worker) = false := by simp [h5]
  have H5 := Lib.hid h5
  clear h5
  by_cases h6 : x.draw = y.draw
  case neg =>
    have t6 : (x.draw != y.draw) = true := by rw [bne_iff_ne]; exact h6
    have H := Lib.hid (show decide (x = y) = false by simp only [decide_eq_false_iff_not]; intro e; exact h6 (by rw [e]))
    clear h6
    go_wp2
    go_ret
    exact ⟨ret_bool (by first | exact H.out.symm | rfl), by exact B2⟩
  have t6 : (x.draw != y.draw) = false := by simp [h6]
  have H6 := Lib.hid h6
  clear h6
  have H := Lib.hid (show decide (x = y) = true by
    simp only [decide_eq_true_eq]
    have hh := And.intro H0.out (And.intro H1.out (And.intro H2.out (And.intro H3.out (And.intro H4.out (And.intro H5.out H6.out)))))
    obtain ⟨e0, e1, e2, e3, e4, e5, e6⟩ := hh
    cases x
    cases y
    simp only at e0 e1 e2 e3 e4 e5 e6
    subst e0 e1 e2 e3 e4 e5 e6
    rfl)
  go_wp2
  go_ret
  exact ⟨ret_bool (by first | exact H.out.symm | rfl), by exact B2⟩

theorem szDeed_own (x : Deed) (s : Sl) (left : Int) (w : World) (h0 : 0 ≤ left) (h1 : left ≤ 2000000) (hw : wfDeed x) (h : deedD.rd w w.heap.size x s) :
    Calls Try.prog 86 #[deedW x s, .int .i64 left] w (SzPost left (cntDeed x) w) := by
  have hbx : ∀ W, Below w.heap.size w W → deedD.rd W W.heap.size x s := fun W hW => deedD.rd_more (deedD.rd_below h hW) hW.size
  go_enter Try.func86, Try.ntmps86
  go_wp2_with fail
  refine (szPlan_own x.plan s left _ (by omega) (by omega) hw.2.2.1 ((hbx _ (by repeat (first | exact Below.refl _ _ | refine Below.alloc ?_ (by simp <;> omega) _))))).mono ?_
  rintro e w0 ⟨r0, rfl, hr0, hb0⟩
  have B0 : Below w.heap.size w w0 := bnext (by repeat (first | exact Below.refl _ _ | refine Below.alloc ?_ (by simp <;> omega) _)) hb0
  obtain ⟨q0, p0⟩ := bcell hb0
  rcases hr0 with rfl | ⟨y0, z0⟩
  · go_wp2
    go_ret
    exact ⟨-1, rfl, .inl rfl, B0⟩
  go_wp2
  go_ret
  exact ⟨_, rfl, .inr ⟨by omega, by unfold cntDeed; omega⟩, B0⟩

theorem RdL.deed {w : World} {B : Nat} {A : Option Addr} {n c : Nat} {l : List (Deed)} (h : RdL deedD w B (.slice A n c) l) {k : Nat} (hk : k < l.length) :
    ∃ b o, ∃ s : Sl, A = some ⟨b, o, none⟩ ∧ b < B ∧ deedD.rd w B l[k] s ∧ w.cell? ⟨b, o + k * 11, none⟩ = some (.int .i64 l[k].kind) ∧ w.cell? ⟨b, o + k * 11 + 1, none⟩ = some (.int .i64 l[k].run) ∧ w.cell? ⟨b, o + k * 11 + 2, none⟩ = some (.int .i64 l[k].plan.prio) ∧ w.cell? ⟨b, o + k * 11 + 3, none⟩ = some (.int .i64 l[k].plan.most) ∧ w.cell? ⟨b, o + k * 11 + 4, none⟩ = some (.int .i64 l[k].plan.wait) ∧ w.cell? ⟨b, o + k * 11 + 5, none⟩ = some (.int .i64 l[k].plan.tasks) ∧ w.cell? ⟨b, o + k * 11 + 6, none⟩ = some (.slice s.a s.n s.c) ∧ w.cell? ⟨b, o + k * 11 + 7, none⟩ = some (.int .i64 l[k].task) ∧ w.cell? ⟨b, o + k * 11 + 8, none⟩ = some (.int .i64 l[k].try_) ∧ w.cell? ⟨b, o + k * 11 + 9, none⟩ = some (.int .i64 l[k].worker) ∧ w.cell? ⟨b, o + k * 11 + 10, none⟩ = some (.int .i64 l[k].draw) := by
  obtain ⟨b, o, s, rfl, hb, hc, hr⟩ := h.at_ k hk
  exact ⟨b, o, s, rfl, hb, hr, hc 0 _ rfl, hc 1 _ rfl, hc 2 _ rfl, hc 3 _ rfl, hc 4 _ rfl, hc 5 _ rfl, hc 6 _ rfl, hc 7 _ rfl, hc 8 _ rfl, hc 9 _ rfl, hc 10 _ rfl⟩
theorem Ow.c_deed {E : TypeId} {w : World} {base g n cap : Nat} {l : List ((Deed) × Sl)} (h : Ow deedD.enc E w base (.slice (some ⟨g, 0, none⟩) n cap) l) {k : Nat} (hk : k < l.length) :
    w.cell? ⟨g, k * 11, none⟩ = some (.int .i64 l[k].1.kind) ∧ w.cell? ⟨g, k * 11 + 1, none⟩ = some (.int .i64 l[k].1.run) ∧ w.cell? ⟨g, k * 11 + 2, none⟩ = some (.int .i64 l[k].1.plan.prio) ∧ w.cell? ⟨g, k * 11 + 3, none⟩ = some (.int .i64 l[k].1.plan.most) ∧ w.cell? ⟨g, k * 11 + 4, none⟩ = some (.int .i64 l[k].1.plan.wait) ∧ w.cell? ⟨g, k * 11 + 5, none⟩ = some (.int .i64 l[k].1.plan.tasks) ∧ w.cell? ⟨g, k * 11 + 6, none⟩ = some (.slice l[k].2.a l[k].2.n l[k].2.c) ∧ w.cell? ⟨g, k * 11 + 7, none⟩ = some (.int .i64 l[k].1.task) ∧ w.cell? ⟨g, k * 11 + 8, none⟩ = some (.int .i64 l[k].1.try_) ∧ w.cell? ⟨g, k * 11 + 9, none⟩ = some (.int .i64 l[k].1.worker) ∧ w.cell? ⟨g, k * 11 + 10, none⟩ = some (.int .i64 l[k].1.draw) := by
  rcases h.form with ⟨h1, _⟩ | ⟨g', cap', hv, _, _, _, _, _, hc⟩
  · simp at h1
  · simp only [Value.slice.injEq, Option.some.injEq, Addr.mk.injEq, and_true] at hv
    obtain ⟨rfl, _, _⟩ := hv
    exact ⟨hc k hk 0 _ rfl, hc k hk 1 _ rfl, hc k hk 2 _ rfl, hc k hk 3 _ rfl, hc k hk 4 _ rfl, hc k hk 5 _ rfl, hc k hk 6 _ rfl, hc k hk 7 _ rfl, hc k hk 8 _ rfl, hc k hk 9 _ rfl, hc k hk 10 _ rfl⟩
theorem Foc.deed {w : World} {b o n c j : Nat} {rs : List ((Deed) × Sl)} {G1 Fx G2 : List Nat} {x : Deed} {s : Sl} (h : Foc deedD w b o n c rs j G1 Fx G2 x s) :
    w.cell? ⟨b, o + j * 11, none⟩ = some (.int .i64 x.kind) ∧ w.cell? ⟨b, o + j * 11 + 1, none⟩ = some (.int .i64 x.run) ∧ w.cell? ⟨b, o + j * 11 + 2, none⟩ = some (.int .i64 x.plan.prio) ∧ w.cell? ⟨b, o + j * 11 + 3, none⟩ = some (.int .i64 x.plan.most) ∧ w.cell? ⟨b, o + j * 11 + 4, none⟩ = some (.int .i64 x.plan.wait) ∧ w.cell? ⟨b, o + j * 11 + 5, none⟩ = some (.int .i64 x.plan.tasks) ∧ w.cell? ⟨b, o + j * 11 + 6, none⟩ = some (.slice s.a s.n s.c) ∧ w.cell? ⟨b, o + j * 11 + 7, none⟩ = some (.int .i64 x.task) ∧ w.cell? ⟨b, o + j * 11 + 8, none⟩ = some (.int .i64 x.try_) ∧ w.cell? ⟨b, o + j * 11 + 9, none⟩ = some (.int .i64 x.worker) ∧ w.cell? ⟨b, o + j * 11 + 10, none⟩ = some (.int .i64 x.draw) := ⟨h.cells 0 _ rfl, h.cells 1 _ rfl, h.cells 2 _ rfl, h.cells 3 _ rfl, h.cells 4 _ rfl, h.cells 5 _ rfl, h.cells 6 _ rfl, h.cells 7 _ rfl, h.cells 8 _ rfl, h.cells 9 _ rfl, h.cells 10 _ rfl⟩

theorem szDeedS_own (l : List (Deed)) (s : Sl) (left : Int) (w : World) (h0 : 0 ≤ left) (h1 : left ≤ 2000000) (hw : wfL wfDeed l) (h : RdL deedD w w.heap.size s.v l) :
    Calls Try.prog 24 #[.slice s.a s.n s.c, .int .i64 left] w (SzPost left (cntL cntDeed l) w) := by
  obtain ⟨A, n, c⟩ := s
  obtain ⟨A', c', hv, -⟩ := h.form
  simp only [Sl.v, Value.slice.injEq] at hv
  obtain ⟨rfl, rfl, rfl⟩ := hv
  have hll := hw.1
  by_cases hlt : left < l.length
  · go_enter Try.func24, Try.ntmps24
    go_wp2
    go_ret
    exact ⟨-1, rfl, .inl rfl, Below.refl _ _⟩
  have Hw := Lib.hid hw
  clear hw
  go_enter Try.func24, Try.ntmps24
  go_wp2
  go_loopw [1, 5] (fun t i wr => ∃ k : Nat, ∃ m : Int, k ≤ l.length ∧ i = .int .i64 k ∧ t = .int .i64 m ∧ 0 ≤ m ∧ m + l.length + (((l.take k).map cntDeed).sum : Nat) ≤ left ∧ Below w.heap.size w wr) (fun _ i _ => l.length - (intOf i).toNat)
  case atStart => exact ⟨0, _, Nat.zero_le _, rfl, rfl, by omega, by simp <;> omega, Below.refl _ _⟩
  case round =>
    obtain ⟨k, m, hk, rfl, rfl, m0, m1, hb⟩ := hrel
    by_cases hlt : k < l.length
    · obtain ⟨b, o, s, rfl, hbb, hr, c0, c1, c2, c3, c4, c5, c6, c7, c8, c9, c10⟩ := (h.below hb).deed hlt
      have hx : ∀ W, Below wr.heap.size wr W → deedD.rd W W.heap.size l[k] s := fun W hW => deedD.rd_more (deedD.rd_below (deedD.rd_more hr hb.size) hW) hW.size
      have hwk : wfDeed l[k] := Hw.out.2 _ (List.getElem_mem hlt)
      have M1 := Lib.hid m1
      have m2 : m ≤ 2000000 := by omega
      clear m1
      go_wp2_with fail
      refine (szDeed_own l[k] s m _ m0 m2 hwk (hx _ (by first | exact Below.refl _ _ | exact (Below.refl _ _).drew))).mono ?_
      rintro e w1 ⟨r, rfl, hr, hb1⟩
      rcases hr with rfl | ⟨r0, r1⟩
      · go_wp2
        go_ret
        exact ⟨-1, rfl, .inl rfl, bnext hb hb1⟩
      · go_wp2
        refine ⟨⟨k + 1, r, by omega, by go_num, rfl, r0, ?_, bnext hb hb1⟩, by simp [intOf]; omega⟩
        have M2 := M1.out
        have r2 : r + (cntDeed l[k] : Nat) ≤ m := r1
        rw [sum_take_succ _ _ _ hlt]
        push_cast
        omega
    · go_wp2
      go_ret
      refine ⟨_, rfl, .inr ⟨by omega, ?_⟩, hb⟩
      rw [List.take_of_length_le (by omega)] at m1
      unfold cntL
      push_cast
      omega

theorem eqDeedS_own (l l' : List (Deed)) (s s' : Sl) (w : World) (hl : cntL cntDeed l ≤ 2000000) (hl' : cntL cntDeed l' ≤ 2000000) (h : RdL deedD w w.heap.size s.v l) (h' : RdL deedD w w.heap.size s'.v l') :
    Calls Try.prog 29 #[.slice s.a s.n s.c, .slice s'.a s'.n s'.c] w fun e w' => e = .returned (.bool (decide (l = l'))) ∧ Below w.heap.size w w' := by
  obtain ⟨A, n, c⟩ := s
  obtain ⟨A0, c0, hv, -⟩ := h.form
  simp only [Sl.v, Value.slice.injEq] at hv
  obtain ⟨rfl, rfl, rfl⟩ := hv
  obtain ⟨A', n', c'⟩ := s'
  obtain ⟨A0, c0, hv, -⟩ := h'.form
  simp only [Sl.v, Value.slice.injEq] at hv
  obtain ⟨rfl, rfl, rfl⟩ := hv
  have hll : l.length ≤ 2000000 := Nat.le_trans (cntL_len _ _) hl
  have hll' : l'.length ≤ 2000000 := Nat.le_trans (cntL_len _ _) hl'
  have hcc : ∀ k (hk : k < l.length), cntDeed l[k] ≤ 2000000 := fun k hk => by have := cntL_mem (cnt := cntDeed) (List.getElem_mem hk); omega
  have hcc' : ∀ k (hk : k < l'.length), cntDeed l'[k] ≤ 2000000 := fun k hk => by have := cntL_mem (cnt := cntDeed) (List.getElem_mem hk); omega
  clear hl hl'
  by_cases hne : l.length = l'.length
  · have hb0 : ((l.length : Int) != (l'.length : Int)) = false := by simp [hne]
    have Hne := Lib.hid hne
    clear hne
    go_enter Try.func29, Try.ntmps29
    go_wp2
    go_loopw [5] (fun i wr => ∃ k : Nat, k ≤ l.length ∧ i = .int .i64 k ∧ Hid (l.take k = l'.take k) ∧ Below w.heap.size w wr) (fun i _ => l.length - (intOf i).toNat)
    case atStart => exact ⟨0, Nat.zero_le _, rfl, rfl, Below.refl _ _⟩
    case round =>
      obtain ⟨k, hk, rfl, heq, hb⟩ := hrel
      by_cases hlt : k < l.length
      · have hlt' : k < l'.length := by rw [← Hne.out]; exact hlt
        obtain ⟨b, o, s, rfl, hbb, hr, c0, c1, c2, c3, c4, c5, c6, c7, c8, c9, c10⟩ := (h.below hb).deed hlt
        obtain ⟨b', o', s', rfl, hbb', hr', d0, d1, d2, d3, d4, d5, d6, d7, d8, d9, d10⟩ := (h'.below hb).deed hlt'
        have hx : ∀ W, Below wr.heap.size wr W → deedD.rd W W.heap.size l[k] s := fun W hW => deedD.rd_more (deedD.rd_below (deedD.rd_more hr hb.size) hW) hW.size
        have hx' : ∀ W, Below wr.heap.size wr W → deedD.rd W W.heap.size l'[k] s' := fun W hW => deedD.rd_more (deedD.rd_below (deedD.rd_more hr' hb.size) hW) hW.size
        go_wp2
        go_still_tail 8, (by kernel_rfl)
        go_wp2_with (go_at_call 91; refine (eqDeed_own l[k] l'[k] s s' _ (hcc k hlt) (hcc' k hlt') (hx _ (by first | exact Below.refl _ _ | exact (Below.refl _ _).drew)) (hx' _ (by first | exact Below.refl _ _ | exact (Below.refl _ _).drew))).mono ?_; rintro e w1 ⟨rfl, hb1⟩)
        · rename_i hd
          go_ret
          refine ⟨ret_bool ?_, (hb.drew).trans (hb1.mono hb.size)⟩
          simp only [Bool.false_eq, decide_eq_false_iff_not]
          intro e
          subst e
          simp at hd
        · rename_i hd
          refine ⟨⟨k + 1, by omega, by go_num, ?_, (hb.drew).trans (hb1.mono hb.size)⟩, by simp [intOf]; omega⟩
          show List.take (k + 1) l = List.take (k + 1) l'
          rw [take_snoc l k hlt, take_snoc l' k hlt', heq.out]
          simp at hd
          rw [hd]
      · go_wp2
        go_ret
        refine ⟨ret_bool ?_, hb⟩
        have h1 := heq.out
        rw [List.take_of_length_le (by omega), List.take_of_length_le (by rw [← Hne.out]; omega)] at h1
        simp [h1]
  · have hb0 : ((l.length : Int) != (l'.length : Int)) = true := by simp; omega
    go_enter Try.func29, Try.ntmps29
    go_wp2
    go_ret
    refine ⟨ret_bool ?_, Below.refl _ _⟩
    simp only [Bool.false_eq, decide_eq_false_iff_not]
    intro e
    exact hne (by rw [e])


theorem deed_infoD : (Try.prog.info? 132).map (fun i => (i.zero, i.size, i.bytes)) = some (some (.agg #[.int .i64 0, .int .i64 0, .int .i64 0, .int .i64 0, .int .i64 0, .int .i64 0, .slice none 0 0, .int .i64 0, .int .i64 0, .int .i64 0, .int .i64 0]), 11, 104) := by kernel_rfl

theorem toDeedS_own (l : List (Deed)) (s : Sl) (w : World) (hl : cntL cntDeed l ≤ 2000000) (h : RdL deedD w w.heap.size s.v l) :
    Calls Try.prog 26 #[.slice s.a s.n s.c] w (OwnPost (Dt.list deedD) slV l w) := by
  obtain ⟨A, n, c⟩ := s
  obtain ⟨A', c', hv, -⟩ := h.form
  simp only [Sl.v, Value.slice.injEq] at hv
  obtain ⟨rfl, rfl, rfl⟩ := hv
  have hll : l.length ≤ 2000000 := Nat.le_trans (cntL_len _ _) hl
  have hcc : ∀ k (hk : k < l.length), cntDeed l[k] ≤ 2000000 := fun k hk => by have := cntL_mem (cnt := cntDeed) (List.getElem_mem hk); omega
  clear hl
  obtain ⟨i0, hi0, hz0, hz1, hz2⟩ := info_parts deed_infoD
  have hmk : ∀ w : World, (Instr.makeSlice 35 (.int .i64 (l.length : Int)) (.int .i64 (l.length : Int))).run Try.prog w = .ok (.slice (some ⟨w.heap.size, 0, none⟩) l.length l.length) (w.alloc (.cells (madeCells #[.int .i64 0, .int .i64 0, .int .i64 0, .int .i64 0, .int .i64 0, .int .i64 0, .slice none 0 0, .int .i64 0, .int .i64 0, .int .i64 0, .int .i64 0] (l.length * 11)) 132)) := by
    intro w
    have := run_make (P := Try.prog) w 35 132 i0 _ Try.underlying35 hi0 hz0 .i64 .i64 l.length l.length (by omega) (by omega) (by rw [hz2]; omega) (by omega)
    rw [hz1] at this
    simpa [Value.cells] using this
  go_enter Try.func26, Try.ntmps26
  go_wp2
  go_loopw [4] (fun i wr => ∃ k : Nat, k ≤ l.length ∧ i = .int .i64 k ∧ Hid (∃ (rs : List ((Deed) × Sl)) (G : List Nat), rs.map (·.1) = l.take k ∧ Ow deedD.enc 132 wr w.heap.size (.slice (some ⟨w.heap.size, 0, none⟩) l.length l.length) (rs ++ List.replicate (l.length - k) (⟨0, 0, ⟨0, 0, 0, 0, []⟩, 0, 0, 0, 0⟩, ⟨none, 0, 0⟩)) ∧ Ows deedD wr G rs ∧ G.Nodup ∧ ∀ b ∈ G, w.heap.size < b) ∧ Below w.heap.size w wr) (fun i _ => l.length - (intOf i).toNat)
  case atStart => exact ⟨0, Nat.zero_le _, rfl, ⟨[], [], rfl, by rw [List.nil_append, Nat.sub_zero]; exact Ow.made deedD.enc 132 w (⟨0, 0, ⟨0, 0, 0, 0, []⟩, 0, 0, 0, 0⟩, ⟨none, 0, 0⟩) l.length (by decide) (by simp [maxLen]; omega) rfl rfl, .nil, List.nodup_nil, fun _ h => by cases h⟩, (Below.refl _ _).alloc (Nat.le_refl _) _⟩
  case round =>
    obtain ⟨k, hk, rfl, ⟨rs, G, hm, hown, hG, hGn, hGb⟩, hb⟩ := hrel
    have hrl : rs.length = k := by have := congrArg List.length hm; simpa [Nat.min_eq_left hk] using this
    by_cases hlt : k < l.length
    · obtain ⟨b, o, s, rfl, hbb, hr, c0, c1, c2, c3, c4, c5, c6, c7, c8, c9, c10⟩ := (h.below hb).deed hlt
      have hx : ∀ W, Below wr.heap.size wr W → deedD.rd W W.heap.size l[k] s := fun W hW => deedD.rd_more (deedD.rd_below (deedD.rd_more hr hb.size) hW) hW.size
      have hlen : (rs ++ List.replicate (l.length - k) ((⟨0, 0, ⟨0, 0, 0, 0, []⟩, 0, 0, 0, 0⟩, ⟨none, 0, 0⟩) : (Deed) × Sl)).length = l.length := by simp; omega
      have Hm := Lib.hid hm
      have Hrl := Lib.hid hrl
      clear hm hrl
      go_wp2_with (go_at_call 88; refine (toDeed_own l[k] s _ (hcc k hlt) (hx _ (by first | exact Below.refl _ _ | exact (Below.refl _ _).drew))).mono ?_; rintro e w1 ⟨s1, F1, rfl, o1, n1, hb1⟩; have hown1 := hown.below hb1; have hf := hown1.free; obtain ⟨d0, d1, d2, d3, d4, d5, d6, d7, d8, d9, d10⟩ := hown1.c_deed (k := k) (by rw [hlen]; exact hlt))
      have hp := Ow.put hown1 hlen k hlt (l[k], s1)
      have Hp := Bld.lay hG hGn hGb hb1 (r := (l[k], s1)) o1 n1 (Nat.lt_of_lt_of_le (hown.blk).2 (Nat.le_refl _)) hp.2
      rw [mix_snoc rs _ k l.length Hrl.out hlt] at hp
      refine ⟨⟨k + 1, by omega, by go_num, ⟨rs ++ [(l[k], s1)], G ++ F1, ?_, hp.1, Hp.1, Hp.2.1, Hp.2.2⟩, (hb.trans (hb1.mono hb.size)).grown hp.2 (Nat.le_trans hb.size hb1.size) (fun g hg => by simp at hg; omega)⟩, by simp [intOf]; omega⟩
      rw [List.map_append, Hm.out, take_snoc l k hlt]
      rfl
    · have hk' : k = l.length := by omega
      subst hk'
      rw [Nat.sub_self, List.replicate_zero, List.append_nil] at hown
      go_wp2
      go_ret
      rw [List.take_length] at hm
      have hB : Bld deedD 132 wr w.heap.size (.slice (some ⟨w.heap.size, 0, none⟩) l.length l.length) rs := ⟨G, by rw [← hrl]; exact (by rw [hrl]; exact hown), hG, hGn, fun b hb' => ⟨Nat.le_of_lt (hGb b hb'), by simp [Value.ownBlock]; have := hGb b hb'; omega⟩⟩
      obtain ⟨F, h1, h2⟩ := hB.owl hm
      exact ⟨⟨some ⟨w.heap.size, 0, none⟩, l.length, l.length⟩, F, rfl, h1, h2, hb⟩


theorem markDeedS_own (l : List (Deed)) (s : Sl) (F : List Nat) (k : Int) (w : World) (hl : cntL cntDeed l ≤ 2000000) (hk0 : 0 ≤ k) (hk1 : k ≤ 900000000) (h : OwL deedD w F s.v l) :
    Calls Try.prog 30 #[.slice s.a s.n s.c, .int .i64 k] w (MkPost (Dt.list deedD) F (mkL mkDeed numDeed k l) s (k + (numL numDeed l : Nat)) w) := by
  obtain ⟨A, n, c⟩ := s
  obtain ⟨A', c', hv, -⟩ := h.form
  simp only [Sl.v, Value.slice.injEq] at hv
  obtain ⟨rfl, rfl, rfl⟩ := hv
  have hll : l.length ≤ 2000000 := Nat.le_trans (cntL_len _ _) hl
  have hnl : ∀ j, numL numDeed (l.take j) ≤ 26000000 := fun j => by
    have h1 := numL_take_le numDeed l j
    have h2 := numL_le (num := numDeed) (cnt := cntDeed) (K := 13) numDeed_le l
    omega
  have hcc : ∀ k (hk : k < l.length), cntDeed l[k] ≤ 2000000 := fun k hk => by have := cntL_mem (cnt := cntDeed) (List.getElem_mem hk); omega
  have Hnl := Lib.hid hnl
  clear hnl hl
  go_enter Try.func30, Try.ntmps30
  go_wp2
  go_loopw [1, 5] (fun q i wr => ∃ (j : Nat) (m : Int), j ≤ l.length ∧ i = .int .i64 j ∧ q = .int .i64 m ∧ Hid (m = k + (numL numDeed (l.take j) : Nat)) ∧ OwL deedD wr F (.slice A l.length c) (mkL mkDeed numDeed k (l.take j) ++ l.drop j) ∧ Chg F w wr) (fun _ i _ => l.length - (intOf i).toNat)
  case atStart => exact ⟨0, k, Nat.zero_le _, rfl, rfl, by show k = _; simp [numL], h, Chg.refl _ _⟩
  case round =>
    obtain ⟨j, m, hj, rfl, rfl, hm, ho, hc⟩ := hrel
    have hm' := hm.out
    have hnj := Hnl.out j
    have hm0 : 0 ≤ m := by omega
    have hm1 : m ≤ 926000000 := by omega
    clear hm' hnj
    by_cases hlt : j < l.length
    · have hltI : (j : Int) < (l.length : Int) := by omega
      have hlen : (mkL mkDeed numDeed k (l.take j) ++ l.drop j).length = l.length := by simp [mkL_length]; omega
      obtain ⟨b, o, rs, s, G1, Fx, G2, rfl, hF, hrm, f0⟩ := ho.foc (j := j) (by rw [hlen]; exact hlt)
      rw [mkL_here mkDeed numDeed k l j hlt] at f0
      subst hF
      have Hrm := Lib.hid hrm
      clear hrm ho
      obtain ⟨c0, c1, c2, c3, c4, c5, c6, c7, c8, c9, c10⟩ := f0.deed
      have fr0 := f0.free
      have hce0 : cntL cntEdge l[j].plan.edges ≤ 2000000 := by
        have := hcc j hlt
        unfold cntDeed cntPlan at this
        omega
      have hne0 : numL numEdge l[j].plan.edges ≤ 26000000 := by
        have h2 := numL_le (num := numEdge) (cnt := cntEdge) (K := 13) numEdge_le l[j].plan.edges
        omega
      go_wp2_with fail
      obtain ⟨f1, g1⟩ := f0.put ⟨m, m + 1, ⟨m + 1 + 1, m + 1 + 1 + 1, m + 1 + 1 + 1 + 1, m + 1 + 1 + 1 + 1 + 1, l[j].plan.edges⟩, l[j].task, l[j].try_, l[j].worker, l[j].draw⟩ 0 [.int .i64 (m), .int .i64 (m + 1), .int .i64 (m + 1 + 1), .int .i64 (m + 1 + 1 + 1), .int .i64 (m + 1 + 1 + 1 + 1), .int .i64 (m + 1 + 1 + 1 + 1 + 1)] (by show 0 + 6 ≤ 11; omega) (fun i hi => match i, hi with | 0, _ => rfl | 1, _ => rfl | 2, _ => rfl | 3, _ => rfl | 4, _ => rfl | 5, _ => rfl | i + 6, hi => absurd hi (by simp)) (fun i hi hx => match i, hi, hx with | 0, _, hx => absurd hx (by simp) | 1, _, hx => absurd hx (by simp) | 2, _, hx => absurd hx (by simp) | 3, _, hx => absurd hx (by simp) | 4, _, hx => absurd hx (by simp) | 5, _, hx => absurd hx (by simp) | 6, _, _ => rfl | 7, _, _ => rfl | 8, _, _ => rfl | 9, _, _ => rfl | 10, _, _ => rfl | i + 11, hi, _ => absurd hi (by show ¬ (i + 11 < 11); omega)) (fun _ hh => hh)
      refine (markEdgeS_own l[j].plan.edges s Fx _ _ hce0 (by omega) (by omega) f1.here).mono ?_
      rintro e w2 ⟨rfl, o2, g2⟩
      have f2 := f1.sub (y := ⟨m, m + 1, ⟨m + 1 + 1, m + 1 + 1 + 1, m + 1 + 1 + 1 + 1, m + 1 + 1 + 1 + 1 + 1, mkL mkEdge numEdge (m + 1 + 1 + 1 + 1 + 1 + 1) l[j].plan.edges⟩, l[j].task, l[j].try_, l[j].worker, l[j].draw⟩) g2 o2 rfl
      obtain ⟨c2_0, c2_1, c2_2, c2_3, c2_4, c2_5, c2_6, c2_7, c2_8, c2_9, c2_10⟩ := f2.deed
      have fr2 := f2.free
      go_wp2
      obtain ⟨f3, g3⟩ := f2.put ⟨m, m + 1, ⟨m + 1 + 1, m + 1 + 1 + 1, m + 1 + 1 + 1 + 1, m + 1 + 1 + 1 + 1 + 1, mkL mkEdge numEdge (m + 1 + 1 + 1 + 1 + 1 + 1) l[j].plan.edges⟩, m + 1 + 1 + 1 + 1 + 1 + 1 + (numL numEdge l[j].plan.edges : Nat), m + 1 + 1 + 1 + 1 + 1 + 1 + (numL numEdge l[j].plan.edges : Nat) + 1, m + 1 + 1 + 1 + 1 + 1 + 1 + (numL numEdge l[j].plan.edges : Nat) + 1 + 1, m + 1 + 1 + 1 + 1 + 1 + 1 + (numL numEdge l[j].plan.edges : Nat) + 1 + 1 + 1⟩ 7 [.int .i64 (m + 1 + 1 + 1 + 1 + 1 + 1 + (numL numEdge l[j].plan.edges : Nat)), .int .i64 (m + 1 + 1 + 1 + 1 + 1 + 1 + (numL numEdge l[j].plan.edges : Nat) + 1), .int .i64 (m + 1 + 1 + 1 + 1 + 1 + 1 + (numL numEdge l[j].plan.edges : Nat) + 1 + 1), .int .i64 (m + 1 + 1 + 1 + 1 + 1 + 1 + (numL numEdge l[j].plan.edges : Nat) + 1 + 1 + 1)] (by show 7 + 4 ≤ 11; omega) (fun i hi => match i, hi with | 0, _ => rfl | 1, _ => rfl | 2, _ => rfl | 3, _ => rfl | i + 4, hi => absurd hi (by simp)) (fun i hi hx => match i, hi, hx with | 0, _, _ => rfl | 1, _, _ => rfl | 2, _, _ => rfl | 3, _, _ => rfl | 4, _, _ => rfl | 5, _, _ => rfl | 6, _, _ => rfl | 7, _, hx => absurd hx (by simp) | 8, _, hx => absurd hx (by simp) | 9, _, hx => absurd hx (by simp) | 10, _, hx => absurd hx (by simp) | i + 11, hi, _ => absurd hi (by show ¬ (i + 11 < 11); omega)) (fun _ hh => hh)
      have hmf := hm.out
      have hown := f3.owl Hrm.out
      have hval : ⟨m, m + 1, ⟨m + 1 + 1, m + 1 + 1 + 1, m + 1 + 1 + 1 + 1, m + 1 + 1 + 1 + 1 + 1, mkL mkEdge numEdge (m + 1 + 1 + 1 + 1 + 1 + 1) l[j].plan.edges⟩, m + 1 + 1 + 1 + 1 + 1 + 1 + (numL numEdge l[j].plan.edges : Nat), m + 1 + 1 + 1 + 1 + 1 + 1 + (numL numEdge l[j].plan.edges : Nat) + 1, m + 1 + 1 + 1 + 1 + 1 + 1 + (numL numEdge l[j].plan.edges : Nat) + 1 + 1, m + 1 + 1 + 1 + 1 + 1 + 1 + (numL numEdge l[j].plan.edges : Nat) + 1 + 1 + 1⟩ = mkDeed m l[j] := rfl
      have hset := mkL_set mkDeed numDeed k l j hlt
      rw [← hm.out] at hset
      rw [hval, hset] at hown
      have hnum : (numL numDeed (l.take (j + 1)) : Nat) = numL numDeed (l.take j) + numDeed l[j] := sum_take_succ _ _ _ hlt
      refine ⟨⟨j + 1, m + 1 + 1 + 1 + 1 + 1 + 1 + (numL numEdge l[j].plan.edges : Nat) + 1 + 1 + 1 + 1, by omega, by go_num, rfl, ?_, hown, (((hc).trans (g1.mono (fun _ hh => mem_box hh))).trans (g2.mono (fun _ hh => mem_here hh))).trans (g3.mono (fun _ hh => mem_box hh))⟩, by simp [intOf]; omega⟩
      have hun : numDeed l[j] = 10 + numL numEdge l[j].plan.edges := rfl
      show m + 1 + 1 + 1 + 1 + 1 + 1 + (numL numEdge l[j].plan.edges : Nat) + 1 + 1 + 1 + 1 = _
      rw [hnum, hun]
      push_cast
      omega
    · have hj' : j = l.length := by omega
      subst hj'
      rw [List.take_length, List.drop_length, List.append_nil] at ho
      go_wp2
      go_ret
      refine ⟨ret_int ?_, ho, hc⟩
      rw [hm.out, List.take_length]


theorem heldDeedS_own (l : List (Deed)) (s : Sl) (k : Int) (w : World) (hl : cntL cntDeed l ≤ 2000000) (hk0 : 0 ≤ k) (hk1 : k ≤ 900000000) (h : RdL deedD w w.heap.size s.v (mkL mkDeed numDeed k l)) :
    Calls Try.prog 39 #[.slice s.a s.n s.c, .int .i64 k] w fun e w' => e = .returned (.int .i64 (k + (numL numDeed l : Nat))) ∧ Below w.heap.size w w' := by
  obtain ⟨A, n, c⟩ := s
  obtain ⟨A', c', hv, -⟩ := h.form
  simp only [Sl.v, Value.slice.injEq, mkL_length] at hv
  obtain ⟨rfl, rfl, rfl⟩ := hv
  have hll : l.length ≤ 2000000 := Nat.le_trans (cntL_len _ _) hl
  have hnl : ∀ j, numL numDeed (l.take j) ≤ 26000000 := fun j => by
    have h1 := numL_take_le numDeed l j
    have h2 := numL_le (num := numDeed) (cnt := cntDeed) (K := 13) numDeed_le l
    omega
  have hcc : ∀ k (hk : k < l.length), cntDeed l[k] ≤ 2000000 := fun k hk => by have := cntL_mem (cnt := cntDeed) (List.getElem_mem hk); omega
  have hcell : ∀ (wr : World) (j : Nat) (hj : j < l.length) (m : Int), Below w.heap.size w wr → m = k + (numL numDeed (l.take j) : Nat) → ∃ b o, ∃ s : Sl, A = some ⟨b, o, none⟩ ∧ b < w.heap.size ∧ deedD.rd wr w.heap.size (mkDeed m l[j]) s ∧ wr.cell? ⟨b, o + j * 11, none⟩ = some (.int .i64 (m)) ∧ wr.cell? ⟨b, o + j * 11 + 1, none⟩ = some (.int .i64 (m + 1)) ∧ wr.cell? ⟨b, o + j * 11 + 2, none⟩ = some (.int .i64 (m + 1 + 1)) ∧ wr.cell? ⟨b, o + j * 11 + 3, none⟩ = some (.int .i64 (m + 1 + 1 + 1)) ∧ wr.cell? ⟨b, o + j * 11 + 4, none⟩ = some (.int .i64 (m + 1 + 1 + 1 + 1)) ∧ wr.cell? ⟨b, o + j * 11 + 5, none⟩ = some (.int .i64 (m + 1 + 1 + 1 + 1 + 1)) ∧ wr.cell? ⟨b, o + j * 11 + 6, none⟩ = some (.slice s.a s.n s.c) ∧ wr.cell? ⟨b, o + j * 11 + 7, none⟩ = some (.int .i64 (m + 1 + 1 + 1 + 1 + 1 + 1 + (numL numEdge l[j].plan.edges : Nat))) ∧ wr.cell? ⟨b, o + j * 11 + 8, none⟩ = some (.int .i64 (m + 1 + 1 + 1 + 1 + 1 + 1 + (numL numEdge l[j].plan.edges : Nat) + 1)) ∧ wr.cell? ⟨b, o + j * 11 + 9, none⟩ = some (.int .i64 (m + 1 + 1 + 1 + 1 + 1 + 1 + (numL numEdge l[j].plan.edges : Nat) + 1 + 1)) ∧ wr.cell? ⟨b, o + j * 11 + 10, none⟩ = some (.int .i64 (m + 1 + 1 + 1 + 1 + 1 + 1 + (numL numEdge l[j].plan.edges : Nat) + 1 + 1 + 1)) := by
    intro wr j hj m hb hm
    obtain ⟨b, o, s, h1, h2, h3, h4⟩ := (h.below hb).deed (k := j) (by rw [mkL_length]; exact hj)
    first | rw [mkL_get _ _ _ _ _ hj, ← hm] at h3 h4 | rw [mkL_get _ _ _ _ _ hj, ← hm] at h3
    exact ⟨b, o, s, h1, h2, h3, h4⟩
  have Hc := Lib.hid hcell
  have Hnl := Lib.hid hnl
  clear hcell hnl hl
  go_enter Try.func39, Try.ntmps39
  go_wp2
  go_loopw [1, 5] (fun q i wr => ∃ (j : Nat) (m : Int), j ≤ l.length ∧ i = .int .i64 j ∧ q = .int .i64 m ∧ Hid (m = k + (numL numDeed (l.take j) : Nat)) ∧ Below w.heap.size w wr) (fun _ i _ => l.length - (intOf i).toNat)
  case atStart => exact ⟨0, k, Nat.zero_le _, rfl, rfl, by show k = _; simp [numL], Below.refl _ _⟩
  case round =>
    obtain ⟨j, m, hj, rfl, rfl, hm, hb⟩ := hrel
    have hm' := hm.out
    have hnj := Hnl.out j
    have hm0 : 0 ≤ m := by omega
    have hm1 : m ≤ 926000000 := by omega
    clear hm' hnj
    by_cases hlt : j < l.length
    · have hltI : (j : Int) < (l.length : Int) := by omega
      obtain ⟨b, o, s, rfl, hbb, hrd, c0, c1, c2, c3, c4, c5, c6, c7, c8, c9, c10⟩ := Hc.out wr j hlt m hb hm.out
      have hx : ∀ W, Below wr.heap.size wr W → deedD.rd W W.heap.size (mkDeed m l[j]) s := fun W hW => deedD.rd_more (deedD.rd_below (deedD.rd_more hrd hb.size) hW) hW.size
      have hce0 : cntL cntEdge l[j].plan.edges ≤ 2000000 := by
        have := hcc j hlt
        unfold cntDeed cntPlan at this
        omega
      have hne0 : numL numEdge l[j].plan.edges ≤ 26000000 := by
        have h2 := numL_le (num := numEdge) (cnt := cntEdge) (K := 13) numEdge_le l[j].plan.edges
        omega
      go_wp2_with fail
      refine (heldEdgeS_own l[j].plan.edges s _ _ hce0 (by omega) (by omega) (hx _ (by first | exact Below.refl _ _ | exact (Below.refl _ _).drew))).mono ?_
      rintro e v0 ⟨rfl, hb0⟩
      have B0 : Below wr.heap.size wr v0 := bnext (by first | exact Below.refl _ _ | exact (Below.refl _ _).drew) hb0
      obtain ⟨q0, p0⟩ := bcell B0
      have hbr0 := Nat.lt_of_lt_of_le hbb hb.size
      go_wp2
      have hnum : (numL numDeed (l.take (j + 1)) : Nat) = numL numDeed (l.take j) + numDeed l[j] := sum_take_succ _ _ _ hlt
      refine ⟨⟨j + 1, m + 1 + 1 + 1 + 1 + 1 + 1 + (numL numEdge l[j].plan.edges : Nat) + 1 + 1 + 1 + 1, by omega, by go_num, rfl, ?_, bnext hb B0⟩, by simp [intOf]; omega⟩
      have hun : numDeed l[j] = 10 + numL numEdge l[j].plan.edges := rfl
      have hmf := hm.out
      show m + 1 + 1 + 1 + 1 + 1 + 1 + (numL numEdge l[j].plan.edges : Nat) + 1 + 1 + 1 + 1 = _
      rw [hnum, hun]
      push_cast
      omega
    · have hj' : j = l.length := by omega
      subst hj'
      go_wp2
      go_ret
      refine ⟨ret_int ?_, hb⟩
      rw [hm.out, List.take_length]

end Go.Proofs.Ytcapldjhcplfmaa
