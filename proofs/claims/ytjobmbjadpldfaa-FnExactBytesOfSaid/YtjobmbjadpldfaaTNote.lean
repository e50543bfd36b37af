/-
  Data of the type Note: how it lies in memory, and the walks of the laws' helpers on it. Written by program (deep.py).
-/
import Derived.Test.YtjobmbjadpldfaaTDeed
namespace Go.Proofs.Ytjobmbjadpldfaa
open Go.RowKit
set_option maxRecDepth 100000
set_option maxHeartbeats 1000000
set_option linter.unusedVariables false
set_option linter.unusedSimpArgs false

structure Note where
  seq : Int
  deed : Deed
deriving DecidableEq, Inhabited

@[go_sem] abbrev noteW (x : Note) (s : Sl) : Value := .agg #[.int .i64 x.seq, .int .i64 x.deed.kind, .int .i64 x.deed.run, .int .i64 x.deed.plan.prio, .int .i64 x.deed.plan.most, .int .i64 x.deed.plan.wait, .int .i64 x.deed.plan.tasks, .slice s.a s.n s.c, .int .i64 x.deed.task, .int .i64 x.deed.try_, .int .i64 x.deed.worker, .int .i64 x.deed.draw]
abbrev noteD : Dt Note := Dt.via deedD (·.deed) (fun q => [.int .i64 q.1.seq, .int .i64 q.1.deed.kind, .int .i64 q.1.deed.run, .int .i64 q.1.deed.plan.prio, .int .i64 q.1.deed.plan.most, .int .i64 q.1.deed.plan.wait, .int .i64 q.1.deed.plan.tasks, .slice q.2.a q.2.n q.2.c, .int .i64 q.1.deed.task, .int .i64 q.1.deed.try_, .int .i64 q.1.deed.worker, .int .i64 q.1.deed.draw]) 12 (fun _ => rfl) (fun q u hu => by simp at hu; rcases hu with rfl | rfl | rfl | rfl | rfl | rfl | rfl | rfl | rfl | rfl | rfl | rfl <;> rfl)
/-- all lengths in it together -/
def cntNote (x : Note) : Nat := cntDeed x.deed
/-- ints are int64, lengths are what a machine holds -/
def wfNote (x : Note) : Prop := Wf x.seq ∧ wfDeed x.deed
def numNote (x : Note) : Nat := 11 + numL numEdge x.deed.plan.edges
/-- with the marks from k on -/
def mkNote (k : Int) (x : Note) : Note := ⟨k, ⟨k + 1, k + 1 + 1, ⟨k + 1 + 1 + 1, k + 1 + 1 + 1 + 1, k + 1 + 1 + 1 + 1 + 1, k + 1 + 1 + 1 + 1 + 1 + 1, mkL mkEdge numEdge (k + 1 + 1 + 1 + 1 + 1 + 1 + 1) x.deed.plan.edges⟩, k + 1 + 1 + 1 + 1 + 1 + 1 + 1 + (numL numEdge x.deed.plan.edges : Nat), k + 1 + 1 + 1 + 1 + 1 + 1 + 1 + (numL numEdge x.deed.plan.edges : Nat) + 1, k + 1 + 1 + 1 + 1 + 1 + 1 + 1 + (numL numEdge x.deed.plan.edges : Nat) + 1 + 1, k + 1 + 1 + 1 + 1 + 1 + 1 + 1 + (numL numEdge x.deed.plan.edges : Nat) + 1 + 1 + 1⟩⟩
theorem numNote_le (x : Note) : numNote x ≤ 13 * (cntNote x + 1) := by
  have h0 := numL_le (num := numEdge) (cnt := cntEdge) (K := 13) numEdge_le x.deed.plan.edges
  unfold numNote cntNote cntDeed cntPlan
  omega

theorem toNote_own (x : Note) (s : Sl) (w : World) (hl : cntNote x ≤ 2000000) (h : noteD.rd w w.heap.size x s) :
    Calls Try.prog 20 #[noteW x s] w (OwnPost noteD noteW x w) := by
  have hbx : ∀ W, Below w.heap.size w W → noteD.rd W W.heap.size x s := fun W hW => noteD.rd_more (noteD.rd_below h hW) hW.size
  go_enter Try.func20, Try.ntmps20
  go_wp2_with fail
  refine (toDeed_own x.deed s _ (by unfold cntNote at hl; omega) ((hbx _ (by repeat (first | exact Below.refl _ _ | refine Below.alloc ?_ (by simp <;> omega) _))))).mono ?_
  rintro e w0 ⟨s0, F0, rfl, o0, n0, hb0⟩
  obtain ⟨q0, p0⟩ := bcell hb0
  have z0 := hb0.size
  simp only [World.size_alloc, World.size_setCell] at z0 n0
  have B0 : Below w.heap.size w w0 := bnext (by repeat (first | exact Below.refl _ _ | refine Below.alloc ?_ (by simp <;> omega) _)) hb0
  go_wp2
  refine bodyPost_ret (v := noteW x s0) ?_ rfl ?_
  · simp [noteW, results, Try.results20, go_sem, q0]
  · refine ⟨s0, F0, rfl, ?_, ?_, ?_⟩
    · repeat (first | (with_reducible exact o0) | refine Dt.ow_set _ ?_ (by intro hm; have := n0 _ hm; (try simp only [World.size_alloc, World.size_setCell] at this); omega) _)
    · intro b hb
      have := n0 b hb
      omega
    · repeat (first | (with_reducible exact B0) | (with_reducible exact Below.refl _ _) | refine Below.setCell ?_ (by simp <;> omega) _ | refine Below.alloc ?_ (by simp <;> omega) _)

theorem eqNote_own (x y : Note) (s r : Sl) (w : World) (hl : cntNote x ≤ 2000000) (hl' : cntNote y ≤ 2000000) (h : noteD.rd w w.heap.size x s) (h' : noteD.rd w w.heap.size y r) :
    Calls Try.prog 22 #[noteW x s, noteW y r] w fun e w' => e = .returned (.bool (decide (x = y))) ∧ Below w.heap.size w w' := by
  have hbx : ∀ W, Below w.heap.size w W → noteD.rd W W.heap.size x s := fun W hW => noteD.rd_more (noteD.rd_below h hW) hW.size
  have hby : ∀ W, Below w.heap.size w W → noteD.rd W W.heap.size y r := fun W hW => noteD.rd_more (noteD.rd_below h' hW) hW.size
  by_cases h0 : x.seq = y.seq
  case neg =>
    have t0 : (x.seq != y.seq) = true := by rw [bne_iff_ne]; exact h0
    have H := Lib.hid (show decide (x = y) = false by simp only [decide_eq_false_iff_not]; intro e; exact h0 (by rw [e]))
    clear h0
    go_enter Try.func22, Try.ntmps22
    go_wp2
    go_ret
    exact ⟨ret_bool (by first | exact H.out.symm | rfl), by repeat (first | exact Below.refl _ _ | refine Below.alloc ?_ (by simp <;> omega) _)⟩
  have t0 : (x.seq != y.seq) = false := by simp [h0]
  have H0 := Lib.hid h0
  clear h0
  go_enter Try.func22, Try.ntmps22
  go_wp2_with fail
  refine (eqDeed_own x.deed y.deed s r _ (by unfold cntNote at hl; omega) (by unfold cntNote at hl'; omega) ((hbx _ (by repeat (first | exact Below.refl _ _ | refine Below.alloc ?_ (by simp <;> omega) _)))) ((hby _ (by repeat (first | exact Below.refl _ _ | refine Below.alloc ?_ (by simp <;> omega) _))))).mono ?_
  rintro e w1 ⟨rfl, hb1⟩
  have B1 : Below w.heap.size w w1 := bnext (by repeat (first | exact Below.refl _ _ | refine Below.alloc ?_ (by simp <;> omega) _)) hb1
  obtain ⟨q1, p1⟩ := bcell hb1
  by_cases h1 : x.deed = y.deed
  case neg =>
    have H := Lib.hid (show decide (x = y) = false by simp only [decide_eq_false_iff_not]; intro e; exact h1 (by rw [e]))
    rw [decide_eq_false h1]
    clear h1
    go_wp2
    go_ret
    exact ⟨ret_bool (by first | exact H.out.symm | rfl), by exact B1⟩
  rw [decide_eq_true h1]
  have H1 := Lib.hid h1
  clear h1
  have H := Lib.hid (show decide (x = y) = true by
    simp only [decide_eq_true_eq]
    have hh := And.intro H0.out H1.out
    obtain ⟨e0, e1⟩ := hh
    cases x
    cases y
    simp only at e0 e1
    subst e0 e1
    rfl)
  go_wp2
  go_ret
  exact ⟨ret_bool (by first | exact H.out.symm | rfl), by exact B1⟩

theorem szNote_own (x : Note) (s : Sl) (left : Int) (w : World) (h0 : 0 ≤ left) (h1 : left ≤ 2000000) (hw : wfNote x) (h : noteD.rd w w.heap.size x s) :
    Calls Try.prog 18 #[noteW x s, .int .i64 left] w (SzPost left (cntNote x) w) := by
  have hbx : ∀ W, Below w.heap.size w W → noteD.rd W W.heap.size x s := fun W hW => noteD.rd_more (noteD.rd_below h hW) hW.size
  go_enter Try.func18, Try.ntmps18
  go_wp2_with fail
  refine (szDeed_own x.deed s left _ (by omega) (by omega) hw.2 ((hbx _ (by repeat (first | exact Below.refl _ _ | refine Below.alloc ?_ (by simp <;> omega) _))))).mono ?_
  rintro e w0 ⟨r0, rfl, hr0, hb0⟩
  have B0 : Below w.heap.size w w0 := bnext (by repeat (first | exact Below.refl _ _ | refine Below.alloc ?_ (by simp <;> omega) _)) hb0
  obtain ⟨q0, p0⟩ := bcell hb0
  rcases hr0 with rfl | ⟨y0, z0⟩
  · go_wp2
    go_ret
    exact ⟨-1, rfl, .inl rfl, B0⟩
  go_wp2
  go_ret
  exact ⟨_, rfl, .inr ⟨by omega, by unfold cntNote; omega⟩, B0⟩

theorem RdL.note {w : World} {B : Nat} {A : Option Addr} {n c : Nat} {l : List (Note)} (h : RdL noteD w B (.slice A n c) l) {k : Nat} (hk : k < l.length) :
    ∃ b o, ∃ s : Sl, A = some ⟨b, o, none⟩ ∧ b < B ∧ noteD.rd w B l[k] s ∧ w.cell? ⟨b, o + k * 12, none⟩ = some (.int .i64 l[k].seq) ∧ w.cell? ⟨b, o + k * 12 + 1, none⟩ = some (.int .i64 l[k].deed.kind) ∧ w.cell? ⟨b, o + k * 12 + 2, none⟩ = some (.int .i64 l[k].deed.run) ∧ w.cell? ⟨b, o + k * 12 + 3, none⟩ = some (.int .i64 l[k].deed.plan.prio) ∧ w.cell? ⟨b, o + k * 12 + 4, none⟩ = some (.int .i64 l[k].deed.plan.most) ∧ w.cell? ⟨b, o + k * 12 + 5, none⟩ = some (.int .i64 l[k].deed.plan.wait) ∧ w.cell? ⟨b, o + k * 12 + 6, none⟩ = some (.int .i64 l[k].deed.plan.tasks) ∧ w.cell? ⟨b, o + k * 12 + 7, none⟩ = some (.slice s.a s.n s.c) ∧ w.cell? ⟨b, o + k * 12 + 8, none⟩ = some (.int .i64 l[k].deed.task) ∧ w.cell? ⟨b, o + k * 12 + 9, none⟩ = some (.int .i64 l[k].deed.try_) ∧ w.cell? ⟨b, o + k * 12 + 10, none⟩ = some (.int .i64 l[k].deed.worker) ∧ w.cell? ⟨b, o + k * 12 + 11, none⟩ = some (.int .i64 l[k].deed.draw) := by
  obtain ⟨b, o, s, rfl, hb, hc, hr⟩ := h.at_ k hk
  exact ⟨b, o, s, rfl, hb, hr, hc 0 _ rfl, hc 1 _ rfl, hc 2 _ rfl, hc 3 _ rfl, hc 4 _ rfl, hc 5 _ rfl, hc 6 _ rfl, hc 7 _ rfl, hc 8 _ rfl, hc 9 _ rfl, hc 10 _ rfl, hc 11 _ rfl⟩
theorem Ow.c_note {E : TypeId} {w : World} {base g n cap : Nat} {l : List ((Note) × Sl)} (h : Ow noteD.enc E w base (.slice (some ⟨g, 0, none⟩) n cap) l) {k : Nat} (hk : k < l.length) :
    w.cell? ⟨g, k * 12, none⟩ = some (.int .i64 l[k].1.seq) ∧ w.cell? ⟨g, k * 12 + 1, none⟩ = some (.int .i64 l[k].1.deed.kind) ∧ w.cell? ⟨g, k * 12 + 2, none⟩ = some (.int .i64 l[k].1.deed.run) ∧ w.cell? ⟨g, k * 12 + 3, none⟩ = some (.int .i64 l[k].1.deed.plan.prio) ∧ w.cell? ⟨g, k * 12 + 4, none⟩ = some (.int .i64 l[k].1.deed.plan.most) ∧ w.cell? ⟨g, k * 12 + 5, none⟩ = some (.int .i64 l[k].1.deed.plan.wait) ∧ w.cell? ⟨g, k * 12 + 6, none⟩ = some (.int .i64 l[k].1.deed.plan.tasks) ∧ w.cell? ⟨g, k * 12 + 7, none⟩ = some (.slice l[k].2.a l[k].2.n l[k].2.c) ∧ w.cell? ⟨g, k * 12 + 8, none⟩ = some (.int .i64 l[k].1.deed.task) ∧ w.cell? ⟨g, k * 12 + 9, none⟩ = some (.int .i64 l[k].1.deed.try_) ∧ w.cell? ⟨g, k * 12 + 10, none⟩ = some (.int .i64 l[k].1.deed.worker) ∧ w.cell? ⟨g, k * 12 + 11, none⟩ = some (.int .i64 l[k].1.deed.draw) := by
  rcases h.form with ⟨h1, _⟩ | ⟨g', cap', hv, _, _, _, _, _, hc⟩
  · simp at h1
  · simp only [Value.slice.injEq, Option.some.injEq, Addr.mk.injEq, and_true] at hv
    obtain ⟨rfl, _, _⟩ := hv
    exact ⟨hc k hk 0 _ rfl, hc k hk 1 _ rfl, hc k hk 2 _ rfl, hc k hk 3 _ rfl, hc k hk 4 _ rfl, hc k hk 5 _ rfl, hc k hk 6 _ rfl, hc k hk 7 _ rfl, hc k hk 8 _ rfl, hc k hk 9 _ rfl, hc k hk 10 _ rfl, hc k hk 11 _ rfl⟩
theorem Foc.note {w : World} {b o n c j : Nat} {rs : List ((Note) × Sl)} {G1 Fx G2 : List Nat} {x : Note} {s : Sl} (h : Foc noteD w b o n c rs j G1 Fx G2 x s) :
    w.cell? ⟨b, o + j * 12, none⟩ = some (.int .i64 x.seq) ∧ w.cell? ⟨b, o + j * 12 + 1, none⟩ = some (.int .i64 x.deed.kind) ∧ w.cell? ⟨b, o + j * 12 + 2, none⟩ = some (.int .i64 x.deed.run) ∧ w.cell? ⟨b, o + j * 12 + 3, none⟩ = some (.int .i64 x.deed.plan.prio) ∧ w.cell? ⟨b, o + j * 12 + 4, none⟩ = some (.int .i64 x.deed.plan.most) ∧ w.cell? ⟨b, o + j * 12 + 5, none⟩ = some (.int .i64 x.deed.plan.wait) ∧ w.cell? ⟨b, o + j * 12 + 6, none⟩ = some (.int .i64 x.deed.plan.tasks) ∧ w.cell? ⟨b, o + j * 12 + 7, none⟩ = some (.slice s.a s.n s.c) ∧ w.cell? ⟨b, o + j * 12 + 8, none⟩ = some (.int .i64 x.deed.task) ∧ w.cell? ⟨b, o + j * 12 + 9, none⟩ = some (.int .i64 x.deed.try_) ∧ w.cell? ⟨b, o + j * 12 + 10, none⟩ = some (.int .i64 x.deed.worker) ∧ w.cell? ⟨b, o + j * 12 + 11, none⟩ = some (.int .i64 x.deed.draw) := ⟨h.cells 0 _ rfl, h.cells 1 _ rfl, h.cells 2 _ rfl, h.cells 3 _ rfl, h.cells 4 _ rfl, h.cells 5 _ rfl, h.cells 6 _ rfl, h.cells 7 _ rfl, h.cells 8 _ rfl, h.cells 9 _ rfl, h.cells 10 _ rfl, h.cells 11 _ rfl⟩

theorem szNoteS_own (l : List (Note)) (s : Sl) (left : Int) (w : World) (h0 : 0 ≤ left) (h1 : left ≤ 2000000) (hw : wfL wfNote l) (h : RdL noteD w w.heap.size s.v l) :
    Calls Try.prog 5 #[.slice s.a s.n s.c, .int .i64 left] w (SzPost left (cntL cntNote l) w) := by
  obtain ⟨A, n, c⟩ := s
  obtain ⟨A', c', hv, -⟩ := h.form
  simp only [Sl.v, Value.slice.injEq] at hv
  obtain ⟨rfl, rfl, rfl⟩ := hv
  have hll := hw.1
  by_cases hlt : left < l.length
  · go_enter Try.func5, Try.ntmps5
    go_wp2
    go_ret
    exact ⟨-1, rfl, .inl rfl, Below.refl _ _⟩
  have Hw := Lib.hid hw
  clear hw
  go_enter Try.func5, Try.ntmps5
  go_wp2
  go_loopw [1, 5] (fun t i wr => ∃ k : Nat, ∃ m : Int, k ≤ l.length ∧ i = .int .i64 k ∧ t = .int .i64 m ∧ 0 ≤ m ∧ m + l.length + (((l.take k).map cntNote).sum : Nat) ≤ left ∧ Below w.heap.size w wr) (fun _ i _ => l.length - (intOf i).toNat)
  case atStart => exact ⟨0, _, Nat.zero_le _, rfl, rfl, by omega, by simp <;> omega, Below.refl _ _⟩
  case round =>
    obtain ⟨k, m, hk, rfl, rfl, m0, m1, hb⟩ := hrel
    by_cases hlt : k < l.length
    · obtain ⟨b, o, s, rfl, hbb, hr, c0, c1, c2, c3, c4, c5, c6, c7, c8, c9, c10, c11⟩ := (h.below hb).note hlt
      have hx : ∀ W, Below wr.heap.size wr W → noteD.rd W W.heap.size l[k] s := fun W hW => noteD.rd_more (noteD.rd_below (noteD.rd_more hr hb.size) hW) hW.size
      have hwk : wfNote l[k] := Hw.out.2 _ (List.getElem_mem hlt)
      have M1 := Lib.hid m1
      have m2 : m ≤ 2000000 := by omega
      clear m1
      go_wp2_with fail
      refine (szNote_own l[k] s m _ m0 m2 hwk (hx _ (by first | exact Below.refl _ _ | exact (Below.refl _ _).drew))).mono ?_
      rintro e w1 ⟨r, rfl, hr, hb1⟩
      rcases hr with rfl | ⟨r0, r1⟩
      · go_wp2
        go_ret
        exact ⟨-1, rfl, .inl rfl, bnext hb hb1⟩
      · go_wp2
        refine ⟨⟨k + 1, r, by omega, by go_num, rfl, r0, ?_, bnext hb hb1⟩, by simp [intOf]; omega⟩
        have M2 := M1.out
        have r2 : r + (cntNote l[k] : Nat) ≤ m := r1
        rw [sum_take_succ _ _ _ hlt]
        push_cast
        omega
    · go_wp2
      go_ret
      refine ⟨_, rfl, .inr ⟨by omega, ?_⟩, hb⟩
      rw [List.take_of_length_le (by omega)] at m1
      unfold cntL
      push_cast
      omega

theorem eqNoteS_own (l l' : List (Note)) (s s' : Sl) (w : World) (hl : cntL cntNote l ≤ 2000000) (hl' : cntL cntNote l' ≤ 2000000) (h : RdL noteD w w.heap.size s.v l) (h' : RdL noteD w w.heap.size s'.v l') :
    Calls Try.prog 9 #[.slice s.a s.n s.c, .slice s'.a s'.n s'.c] w fun e w' => e = .returned (.bool (decide (l = l'))) ∧ Below w.heap.size w w' := by
  obtain ⟨A, n, c⟩ := s
  obtain ⟨A0, c0, hv, -⟩ := h.form
  simp only [Sl.v, Value.slice.injEq] at hv
  obtain ⟨rfl, rfl, rfl⟩ := hv
  obtain ⟨A', n', c'⟩ := s'
  obtain ⟨A0, c0, hv, -⟩ := h'.form
  simp only [Sl.v, Value.slice.injEq] at hv
  obtain ⟨rfl, rfl, rfl⟩ := hv
  have hll : l.length ≤ 2000000 := Nat.le_trans (cntL_len _ _) hl
  have hll' : l'.length ≤ 2000000 := Nat.le_trans (cntL_len _ _) hl'
  have hcc : ∀ k (hk : k < l.length), cntNote l[k] ≤ 2000000 := fun k hk => by have := cntL_mem (cnt := cntNote) (List.getElem_mem hk); omega
  have hcc' : ∀ k (hk : k < l'.length), cntNote l'[k] ≤ 2000000 := fun k hk => by have := cntL_mem (cnt := cntNote) (List.getElem_mem hk); omega
  clear hl hl'
  by_cases hne : l.length = l'.length
  · have hb0 : ((l.length : Int) != (l'.length : Int)) = false := by simp [hne]
    have Hne := Lib.hid hne
    clear hne
    go_enter Try.func9, Try.ntmps9
    go_wp2
    go_loopw [5] (fun i wr => ∃ k : Nat, k ≤ l.length ∧ i = .int .i64 k ∧ Hid (l.take k = l'.take k) ∧ Below w.heap.size w wr) (fun i _ => l.length - (intOf i).toNat)
    case atStart => exact ⟨0, Nat.zero_le _, rfl, rfl, Below.refl _ _⟩
    case round =>
      obtain ⟨k, hk, rfl, heq, hb⟩ := hrel
      by_cases hlt : k < l.length
      · have hlt' : k < l'.length := by rw [← Hne.out]; exact hlt
        obtain ⟨b, o, s, rfl, hbb, hr, c0, c1, c2, c3, c4, c5, c6, c7, c8, c9, c10, c11⟩ := (h.below hb).note hlt
        obtain ⟨b', o', s', rfl, hbb', hr', d0, d1, d2, d3, d4, d5, d6, d7, d8, d9, d10, d11⟩ := (h'.below hb).note hlt'
        have hx : ∀ W, Below wr.heap.size wr W → noteD.rd W W.heap.size l[k] s := fun W hW => noteD.rd_more (noteD.rd_below (noteD.rd_more hr hb.size) hW) hW.size
        have hx' : ∀ W, Below wr.heap.size wr W → noteD.rd W W.heap.size l'[k] s' := fun W hW => noteD.rd_more (noteD.rd_below (noteD.rd_more hr' hb.size) hW) hW.size
        go_wp2
        go_still_tail 8, (by kernel_rfl)
        go_wp2_with (go_at_call 22; refine (eqNote_own l[k] l'[k] s s' _ (hcc k hlt) (hcc' k hlt') (hx _ (by first | exact Below.refl _ _ | exact (Below.refl _ _).drew)) (hx' _ (by first | exact Below.refl _ _ | exact (Below.refl _ _).drew))).mono ?_; rintro e w1 ⟨rfl, hb1⟩)
        · rename_i hd
          go_ret
          refine ⟨ret_bool ?_, (hb.drew).trans (hb1.mono hb.size)⟩
          simp only [Bool.false_eq, decide_eq_false_iff_not]
          intro e
          subst e
          simp at hd
        · rename_i hd
          refine ⟨⟨k + 1, by omega, by go_num, ?_, (hb.drew).trans (hb1.mono hb.size)⟩, by simp [intOf]; omega⟩
          show List.take (k + 1) l = List.take (k + 1) l'
          rw [take_snoc l k hlt, take_snoc l' k hlt', heq.out]
          simp at hd
          rw [hd]
      · go_wp2
        go_ret
        refine ⟨ret_bool ?_, hb⟩
        have h1 := heq.out
        rw [List.take_of_length_le (by omega), List.take_of_length_le (by rw [← Hne.out]; omega)] at h1
        simp [h1]
  · have hb0 : ((l.length : Int) != (l'.length : Int)) = true := by simp; omega
    go_enter Try.func9, Try.ntmps9
    go_wp2
    go_ret
    refine ⟨ret_bool ?_, Below.refl _ _⟩
    simp only [Bool.false_eq, decide_eq_false_iff_not]
    intro e
    exact hne (by rw [e])


theorem note_infoD : (Try.prog.info? 76).map (fun i => (i.zero, i.size, i.bytes)) = some (some (.agg #[.int .i64 0, .int .i64 0, .int .i64 0, .int .i64 0, .int .i64 0, .int .i64 0, .int .i64 0, .slice none 0 0, .int .i64 0, .int .i64 0, .int .i64 0, .int .i64 0]), 12, 112) := by kernel_rfl

theorem toNoteS_own (l : List (Note)) (s : Sl) (w : World) (hl : cntL cntNote l ≤ 2000000) (h : RdL noteD w w.heap.size s.v l) :
    Calls Try.prog 7 #[.slice s.a s.n s.c] w (OwnPost (Dt.list noteD) slV l w) := by
  obtain ⟨A, n, c⟩ := s
  obtain ⟨A', c', hv, -⟩ := h.form
  simp only [Sl.v, Value.slice.injEq] at hv
  obtain ⟨rfl, rfl, rfl⟩ := hv
  have hll : l.length ≤ 2000000 := Nat.le_trans (cntL_len _ _) hl
  have hcc : ∀ k (hk : k < l.length), cntNote l[k] ≤ 2000000 := fun k hk => by have := cntL_mem (cnt := cntNote) (List.getElem_mem hk); omega
  clear hl
  obtain ⟨i0, hi0, hz0, hz1, hz2⟩ := info_parts note_infoD
  have hmk : ∀ w : World, (Instr.makeSlice 25 (.int .i64 (l.length : Int)) (.int .i64 (l.length : Int))).run Try.prog w = .ok (.slice (some ⟨w.heap.size, 0, none⟩) l.length l.length) (w.alloc (.cells (madeCells #[.int .i64 0, .int .i64 0, .int .i64 0, .int .i64 0, .int .i64 0, .int .i64 0, .int .i64 0, .slice none 0 0, .int .i64 0, .int .i64 0, .int .i64 0, .int .i64 0] (l.length * 12)) 76)) := by
    intro w
    have := run_make (P := Try.prog) w 25 76 i0 _ Try.underlying25 hi0 hz0 .i64 .i64 l.length l.length (by omega) (by omega) (by rw [hz2]; omega) (by omega)
    rw [hz1] at this
    simpa [Value.cells] using this
  go_enter Try.func7, Try.ntmps7
  go_wp2
  go_loopw [4] (fun i wr => ∃ k : Nat, k ≤ l.length ∧ i = .int .i64 k ∧ Hid (∃ (rs : List ((Note) × Sl)) (G : List Nat), rs.map (·.1) = l.take k ∧ Ow noteD.enc 76 wr w.heap.size (.slice (some ⟨w.heap.size, 0, none⟩) l.length l.length) (rs ++ List.replicate (l.length - k) (⟨0, ⟨0, 0, ⟨0, 0, 0, 0, []⟩, 0, 0, 0, 0⟩⟩, ⟨none, 0, 0⟩)) ∧ Ows noteD wr G rs ∧ G.Nodup ∧ ∀ b ∈ G, w.heap.size < b) ∧ Below w.heap.size w wr) (fun i _ => l.length - (intOf i).toNat)
  case atStart => exact ⟨0, Nat.zero_le _, rfl, ⟨[], [], rfl, by rw [List.nil_append, Nat.sub_zero]; exact Ow.made noteD.enc 76 w (⟨0, ⟨0, 0, ⟨0, 0, 0, 0, []⟩, 0, 0, 0, 0⟩⟩, ⟨none, 0, 0⟩) l.length (by decide) (by simp [maxLen]; omega) rfl rfl, .nil, List.nodup_nil, fun _ h => by cases h⟩, (Below.refl _ _).alloc (Nat.le_refl _) _⟩
  case round =>
    obtain ⟨k, hk, rfl, ⟨rs, G, hm, hown, hG, hGn, hGb⟩, hb⟩ := hrel
    have hrl : rs.length = k := by have := congrArg List.length hm; simpa [Nat.min_eq_left hk] using this
    by_cases hlt : k < l.length
    · obtain ⟨b, o, s, rfl, hbb, hr, c0, c1, c2, c3, c4, c5, c6, c7, c8, c9, c10, c11⟩ := (h.below hb).note hlt
      have hx : ∀ W, Below wr.heap.size wr W → noteD.rd W W.heap.size l[k] s := fun W hW => noteD.rd_more (noteD.rd_below (noteD.rd_more hr hb.size) hW) hW.size
      have hlen : (rs ++ List.replicate (l.length - k) ((⟨0, ⟨0, 0, ⟨0, 0, 0, 0, []⟩, 0, 0, 0, 0⟩⟩, ⟨none, 0, 0⟩) : (Note) × Sl)).length = l.length := by simp; omega
      have Hm := Lib.hid hm
      have Hrl := Lib.hid hrl
      clear hm hrl
      go_wp2_with (go_at_call 20; refine (toNote_own l[k] s _ (hcc k hlt) (hx _ (by first | exact Below.refl _ _ | exact (Below.refl _ _).drew))).mono ?_; rintro e w1 ⟨s1, F1, rfl, o1, n1, hb1⟩; have hown1 := hown.below hb1; have hf := hown1.free; obtain ⟨d0, d1, d2, d3, d4, d5, d6, d7, d8, d9, d10, d11⟩ := hown1.c_note (k := k) (by rw [hlen]; exact hlt))
      have hp := Ow.put hown1 hlen k hlt (l[k], s1)
      have Hp := Bld.lay hG hGn hGb hb1 (r := (l[k], s1)) o1 n1 (Nat.lt_of_lt_of_le (hown.blk).2 (Nat.le_refl _)) hp.2
      rw [mix_snoc rs _ k l.length Hrl.out hlt] at hp
      refine ⟨⟨k + 1, by omega, by go_num, ⟨rs ++ [(l[k], s1)], G ++ F1, ?_, hp.1, Hp.1, Hp.2.1, Hp.2.2⟩, (hb.trans (hb1.mono hb.size)).grown hp.2 (Nat.le_trans hb.size hb1.size) (fun g hg => by simp at hg; omega)⟩, by simp [intOf]; omega⟩
      rw [List.map_append, Hm.out, take_snoc l k hlt]
      rfl
    · have hk' : k = l.length := by omega
      subst hk'
      rw [Nat.sub_self, List.replicate_zero, List.append_nil] at hown
      go_wp2
      go_ret
      rw [List.take_length] at hm
      have hB : Bld noteD 76 wr w.heap.size (.slice (some ⟨w.heap.size, 0, none⟩) l.length l.length) rs := ⟨G, by rw [← hrl]; exact (by rw [hrl]; exact hown), hG, hGn, fun b hb' => ⟨Nat.le_of_lt (hGb b hb'), by simp [Value.ownBlock]; have := hGb b hb'; omega⟩⟩
      obtain ⟨F, h1, h2⟩ := hB.owl hm
      exact ⟨⟨some ⟨w.heap.size, 0, none⟩, l.length, l.length⟩, F, rfl, h1, h2, hb⟩


end Go.Proofs.Ytjobmbjadpldfaa
