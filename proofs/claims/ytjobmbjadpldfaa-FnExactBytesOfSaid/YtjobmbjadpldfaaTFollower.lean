/-
  Data of the type Follower: how it lies in memory, and the walks of the laws' helpers on it. Written by program (deep.py).
-/
import Derived.Test.YtjobmbjadpldfaaTYard
namespace Go.Proofs.Ytjobmbjadpldfaa
open Go.RowKit
set_option maxRecDepth 100000
set_option maxHeartbeats 1000000
set_option linter.unusedVariables false
set_option linter.unusedSimpArgs false

structure Follower where
  yard : Yard
  seq : Int
deriving DecidableEq, Inhabited

@[go_sem] abbrev followerW (x : Follower) (s : (Sl × Sl)) : Value := .agg #[.int .i64 x.yard.now, .int .i64 x.yard.seq, .slice s.1.a s.1.n s.1.c, .slice s.2.a s.2.n s.2.c, .int .i64 x.seq]
abbrev followerD : Dt Follower := Dt.via yardD (·.yard) (fun q => [.int .i64 q.1.yard.now, .int .i64 q.1.yard.seq, .slice q.2.1.a q.2.1.n q.2.1.c, .slice q.2.2.a q.2.2.n q.2.2.c, .int .i64 q.1.seq]) 5 (fun _ => rfl) (fun q u hu => by simp at hu; rcases hu with rfl | rfl | rfl | rfl | rfl <;> rfl)
/-- all lengths in it together -/
def cntFollower (x : Follower) : Nat := cntYard x.yard
/-- ints are int64, lengths are what a machine holds -/
def wfFollower (x : Follower) : Prop := wfYard x.yard ∧ Wf x.seq
def numFollower (x : Follower) : Nat := 3 + numL numEntryS x.yard.shelf + numL numRun x.yard.runs
/-- with the marks from k on -/
def mkFollower (k : Int) (x : Follower) : Follower := ⟨⟨k, k + 1, mkL mkEntryS numEntryS (k + 1 + 1) x.yard.shelf, mkL mkRun numRun (k + 1 + 1 + (numL numEntryS x.yard.shelf : Nat)) x.yard.runs⟩, k + 1 + 1 + (numL numEntryS x.yard.shelf : Nat) + (numL numRun x.yard.runs : Nat)⟩
theorem numFollower_le (x : Follower) : numFollower x ≤ 13 * (cntFollower x + 1) := by
  have h0 := numL_le (num := numEntryS) (cnt := cntEntryS) (K := 13) numEntryS_le x.yard.shelf
  have h1 := numL_le (num := numRun) (cnt := cntRun) (K := 13) numRun_le x.yard.runs
  unfold numFollower cntFollower cntYard
  omega

theorem toFollower_own (x : Follower) (s : (Sl × Sl)) (w : World) (hl : cntFollower x ≤ 2000000) (h : followerD.rd w w.heap.size x s) :
    Calls Try.prog 13 #[followerW x s] w (OwnPost followerD followerW x w) := by
  have hbx : ∀ W, Below w.heap.size w W → followerD.rd W W.heap.size x s := fun W hW => followerD.rd_more (followerD.rd_below h hW) hW.size
  go_enter Try.func13, Try.ntmps13
  go_wp2_with fail
  refine (toYard_own x.yard s _ (by unfold cntFollower at hl; omega) ((hbx _ (by repeat (first | exact Below.refl _ _ | refine Below.alloc ?_ (by simp <;> omega) _))))).mono ?_
  rintro e w0 ⟨s0, F0, rfl, o0, n0, hb0⟩
  obtain ⟨q0, p0⟩ := bcell hb0
  have z0 := hb0.size
  simp only [World.size_alloc, World.size_setCell] at z0 n0
  have B0 : Below w.heap.size w w0 := bnext (by repeat (first | exact Below.refl _ _ | refine Below.alloc ?_ (by simp <;> omega) _)) hb0
  go_wp2
  refine bodyPost_ret (v := followerW x s0) ?_ rfl ?_
  · simp [followerW, results, Try.results13, go_sem, q0]
  · refine ⟨s0, F0, rfl, ?_, ?_, ?_⟩
    · repeat (first | (with_reducible exact o0) | refine Dt.ow_set yardD ?_ (by intro hm; have := n0 _ hm; (try simp only [World.size_alloc, World.size_setCell] at this); omega) _)
    · intro b hb
      have := n0 b hb
      omega
    · repeat (first | (with_reducible exact B0) | (with_reducible exact Below.refl _ _) | refine Below.setCell ?_ (by simp <;> omega) _ | refine Below.alloc ?_ (by simp <;> omega) _)

theorem eqFollower_own (x y : Follower) (s r : (Sl × Sl)) (w : World) (hl : cntFollower x ≤ 2000000) (hl' : cntFollower y ≤ 2000000) (h : followerD.rd w w.heap.size x s) (h' : followerD.rd w w.heap.size y r) :
    Calls Try.prog 16 #[followerW x s, followerW y r] w fun e w' => e = .returned (.bool (decide (x = y))) ∧ Below w.heap.size w w' := by
  have hbx : ∀ W, Below w.heap.size w W → followerD.rd W W.heap.size x s := fun W hW => followerD.rd_more (followerD.rd_below h hW) hW.size
  have hby : ∀ W, Below w.heap.size w W → followerD.rd W W.heap.size y r := fun W hW => followerD.rd_more (followerD.rd_below h' hW) hW.size
  go_enter Try.func16, Try.ntmps16
  go_wp2_with fail
  refine (eqYard_own x.yard y.yard s r _ (by unfold cntFollower at hl; omega) (by unfold cntFollower at hl'; omega) ((hbx _ (by repeat (first | exact Below.refl _ _ | refine Below.alloc ?_ (by simp <;> omega) _)))) ((hby _ (by repeat (first | exact Below.refl _ _ | refine Below.alloc ?_ (by simp <;> omega) _))))).mono ?_
  rintro e w0 ⟨rfl, hb0⟩
  have B0 : Below w.heap.size w w0 := bnext (by repeat (first | exact Below.refl _ _ | refine Below.alloc ?_ (by simp <;> omega) _)) hb0
  obtain ⟨q0, p0⟩ := bcell hb0
  by_cases h0 : x.yard = y.yard
  case neg =>
    have H := Lib.hid (show decide (x = y) = false by simp only [decide_eq_false_iff_not]; intro e; exact h0 (by rw [e]))
    rw [decide_eq_false h0]
    clear h0
    go_wp2
    go_ret
    exact ⟨ret_bool (by first | exact H.out.symm | rfl), by exact B0⟩
  rw [decide_eq_true h0]
  have H0 := Lib.hid h0
  clear h0
  by_cases h1 : x.seq = y.seq
  case neg =>
    have t1 : (x.seq != y.seq) = true := by rw [bne_iff_ne]; exact h1
    have H := Lib.hid (show decide (x = y) = false by simp only [decide_eq_false_iff_not]; intro e; exact h1 (by rw [e]))
    clear h1
    go_wp2
    go_ret
    exact ⟨ret_bool (by first | exact H.out.symm | rfl), by exact B0⟩
  have t1 : (x.seq != y.seq) = false := by simp [h1]
  have H1 := Lib.hid h1
  clear h1
  have H := Lib.hid (show decide (x = y) = true by
    simp only [decide_eq_true_eq]
    have hh := And.intro H0.out H1.out
    obtain ⟨e0, e1⟩ := hh
    cases x
    cases y
    simp only at e0 e1
    subst e0 e1
    rfl)
  go_wp2
  go_ret
  exact ⟨ret_bool (by first | exact H.out.symm | rfl), by exact B0⟩

theorem szFollower_own (x : Follower) (s : (Sl × Sl)) (left : Int) (w : World) (h0 : 0 ≤ left) (h1 : left ≤ 2000000) (hw : wfFollower x) (h : followerD.rd w w.heap.size x s) :
    Calls Try.prog 10 #[followerW x s, .int .i64 left] w (SzPost left (cntFollower x) w) := by
  have hbx : ∀ W, Below w.heap.size w W → followerD.rd W W.heap.size x s := fun W hW => followerD.rd_more (followerD.rd_below h hW) hW.size
  go_enter Try.func10, Try.ntmps10
  go_wp2_with fail
  refine (szYard_own x.yard s left _ (by omega) (by omega) hw.1 ((hbx _ (by repeat (first | exact Below.refl _ _ | refine Below.alloc ?_ (by simp <;> omega) _))))).mono ?_
  rintro e w0 ⟨r0, rfl, hr0, hb0⟩
  have B0 : Below w.heap.size w w0 := bnext (by repeat (first | exact Below.refl _ _ | refine Below.alloc ?_ (by simp <;> omega) _)) hb0
  obtain ⟨q0, p0⟩ := bcell hb0
  rcases hr0 with rfl | ⟨y0, z0⟩
  · go_wp2
    go_ret
    exact ⟨-1, rfl, .inl rfl, B0⟩
  go_wp2
  go_ret
  exact ⟨_, rfl, .inr ⟨by omega, by unfold cntFollower; omega⟩, B0⟩
end Go.Proofs.Ytjobmbjadpldfaa
