/-
  Data of the type Seg: how it lies in memory, and the walks of the laws' helpers on it. Written by program (deep.py). Data of the type Desk: how it lies in memory, and the walks of the laws' helpers on it. Written by program (deep.py). Data of the type Follower: how it lies in memory, and the walks of the laws' helpers on it. Written by program (deep.py). Data of the type Engine: how it lies in memory, and the walks of the laws' helpers on it. Written by program (deep.py). Shelves, runs and yards that are right: the plain words. Copies of deeds, notes and lists of them, in memory of the call's 
-/
import Derived.Test.YtjobmbjadpldfaaGreatZHeard3
section
namespace Go.Proofs.YtjobmbjadpldfaaGreat
open Go.RowKit
set_option maxRecDepth 100000
set_option maxHeartbeats 1000000
set_option linter.unusedVariables false
set_option linter.unusedSimpArgs false

structure Seg where
  fr : Int
  notes : List Note
deriving DecidableEq, Inhabited

@[go_sem] abbrev segW (x : Seg) (s : Sl) : Value := .agg #[.int .i64 x.fr, .slice s.a s.n s.c]
abbrev segD : Dt Seg := Dt.via (Dt.list noteD) (·.notes) (fun q => [.int .i64 q.1.fr, .slice q.2.a q.2.n q.2.c]) 2 (fun _ => rfl) (fun q u hu => by simp at hu; rcases hu with rfl | rfl <;> rfl)
/-- all lengths in it together -/
def cntSeg (x : Seg) : Nat := cntL cntNote x.notes
/-- ints are int64, lengths are what a machine holds -/
def wfSeg (x : Seg) : Prop := Wf x.fr ∧ wfL wfNote x.notes
def numSeg (x : Seg) : Nat := 1 + numL numNote x.notes
/-- with the marks from k on -/
def mkSeg (k : Int) (x : Seg) : Seg := ⟨k, mkL mkNote numNote (k + 1) x.notes⟩
theorem numSeg_le (x : Seg) : numSeg x ≤ 13 * (cntSeg x + 1) := by
  have h0 := numL_le (num := numNote) (cnt := cntNote) (K := 13) numNote_le x.notes
  unfold numSeg cntSeg
  omega

theorem RdL.seg {w : World} {B : Nat} {A : Option Addr} {n c : Nat} {l : List (Seg)} (h : RdL segD w B (.slice A n c) l) {k : Nat} (hk : k < l.length) :
    ∃ b o, ∃ s : Sl, A = some ⟨b, o, none⟩ ∧ b < B ∧ segD.rd w B l[k] s ∧ w.cell? ⟨b, o + k * 2, none⟩ = some (.int .i64 l[k].fr) ∧ w.cell? ⟨b, o + k * 2 + 1, none⟩ = some (.slice s.a s.n s.c) := by
  obtain ⟨b, o, s, rfl, hb, hc, hr⟩ := h.at_ k hk
  exact ⟨b, o, s, rfl, hb, hr, hc 0 _ rfl, hc 1 _ rfl⟩
theorem Ow.c_seg {E : TypeId} {w : World} {base g n cap : Nat} {l : List ((Seg) × Sl)} (h : Ow segD.enc E w base (.slice (some ⟨g, 0, none⟩) n cap) l) {k : Nat} (hk : k < l.length) :
    w.cell? ⟨g, k * 2, none⟩ = some (.int .i64 l[k].1.fr) ∧ w.cell? ⟨g, k * 2 + 1, none⟩ = some (.slice l[k].2.a l[k].2.n l[k].2.c) := by
  rcases h.form with ⟨h1, _⟩ | ⟨g', cap', hv, _, _, _, _, _, hc⟩
  · simp at h1
  · simp only [Value.slice.injEq, Option.some.injEq, Addr.mk.injEq, and_true] at hv
    obtain ⟨rfl, _, _⟩ := hv
    exact ⟨hc k hk 0 _ rfl, hc k hk 1 _ rfl⟩
theorem Foc.seg {w : World} {b o n c j : Nat} {rs : List ((Seg) × Sl)} {G1 Fx G2 : List Nat} {x : Seg} {s : Sl} (h : Foc segD w b o n c rs j G1 Fx G2 x s) :
    w.cell? ⟨b, o + j * 2, none⟩ = some (.int .i64 x.fr) ∧ w.cell? ⟨b, o + j * 2 + 1, none⟩ = some (.slice s.a s.n s.c) := ⟨h.cells 0 _ rfl, h.cells 1 _ rfl⟩

end Go.Proofs.YtjobmbjadpldfaaGreat
end
section
namespace Go.Proofs.YtjobmbjadpldfaaGreat
open Go.RowKit
set_option maxRecDepth 100000
set_option maxHeartbeats 1000000
set_option linter.unusedVariables false
set_option linter.unusedSimpArgs false

structure Desk where
  yard : Yard
  memos : List Memo
  fr : Int
deriving DecidableEq, Inhabited

@[go_sem] abbrev deskW (x : Desk) (s : (Sl × Sl) × Sl) : Value := .agg #[.int .i64 x.yard.now, .int .i64 x.yard.seq, .slice s.1.1.a s.1.1.n s.1.1.c, .slice s.1.2.a s.1.2.n s.1.2.c, .slice s.2.a s.2.n s.2.c, .int .i64 x.fr]
abbrev deskD : Dt Desk := Dt.two yardD (Dt.list memoD) (·.yard) (·.memos) (fun q => [.int .i64 q.1.yard.now, .int .i64 q.1.yard.seq, .slice q.2.1.1.a q.2.1.1.n q.2.1.1.c, .slice q.2.1.2.a q.2.1.2.n q.2.1.2.c, .slice q.2.2.a q.2.2.n q.2.2.c, .int .i64 q.1.fr]) 6 (fun _ => rfl) (fun q u hu => by simp at hu; rcases hu with rfl | rfl | rfl | rfl | rfl | rfl <;> rfl)
/-- all lengths in it together -/
def cntDesk (x : Desk) : Nat := cntYard x.yard + cntL cntMemo x.memos
/-- ints are int64, lengths are what a machine holds -/
def wfDesk (x : Desk) : Prop := wfYard x.yard ∧ wfL wfMemo x.memos ∧ Wf x.fr
def numDesk (x : Desk) : Nat := 3 + numL numEntryS x.yard.shelf + numL numRun x.yard.runs + numL numMemo x.memos
/-- with the marks from k on -/
def mkDesk (k : Int) (x : Desk) : Desk := ⟨⟨k, k + 1, mkL mkEntryS numEntryS (k + 1 + 1) x.yard.shelf, mkL mkRun numRun (k + 1 + 1 + (numL numEntryS x.yard.shelf : Nat)) x.yard.runs⟩, mkL mkMemo numMemo (k + 1 + 1 + (numL numEntryS x.yard.shelf : Nat) + (numL numRun x.yard.runs : Nat)) x.memos, k + 1 + 1 + (numL numEntryS x.yard.shelf : Nat) + (numL numRun x.yard.runs : Nat) + (numL numMemo x.memos : Nat)⟩
theorem numDesk_le (x : Desk) : numDesk x ≤ 13 * (cntDesk x + 1) := by
  have h0 := numL_le (num := numEntryS) (cnt := cntEntryS) (K := 13) numEntryS_le x.yard.shelf
  have h1 := numL_le (num := numRun) (cnt := cntRun) (K := 13) numRun_le x.yard.runs
  have h2 := numL_le (num := numMemo) (cnt := cntMemo) (K := 13) numMemo_le x.memos
  unfold numDesk cntDesk cntYard
  omega

theorem toDesk_own (x : Desk) (s : (Sl × Sl) × Sl) (w : World) (hl : cntDesk x ≤ 2000000) (h : deskD.rd w w.heap.size x s) :
    Calls Tryz.prog 8 #[deskW x s] w (OwnPost deskD deskW x w) := by
  have hbx : ∀ W, Below w.heap.size w W → deskD.rd W W.heap.size x s := fun W hW => deskD.rd_more (deskD.rd_below h hW) hW.size
  go_enter Tryz.func8, Tryz.ntmps8
  go_wp2_with fail
  refine (toYard_own x.yard s.1 _ (by unfold cntDesk at hl; omega) ((hbx _ (by repeat (first | exact Below.refl _ _ | refine Below.alloc ?_ (by simp <;> omega) _))).1)).mono ?_
  rintro e w0 ⟨s0, F0, rfl, o0, n0, hb0⟩
  obtain ⟨q0, p0⟩ := bcell hb0
  have z0 := hb0.size
  simp only [World.size_alloc, World.size_setCell] at z0 n0
  have B0 : Below w.heap.size w w0 := bnext (by repeat (first | exact Below.refl _ _ | refine Below.alloc ?_ (by simp <;> omega) _)) hb0
  go_wp2_with fail
  refine (toMemoS_own x.memos s.2 _ (by unfold cntDesk at hl; omega) ((hbx _ (by repeat (first | (with_reducible exact B0) | (with_reducible exact Below.refl _ _) | refine Below.setCell ?_ (by simp <;> omega) _ | refine Below.alloc ?_ (by simp <;> omega) _))).2)).mono ?_
  rintro e w1 ⟨s1, F1, rfl, o1, n1, hb1⟩
  obtain ⟨q1, p1⟩ := bcell hb1
  have z1 := hb1.size
  simp only [World.size_alloc, World.size_setCell] at z1 n1 q1 p1
  have B1 : Below w.heap.size w w1 := bnext (by repeat (first | (with_reducible exact B0) | (with_reducible exact Below.refl _ _) | refine Below.setCell ?_ (by simp <;> omega) _ | refine Below.alloc ?_ (by simp <;> omega) _)) hb1
  have q1a := fun o => q1 w.heap.size o (by omega)
  have p1a := fun o => p1 w.heap.size o (by omega)
  have q1b := fun o => q1 (w.heap.size + 1) o (by omega)
  have p1b := fun o => p1 (w.heap.size + 1) o (by omega)
  have q1c := fun o => q1 (w.heap.size + 1 + 1) o (by omega)
  have p1c := fun o => p1 (w.heap.size + 1 + 1) o (by omega)
  go_wp2
  refine bodyPost_ret (v := deskW x (s0, s1)) ?_ rfl ?_
  · simp [deskW, results, Tryz.results8, go_sem, q0, q1, q1a, q1b, q1c]
  · refine ⟨(s0, s1), F0 ++ F1, rfl, ⟨F0, F1, rfl, ?_, ?_, ?_⟩, ?_, ?_⟩
    · rw [List.nodup_append]
      refine ⟨Dt.ow_nodup yardD o0, Dt.ow_nodup (Dt.list memoD) o1, fun u hu u' hu' e => ?_⟩
      have h1 := Dt.ow_lt yardD o0 u hu
      have h2 := n1 u' hu'
      omega
    · repeat (first | (with_reducible exact o0) | refine Dt.ow_set yardD ?_ (by intro hm; have := n0 _ hm; (try simp only [World.size_alloc, World.size_setCell] at this); omega) _ | (with_reducible refine Dt.ow_below yardD ?_ hb1))
    · repeat (first | (with_reducible exact o1) | refine Dt.ow_set (Dt.list memoD) ?_ (by intro hm; have := n1 _ hm; (try simp only [World.size_alloc, World.size_setCell] at this); omega) _)
    · intro u hu
      rcases List.mem_append.1 hu with hu | hu
      · have := n0 u hu
        omega
      · have := n1 u hu
        omega
    · repeat (first | (with_reducible exact B1) | (with_reducible exact Below.refl _ _) | refine Below.setCell ?_ (by simp <;> omega) _ | refine Below.alloc ?_ (by simp <;> omega) _)

theorem eqDesk_own (x y : Desk) (s r : (Sl × Sl) × Sl) (w : World) (hl : cntDesk x ≤ 2000000) (hl' : cntDesk y ≤ 2000000) (h : deskD.rd w w.heap.size x s) (h' : deskD.rd w w.heap.size y r) :
    Calls Tryz.prog 10 #[deskW x s, deskW y r] w fun e w' => e = .returned (.bool (decide (x = y))) ∧ Below w.heap.size w w' := by
  have hbx : ∀ W, Below w.heap.size w W → deskD.rd W W.heap.size x s := fun W hW => deskD.rd_more (deskD.rd_below h hW) hW.size
  have hby : ∀ W, Below w.heap.size w W → deskD.rd W W.heap.size y r := fun W hW => deskD.rd_more (deskD.rd_below h' hW) hW.size
  go_enter Tryz.func10, Tryz.ntmps10
  go_wp2_with fail
  refine (eqYard_own x.yard y.yard s.1 r.1 _ (by unfold cntDesk at hl; omega) (by unfold cntDesk at hl'; omega) ((hbx _ (by repeat (first | exact Below.refl _ _ | refine Below.alloc ?_ (by simp <;> omega) _))).1) ((hby _ (by repeat (first | exact Below.refl _ _ | refine Below.alloc ?_ (by simp <;> omega) _))).1)).mono ?_
  rintro e w0 ⟨rfl, hb0⟩
  have B0 : Below w.heap.size w w0 := bnext (by repeat (first | exact Below.refl _ _ | refine Below.alloc ?_ (by simp <;> omega) _)) hb0
  obtain ⟨q0, p0⟩ := bcell hb0
  have z0 := hb0.size
  try simp only [World.size_alloc] at z0
  by_cases h0 : x.yard = y.yard
  case neg =>
    have H := Lib.hid (show decide (x = y) = false by simp only [decide_eq_false_iff_not]; intro e; exact h0 (by rw [e]))
    rw [decide_eq_false h0]
    clear h0
    go_wp2
    go_ret
    exact ⟨ret_bool (by first | exact H.out.symm | rfl), by exact B0⟩
  rw [decide_eq_true h0]
  have H0 := Lib.hid h0
  clear h0
  go_wp2_with fail
  refine (eqMemoS_own x.memos y.memos s.2 r.2 _ (by unfold cntDesk at hl; omega) (by unfold cntDesk at hl'; omega) ((hbx _ (by first | exact B0 | (repeat (first | exact Below.refl _ _ | refine Below.alloc ?_ (by simp <;> omega) _)))).2) ((hby _ (by first | exact B0 | (repeat (first | exact Below.refl _ _ | refine Below.alloc ?_ (by simp <;> omega) _)))).2)).mono ?_
  rintro e w1 ⟨rfl, hb1⟩
  have B1 : Below w.heap.size w w1 := bnext (by first | exact B0 | (repeat (first | exact Below.refl _ _ | refine Below.alloc ?_ (by simp <;> omega) _))) hb1
  obtain ⟨q1, p1⟩ := bcell hb1
  have z1 := hb1.size
  try simp only [World.size_alloc] at z1
  have q1a := fun o => q1 w.heap.size o (by omega)
  have q1b := fun o => q1 (w.heap.size + 1) o (by omega)
  by_cases h1 : x.memos = y.memos
  case neg =>
    have H := Lib.hid (show decide (x = y) = false by simp only [decide_eq_false_iff_not]; intro e; exact h1 (by rw [e]))
    rw [decide_eq_false h1]
    clear h1
    go_wp2
    go_ret
    exact ⟨ret_bool (by first | exact H.out.symm | rfl), by exact B1⟩
  rw [decide_eq_true h1]
  have H1 := Lib.hid h1
  clear h1
  by_cases h2 : x.fr = y.fr
  case neg =>
    have t2 : (x.fr != y.fr) = true := by rw [bne_iff_ne]; exact h2
    have H := Lib.hid (show decide (x = y) = false by simp only [decide_eq_false_iff_not]; intro e; exact h2 (by rw [e]))
    clear h2
    go_wp2
    go_ret
    exact ⟨ret_bool (by first | exact H.out.symm | rfl), by exact B1⟩
  have t2 : (x.fr != y.fr) = false := by simp [h2]
  have H2 := Lib.hid h2
  clear h2
  have H := Lib.hid (show decide (x = y) = true by
    simp only [decide_eq_true_eq]
    have hh := And.intro H0.out (And.intro H1.out H2.out)
    obtain ⟨e0, e1, e2⟩ := hh
    cases x
    cases y
    simp only at e0 e1 e2
    subst e0 e1 e2
    rfl)
  go_wp2
  go_ret
  exact ⟨ret_bool (by first | exact H.out.symm | rfl), by exact B1⟩

theorem szDesk_own (x : Desk) (s : (Sl × Sl) × Sl) (left : Int) (w : World) (h0 : 0 ≤ left) (h1 : left ≤ 2000000) (hw : wfDesk x) (h : deskD.rd w w.heap.size x s) :
    Calls Tryz.prog 6 #[deskW x s, .int .i64 left] w (SzPost left (cntDesk x) w) := by
  have hbx : ∀ W, Below w.heap.size w W → deskD.rd W W.heap.size x s := fun W hW => deskD.rd_more (deskD.rd_below h hW) hW.size
  go_enter Tryz.func6, Tryz.ntmps6
  go_wp2_with fail
  refine (szYard_own x.yard s.1 left _ (by omega) (by omega) hw.1 ((hbx _ (by repeat (first | exact Below.refl _ _ | refine Below.alloc ?_ (by simp <;> omega) _))).1)).mono ?_
  rintro e w0 ⟨r0, rfl, hr0, hb0⟩
  have B0 : Below w.heap.size w w0 := bnext (by repeat (first | exact Below.refl _ _ | refine Below.alloc ?_ (by simp <;> omega) _)) hb0
  obtain ⟨q0, p0⟩ := bcell hb0
  rcases hr0 with rfl | ⟨y0, z0⟩
  · go_wp2
    go_ret
    exact ⟨-1, rfl, .inl rfl, B0⟩
  go_wp2_with fail
  refine (szMemoS_own x.memos s.2 r0 _ (by omega) (by omega) hw.2.1 ((hbx _ B0).2)).mono ?_
  rintro e w1 ⟨r1, rfl, hr1, hb1⟩
  have B1 : Below w.heap.size w w1 := bnext B0 hb1
  obtain ⟨q1, p1⟩ := bcell hb1
  rcases hr1 with rfl | ⟨y1, z1⟩
  · go_wp2
    go_ret
    exact ⟨-1, rfl, .inl rfl, B1⟩
  go_wp2
  go_ret
  exact ⟨_, rfl, .inr ⟨by omega, by unfold cntDesk; omega⟩, B1⟩
end Go.Proofs.YtjobmbjadpldfaaGreat
end
section
namespace Go.Proofs.YtjobmbjadpldfaaGreat
open Go.RowKit
set_option maxRecDepth 100000
set_option maxHeartbeats 1000000
set_option linter.unusedVariables false
set_option linter.unusedSimpArgs false

structure Follower where
  yard : Yard
  seq : Int
deriving DecidableEq, Inhabited

@[go_sem] abbrev followerW (x : Follower) (s : (Sl × Sl)) : Value := .agg #[.int .i64 x.yard.now, .int .i64 x.yard.seq, .slice s.1.a s.1.n s.1.c, .slice s.2.a s.2.n s.2.c, .int .i64 x.seq]
abbrev followerD : Dt Follower := Dt.via yardD (·.yard) (fun q => [.int .i64 q.1.yard.now, .int .i64 q.1.yard.seq, .slice q.2.1.a q.2.1.n q.2.1.c, .slice q.2.2.a q.2.2.n q.2.2.c, .int .i64 q.1.seq]) 5 (fun _ => rfl) (fun q u hu => by simp at hu; rcases hu with rfl | rfl | rfl | rfl | rfl <;> rfl)
/-- all lengths in it together -/
def cntFollower (x : Follower) : Nat := cntYard x.yard
/-- ints are int64, lengths are what a machine holds -/
def wfFollower (x : Follower) : Prop := wfYard x.yard ∧ Wf x.seq
def numFollower (x : Follower) : Nat := 3 + numL numEntryS x.yard.shelf + numL numRun x.yard.runs
/-- with the marks from k on -/
def mkFollower (k : Int) (x : Follower) : Follower := ⟨⟨k, k + 1, mkL mkEntryS numEntryS (k + 1 + 1) x.yard.shelf, mkL mkRun numRun (k + 1 + 1 + (numL numEntryS x.yard.shelf : Nat)) x.yard.runs⟩, k + 1 + 1 + (numL numEntryS x.yard.shelf : Nat) + (numL numRun x.yard.runs : Nat)⟩
theorem numFollower_le (x : Follower) : numFollower x ≤ 13 * (cntFollower x + 1) := by
  have h0 := numL_le (num := numEntryS) (cnt := cntEntryS) (K := 13) numEntryS_le x.yard.shelf
  have h1 := numL_le (num := numRun) (cnt := cntRun) (K := 13) numRun_le x.yard.runs
  unfold numFollower cntFollower cntYard
  omega

theorem eqFollower_own (x y : Follower) (s r : (Sl × Sl)) (w : World) (hl : cntFollower x ≤ 2000000) (hl' : cntFollower y ≤ 2000000) (h : followerD.rd w w.heap.size x s) (h' : followerD.rd w w.heap.size y r) :
    Calls Tryz.prog 15 #[followerW x s, followerW y r] w fun e w' => e = .returned (.bool (decide (x = y))) ∧ Below w.heap.size w w' := by
  have hbx : ∀ W, Below w.heap.size w W → followerD.rd W W.heap.size x s := fun W hW => followerD.rd_more (followerD.rd_below h hW) hW.size
  have hby : ∀ W, Below w.heap.size w W → followerD.rd W W.heap.size y r := fun W hW => followerD.rd_more (followerD.rd_below h' hW) hW.size
  go_enter Tryz.func15, Tryz.ntmps15
  go_wp2_with fail
  refine (eqYard_own x.yard y.yard s r _ (by unfold cntFollower at hl; omega) (by unfold cntFollower at hl'; omega) ((hbx _ (by repeat (first | exact Below.refl _ _ | refine Below.alloc ?_ (by simp <;> omega) _)))) ((hby _ (by repeat (first | exact Below.refl _ _ | refine Below.alloc ?_ (by simp <;> omega) _))))).mono ?_
  rintro e w0 ⟨rfl, hb0⟩
  have B0 : Below w.heap.size w w0 := bnext (by repeat (first | exact Below.refl _ _ | refine Below.alloc ?_ (by simp <;> omega) _)) hb0
  obtain ⟨q0, p0⟩ := bcell hb0
  by_cases h0 : x.yard = y.yard
  case neg =>
    have H := Lib.hid (show decide (x = y) = false by simp only [decide_eq_false_iff_not]; intro e; exact h0 (by rw [e]))
    rw [decide_eq_false h0]
    clear h0
    go_wp2
    go_ret
    exact ⟨ret_bool (by first | exact H.out.symm | rfl), by exact B0⟩
  rw [decide_eq_true h0]
  have H0 := Lib.hid h0
  clear h0
  by_cases h1 : x.seq = y.seq
  case neg =>
    have t1 : (x.seq != y.seq) = true := by rw [bne_iff_ne]; exact h1
    have H := Lib.hid (show decide (x = y) = false by simp only [decide_eq_false_iff_not]; intro e; exact h1 (by rw [e]))
    clear h1
    go_wp2
    go_ret
    exact ⟨ret_bool (by first | exact H.out.symm | rfl), by exact B0⟩
  have t1 : (x.seq != y.seq) = false := by simp [h1]
  have H1 := Lib.hid h1
  clear h1
  have H := Lib.hid (show decide (x = y) = true by
    simp only [decide_eq_true_eq]
    have hh := And.intro H0.out H1.out
    obtain ⟨e0, e1⟩ := hh
    cases x
    cases y
    simp only at e0 e1
    subst e0 e1
    rfl)
  go_wp2
  go_ret
  exact ⟨ret_bool (by first | exact H.out.symm | rfl), by exact B0⟩

end Go.Proofs.YtjobmbjadpldfaaGreat
end
section
namespace Go.Proofs.YtjobmbjadpldfaaGreat
open Go.RowKit
set_option maxRecDepth 100000
set_option maxHeartbeats 1000000
set_option linter.unusedVariables false
set_option linter.unusedSimpArgs false

structure Engine where
  yard : Yard
  disk : Disk
  next : Int
  calls : Int
  waits : List Wait
  state : Int
  broken : Bool
deriving DecidableEq, Inhabited

@[go_sem] abbrev engineW (x : Engine) (s : (Sl × Sl) × Sl × Sl) : Value := .agg #[.int .i64 x.yard.now, .int .i64 x.yard.seq, .slice s.1.1.a s.1.1.n s.1.1.c, .slice s.1.2.a s.1.2.n s.1.2.c, .slice s.2.1.a s.2.1.n s.2.1.c, .int .i64 x.next, .int .i64 x.calls, .slice s.2.2.a s.2.2.n s.2.2.c, .int .i64 x.state, .bool x.broken]
abbrev engine2D : Dt (Disk × List Wait) := Dt.two diskD (Dt.list waitD) (·.1) (·.2) (fun _ => []) 0 (fun _ => rfl) (fun _ _ h => by cases h)
abbrev engineD : Dt Engine := Dt.two yardD engine2D (·.yard) (fun x => (x.disk, x.waits)) (fun q => [.int .i64 q.1.yard.now, .int .i64 q.1.yard.seq, .slice q.2.1.1.a q.2.1.1.n q.2.1.1.c, .slice q.2.1.2.a q.2.1.2.n q.2.1.2.c, .slice q.2.2.1.a q.2.2.1.n q.2.2.1.c, .int .i64 q.1.next, .int .i64 q.1.calls, .slice q.2.2.2.a q.2.2.2.n q.2.2.2.c, .int .i64 q.1.state, .bool q.1.broken]) 10 (fun _ => rfl) (fun q u hu => by simp at hu; rcases hu with rfl | rfl | rfl | rfl | rfl | rfl | rfl | rfl | rfl | rfl <;> rfl)
/-- all lengths in it together -/
def cntEngine (x : Engine) : Nat := cntYard x.yard + cntDisk x.disk + cntL cntWait x.waits
/-- ints are int64, lengths are what a machine holds -/
def wfEngine (x : Engine) : Prop := wfYard x.yard ∧ wfDisk x.disk ∧ Wf x.next ∧ Wf x.calls ∧ wfL wfWait x.waits ∧ Wf x.state

end Go.Proofs.YtjobmbjadpldfaaGreat
end
section
namespace Go.Proofs.YtjobmbjadpldfaaGreat
open Go.RowKit
set_option maxRecDepth 100000

/-- is it so? -/
noncomputable def tf (p : Prop) : Bool := @decide p (Classical.propDecidable p)
theorem tf_true {p : Prop} (h : p) : tf p = true := by unfold tf; exact @decide_eq_true p (Classical.propDecidable p) h
theorem tf_false {p : Prop} (h : ¬ p) : tf p = false := by unfold tf; exact @decide_eq_false p (Classical.propDecidable p) h
theorem tf_iff {p : Prop} : tf p = true ↔ p := by
  constructor
  · intro h
    by_cases hp : p
    · exact hp
    · rw [tf_false hp] at h; cases h
  · exact tf_true
theorem tf_congr {p q : Prop} (h : p ↔ q) : tf p = tf q := by
  by_cases hp : p
  · rw [tf_true hp, tf_true (h.1 hp)]
  · rw [tf_false hp, tf_false (fun hq => hp (h.2 hq))]
theorem tf_not {p : Prop} : tf (¬ p) = !tf p := by
  by_cases hp : p
  · rw [tf_true hp, tf_false (fun h => h hp)]; rfl
  · rw [tf_false hp, tf_true hp]; rfl

def aheadE (a b : Entry) : Bool := decide (b.prio < a.prio) || ((a.prio == b.prio) && decide (a.seq < b.seq))
def shelfP (l : List Entry) : Prop := l.length ≤ 80 ∧ ∀ i (h : i + 1 < l.length), aheadE l[i] l[i + 1] = true

def taskAt (r : Run) (k : Nat) : Task := r.tasks.getD k ⟨0, 0, 0, 0⟩
theorem taskAt_get {r : Run} {k : Nat} (h : k < r.tasks.length) : taskAt r k = r.tasks[k] := by unfold taskAt; rw [List.getD_eq_getElem?_getD, List.getElem?_eq_getElem h]; rfl
/-- of these tasks, those that are not done -/
def openIn (r : Run) (l : List Nat) : Nat := (l.filter fun b => (taskAt r b).state != 4).length
def needOf (r : Run) (t : Nat) : Nat := openIn r (beforeL (esOf r.plan) r.plan.tasks.toNat t)
theorem openIn_le (r : Run) (l : List Nat) : openIn r l ≤ l.length := List.length_filter_le _ _
theorem openIn_yes {r : Run} {l : List Nat} {k : Nat} (hk : k < l.length) (h : (taskAt r l[k]).state ≠ 4) : openIn r (l.take (k + 1)) = openIn r (l.take k) + 1 := by
  unfold openIn
  rw [take_snoc l k hk, List.filter_append, List.length_append, List.filter_cons, if_pos (by simpa using h)]
  rfl
theorem openIn_no {r : Run} {l : List Nat} {k : Nat} (hk : k < l.length) (h : (taskAt r l[k]).state = 4) : openIn r (l.take (k + 1)) = openIn r (l.take k) := by
  unfold openIn
  rw [take_snoc l k hk, List.filter_append, List.length_append, List.filter_cons, if_neg (by simp [h])]
  rfl
/-- a task is right, of which N are waited for -/
def taskQ (x : Task) (N : Nat) (most : Int) : Prop :=
  (1 ≤ x.state ∧ x.state ≤ 6) ∧ x.need = N ∧ (0 ≤ x.try_ ∧ x.try_ ≤ most) ∧ (x.state = 3 → 1 ≤ x.until_ ∧ x.until_ ≤ 1000000000) ∧ (x.state ≠ 3 → x.until_ = 0) ∧
  (x.state = 1 → 0 < x.need) ∧ (x.state = 2 → x.need = 0 ∧ x.try_ < most) ∧ (x.state = 3 ∨ x.state = 4 ∨ x.state = 5 → x.need = 0 ∧ 1 ≤ x.try_)
/-- a task of a run is right -/
def taskP (r : Run) (t : Nat) : Prop := taskQ (taskAt r t) (needOf r t) r.plan.most
/-- how many tasks are in a state -/
def cntS (l : List Task) (s : Int) : Nat := (l.filter fun x => x.state == s).length
abbrev cntSt (r : Run) (s : Int) : Nat := cntS r.tasks s
theorem cntS_le (l : List Task) (s : Int) : cntS l s ≤ l.length := List.length_filter_le _ _
theorem cntS_snoc (l : List Task) (x : Task) (s : Int) : cntS (l ++ [x]) s = cntS l s + if x.state = s then 1 else 0 := by
  unfold cntS
  rw [List.filter_append, List.length_append]
  congr 1
  by_cases h : x.state = s <;> simp [h]
theorem cntS_yes {l : List Task} {s : Int} {k : Nat} (hk : k < l.length) (h : l[k].state = s) : cntS (l.take (k + 1)) s = cntS (l.take k) s + 1 := by
  rw [take_snoc l k hk, cntS_snoc, if_pos h]
theorem cntS_no {l : List Task} {s : Int} {k : Nat} (hk : k < l.length) (h : ¬ l[k].state = s) : cntS (l.take (k + 1)) s = cntS (l.take k) s := by
  rw [take_snoc l k hk, cntS_snoc, if_neg h, Nat.add_zero]
def restOf (l : List Task) : Nat := cntS l 1 + cntS l 2 + cntS l 3
theorem cntS_all {l : List Task} (h : ∀ x ∈ l, 1 ≤ x.state ∧ x.state ≤ 6) : restOf l + cntS l 4 + cntS l 5 + cntS l 6 = l.length := by
  unfold restOf
  induction l with
  | nil => rfl
  | cons x l ih =>
    have h1 := ih (fun y hy => h y (List.mem_cons_of_mem _ hy))
    have hx := h x (List.mem_cons_self ..)
    have hc : ∀ s, cntS (x :: l) s = (if x.state = s then 1 else 0) + cntS l s := by
      intro s
      unfold cntS
      by_cases h : x.state = s <;> simp [h]
      omega
    simp only [hc, List.length_cons]
    rcases (show x.state = 1 ∨ x.state = 2 ∨ x.state = 3 ∨ x.state = 4 ∨ x.state = 5 ∨ x.state = 6 by omega) with e | e | e | e | e | e <;> simp [e] <;> omega
/-- what the state of a run has to be; 0 when its tasks fit none -/
def stL (l : List Task) : Int :=
  if cntS l 4 = l.length then 2 else if cntS l 5 = 1 ∧ restOf l = 0 then 3 else if cntS l 5 = 0 ∧ 0 < cntS l 6 ∧ restOf l = 0 then 4 else if cntS l 5 = 0 ∧ cntS l 6 = 0 then 1 else 0
/-- a run is right -/
def runP (r : Run) : Prop :=
  (1 ≤ r.id ∧ r.id ≤ 9999) ∧ planFault r.plan = 0 ∧ (r.tasks.length : Int) = r.plan.tasks ∧ (∀ t, t < r.tasks.length → taskP r t) ∧ r.state = stL r.tasks ∧ r.state ≠ 0

def entriesOf (y : Yard) : List Entry := y.shelf.flatten
def runK (y : Yard) (id : Int) : Run := y.runs.getD (runAt y id).toNat ⟨0, ⟨0, 0, 0, 0, []⟩, 0, []⟩
theorem runK_get {y : Yard} {id : Int} {k : Nat} (hk : k < y.runs.length) (h : runAt y id = k) : runK y id = y.runs[k] := by
  unfold runK
  rw [h, Int.toNat_natCast, List.getD_eq_getElem?_getD, List.getElem?_eq_getElem hk]
  rfl
/-- the entry's task stands ready -/
def freshP (y : Yard) (e : Entry) : Prop := 0 ≤ runAt y e.run ∧ (0 ≤ e.task ∧ e.task < (runK y e.run).tasks.length) ∧ (taskAt (runK y e.run) e.task.toNat).state = 2
noncomputable def freshB (y : Yard) (e : Entry) : Bool := tf (freshP y e)
def slotsR (l : List Run) : Nat := ((l.filter fun r => r.state == 1).map fun r => r.tasks.length).sum
noncomputable def staleN (y : Yard) (l : List Entry) : Nat := (l.filter fun e => !freshB y e).length
noncomputable def slotsOf (y : Yard) : Nat := slotsR y.runs + staleN y (entriesOf y)
def mineE (id : Int) (t : Nat) (e : Entry) : Bool := (e.run == id) && (e.task == (t : Int))
def mineN (id : Int) (t : Nat) (l : List Entry) : Nat := (l.filter (mineE id t)).length
/-- a task of a run stands in the yard as it should -/
def laidP (now : Int) (r : Run) (es : List Entry) (t : Nat) : Prop :=
  ((taskAt r t).state = 2 → (∀ e ∈ es, mineE r.id t e = true → e.prio = r.plan.prio) ∧ mineN r.id t es = 1) ∧ ((taskAt r t).state = 3 → now + 1 ≤ (taskAt r t).until_ ∧ (taskAt r t).until_ ≤ now + r.plan.wait)
def standP (now : Int) (r : Run) (es : List Entry) : Prop := ∀ t, t < r.tasks.length → laidP now r es t
def yardP (y : Yard) : Prop :=
  (0 ≤ y.now ∧ y.now ≤ 999999980) ∧ (1 ≤ y.seq ∧ y.seq ≤ 1000000000) ∧ y.shelf.length = 4 ∧ (∀ l ∈ y.shelf, shelfP l) ∧ (∀ e ∈ entriesOf y, 1 ≤ e.seq ∧ e.seq ≤ y.seq - 1) ∧ ((entriesOf y).map (·.seq)).Nodup ∧
  y.runs.length ≤ 8 ∧ (∀ k (h : k < y.runs.length), runP y.runs[k] ∧ runAt y y.runs[k].id = k) ∧ (∀ r ∈ y.runs, standP y.now r (entriesOf y)) ∧ slotsOf y ≤ 40

theorem staleN_yes {y : Yard} {l : List Entry} {k : Nat} (hk : k < l.length) (h : freshB y l[k] = false) : staleN y (l.take (k + 1)) = staleN y (l.take k) + 1 := by
  unfold staleN
  rw [take_snoc l k hk, List.filter_append, List.length_append, List.filter_cons, if_pos (by simp [h])]
  rfl
theorem staleN_no {y : Yard} {l : List Entry} {k : Nat} (hk : k < l.length) (h : freshB y l[k] = true) : staleN y (l.take (k + 1)) = staleN y (l.take k) := by
  unfold staleN
  rw [take_snoc l k hk, List.filter_append, List.length_append, List.filter_cons, if_neg (by simp [h])]
  rfl
theorem staleN_le (y : Yard) (l : List Entry) : staleN y l ≤ l.length := List.length_filter_le _ _
theorem staleN_append (y : Yard) (l l' : List Entry) : staleN y (l ++ l') = staleN y l + staleN y l' := by
  unfold staleN
  rw [List.filter_append, List.length_append]
theorem mineN_yes {id : Int} {t : Nat} {l : List Entry} {k : Nat} (hk : k < l.length) (h : mineE id t l[k] = true) : mineN id t (l.take (k + 1)) = mineN id t (l.take k) + 1 := by
  unfold mineN
  rw [take_snoc l k hk, List.filter_append, List.length_append, List.filter_cons, if_pos h]
  rfl
theorem mineN_no {id : Int} {t : Nat} {l : List Entry} {k : Nat} (hk : k < l.length) (h : mineE id t l[k] = false) : mineN id t (l.take (k + 1)) = mineN id t (l.take k) := by
  unfold mineN
  rw [take_snoc l k hk, List.filter_append, List.length_append, List.filter_cons, if_neg (by simp [h])]
  rfl
theorem mineN_le (id : Int) (t : Nat) (l : List Entry) : mineN id t l ≤ l.length := List.length_filter_le _ _
theorem slotsR_yes {l : List Run} {k : Nat} (hk : k < l.length) (h : l[k].state = 1) : slotsR (l.take (k + 1)) = slotsR (l.take k) + l[k].tasks.length := by
  unfold slotsR
  rw [take_snoc l k hk, List.filter_append, List.map_append, List.sum_append, List.filter_cons, if_pos (by simp [h])]
  simp
theorem slotsR_no {l : List Run} {k : Nat} (hk : k < l.length) (h : ¬ l[k].state = 1) : slotsR (l.take (k + 1)) = slotsR (l.take k) := by
  unfold slotsR
  rw [take_snoc l k hk, List.filter_append, List.map_append, List.sum_append, List.filter_cons, if_neg (by simp [h])]
  simp
theorem slotsR_le (l : List Run) : slotsR l ≤ (l.map fun r => r.tasks.length).sum := by
  unfold slotsR
  induction l with
  | nil => simp
  | cons r l ih =>
    rw [List.filter_cons]
    split
    · simp only [List.map_cons, List.sum_cons]; omega
    · simp only [List.map_cons, List.sum_cons]; omega
end Go.Proofs.YtjobmbjadpldfaaGreat
end
section
namespace Go.Proofs.YtjobmbjadpldfaaGreat
open Go.RowKit
set_option maxRecDepth 100000
set_option maxHeartbeats 400000
set_option linter.unusedVariables false
set_option linter.unusedSimpArgs false

theorem edge_rd {w : World} {B : Nat} {v : Value} {l : List Edge} (h : RdL edgeD w B v l) : Rd edgeE w B v l := by
  obtain ⟨rs, rfl, ⟨A, c, rfl, hc, hA⟩, _⟩ := h
  refine ⟨A, c, by rw [List.length_map], by rw [List.length_map]; exact hc, fun hl => ?_⟩
  rw [List.length_map] at hl
  obtain ⟨b, o, h1, h2, h3⟩ := hA hl
  refine ⟨b, o, h1, h2, fun k hk j u hu => ?_⟩
  rw [List.getElem_map] at hu
  exact h3 k (by rw [List.length_map] at hk; exact hk) j u hu
theorem edge_ows (w : World) : ∀ l : List Edge, Ows edgeD w [] (l.map fun x => (x, ()))
  | [] => .nil
  | x :: l => by
    have := Ows.cons (d := edgeD) (w := w) (F := []) (r := (x, ())) rfl (edge_ows w l)
    exact this
theorem edge_ow {w : World} {E : TypeId} {base : Nat} {v : Value} {l : List Edge} (h : Ow edgeE E w base v l) : ∃ (s : Sl) (F : List Nat), v = .slice s.a s.n s.c ∧ OwL edgeD w F s.v l ∧ ∀ b ∈ F, base ≤ b := by
  obtain ⟨h1, h2⟩ := Hw.of_ow h
  obtain ⟨⟨A, c, hv, hc, hA⟩, hF, hf⟩ := id h1
  subst hv
  refine ⟨⟨A, l.length, c⟩, _, rfl, ⟨l.map fun x => (x, ()), blocks (.slice A l.length c) l.length, [], by rw [List.map_map]; exact List.map_id _, ⟨⟨A, c, by rw [List.length_map], by rw [List.length_map]; exact hc, fun hl => ?_⟩, by rw [List.length_map], hf⟩, edge_ows w l, (List.append_nil _).symm, h1.nodup⟩, h2⟩
  rw [List.length_map] at hl
  obtain ⟨b, o, h3, h4, h5⟩ := hA hl
  refine ⟨b, o, h3, h4, fun k hk j u hu => ?_⟩
  rw [List.getElem_map] at hu
  exact h5 k (by rw [List.length_map] at hk; exact hk) j u hu

theorem plan_own_of {x : Plan} {w : World} {e : Ending} {w' : World} (h : ToPlanPost x w e w') : OwnPost planD planW x w e w' := by
  obtain ⟨v, rfl, h1, h2⟩ := h
  obtain ⟨s, F, rfl, h3, h4⟩ := edge_ow h1
  exact ⟨s, F, rfl, h3, h4, h2⟩
theorem implCopyPlan_own (x : Plan) (s : Sl) (w : World) (hl : cntPlan x ≤ 2000000) (h : planD.rd w w.heap.size x s) :
    Calls Tryz.prog 100 #[planW x s] w (OwnPost planD planW x w) :=
  (implCopy_any x s.v w (Nat.le_trans (cntL_len _ _) hl) (edge_rd h)).mono fun _ _ => plan_own_of
theorem specCopyPlan_own (x : Plan) (s : Sl) (w : World) (hl : cntPlan x ≤ 2000000) (h : planD.rd w w.heap.size x s) :
    Calls Tryz.prog 96 #[planW x s] w (OwnPost planD planW x w) :=
  (specCopy_any x s.v w (Nat.le_trans (cntL_len _ _) hl) (edge_rd h)).mono fun _ _ => plan_own_of

theorem Bld.push1 {α : Type} {d : Dt α} {E : TypeId} {w w1 w2 w5 : World} {base : Nat} {v v5 : Value} {rs : List (α × d.S)} {x : α} {s : d.S} {F : List Nat} (h : Bld d E w base v rs) (hb : Below w.heap.size w w1) (o1 : d.ow w1 F x s) (n1 : ∀ b ∈ F, w.heap.size ≤ b)
    (hbase : base ≤ w.heap.size) (hb2 : Below w1.heap.size w1 w2) (o5 : Ow d.enc E w5 base v5 (rs ++ [(x, s)])) (g5 : w2.grownBy w5 v.ownBlock) (f5 : v5.ownBlock = v.ownBlock ∨ v5.ownBlock = some w2.heap.size) : Bld d E w5 base v5 (rs ++ [(x, s)]) := by
  refine Bld.push h (bnext hb hb2) (Ows.one (r := (x, s)) (d.ow_below o1 hb2)) n1 (d.ow_nodup o1) hbase o5 g5 ?_
  rcases f5 with f5 | f5
  · exact .inl f5
  · exact .inr ⟨_, f5, Nat.le_refl _⟩
/-- a list under building -/
def Bls {α : Type} (d : Dt α) (E : TypeId) (w : World) (base : Nat) (v : Value) (l : List α) : Prop := ∃ rs, rs.map (·.1) = l ∧ Bld d E w base v rs
theorem Bls.own {α : Type} {d : Dt α} {E : TypeId} {w w' : World} {v : Value} {l : List α} (h : Bls d E w' w.heap.size v l) (hb : Below w.heap.size w w') : OwnPost (Dt.list d) slV l w (.returned v) w' := by
  obtain ⟨rs, hm, hB⟩ := h
  obtain ⟨F, h1, h2⟩ := hB.owl hm
  obtain ⟨A, c, rfl, _⟩ := h1.form
  exact ⟨⟨A, l.length, c⟩, F, rfl, h1, h2, hb⟩
end Go.Proofs.YtjobmbjadpldfaaGreat
end
section
namespace Go.Proofs.YtjobmbjadpldfaaGreat
open Go.RowKit
set_option maxRecDepth 100000
set_option maxHeartbeats 1000000
set_option linter.unusedVariables false
set_option linter.unusedSimpArgs false

def nvYard (x : Yard) : Nat := numL numEntryS x.shelf + numL numRun x.runs
def mvYard (k : Int) (x : Yard) : Yard := ⟨x.now, x.seq, (mkL mkEntryS numEntryS k x.shelf), (mkL mkRun numRun (k + (numL numEntryS x.shelf : Nat)) x.runs)⟩
theorem nvYard_le (x : Yard) : nvYard x ≤ 13 * cntYard x := by
  have h0 := numL_le (num := numEntryS) (cnt := cntEntryS) (K := 13) numEntryS_le x.shelf
  have h1 := numL_le (num := numRun) (cnt := cntRun) (K := 13) numRun_le x.runs
  unfold nvYard cntYard
  omega

theorem markYard_own (x : Yard) (s : Sl × Sl) (F : List Nat) (k : Int) (w : World) (hl : cntYard x ≤ 2000000) (hk0 : 0 ≤ k) (hk1 : k ≤ 100000000) (h : yardD.ow w F x s) :
    Calls Tryz.prog 17 #[yardW x s, .int .i64 k] w (MkPost yardD F (mvYard k x) s (k + (nvYard x : Nat)) w) := by
  have hF := yardD.ow_lt h
  have D := DBox.new 34 [.int .i64 x.now, .int .i64 x.seq, .slice s.1.a s.1.n s.1.c, .slice s.2.a s.2.n s.2.c] w rfl
  have B0 : Below w.heap.size w (w.alloc (.cells #[.int .i64 x.now, .int .i64 x.seq, .slice s.1.a s.1.n s.1.c, .slice s.2.a s.2.n s.2.c] 34)) := (Below.refl _ _).alloc (Nat.le_refl _) _
  have n0 : numL numEntryS x.shelf ≤ 13 * (cntL cntEntryS x.shelf) := numL_le (num := numEntryS) (cnt := cntEntryS) (K := 13) numEntryS_le x.shelf
  have n1 : numL numRun x.runs ≤ 13 * (cntL cntRun x.runs) := numL_le (num := numRun) (cnt := cntRun) (K := 13) numRun_le x.runs
  have hcs : cntL cntEntryS x.shelf ≤ 2000000 ∧ cntL cntRun x.runs ≤ 2000000 := by unfold cntYard at hl; omega
  go_enter Tryz.func17, Tryz.ntmps17
  go_wp2_with fail
  generalize (w.alloc (.cells #[.int .i64 x.now, .int .i64 x.seq, .slice s.1.a s.1.n s.1.c, .slice s.2.a s.2.n s.2.c] 34)) = w0 at *
  have C0 := Chg.of_below F B0
  obtain ⟨F1, F2, rfl, hn, o1, o2⟩ := h
  have hap := nodup_apart hn
  have o1 := OwL.below o1 B0
  have o2 := OwL.below o2 B0
  refine (markEntrySS_own x.shelf s.1 F1 k w0 hcs.1 (by omega) (by omega) o1).mono ?_
  rintro e w1 ⟨rfl, m1, g1⟩
  replace D := D.chg g1 (fun hx => by have := hF _ (List.mem_append_left _ hx); omega)
  replace o2 := OwL.chg o2 g1 hap.2
  have c0 : w1.cell? ⟨w.heap.size, 0, none⟩ = some (.int .i64 x.now) := D.cell 0 _ rfl
  have c1 : w1.cell? ⟨w.heap.size, 1, none⟩ = some (.int .i64 x.seq) := D.cell 1 _ rfl
  have c2 : w1.cell? ⟨w.heap.size, 2, none⟩ = some (.slice s.1.a s.1.n s.1.c) := D.cell 2 _ rfl
  have c3 : w1.cell? ⟨w.heap.size, 3, none⟩ = some (.slice s.2.a s.2.n s.2.c) := D.cell 3 _ rfl
  go_wp2_with fail
  refine (markRunS_own x.runs s.2 F2 (k + (numL numEntryS x.shelf : Nat)) w1 hcs.2 (by omega) (by omega) o2).mono ?_
  rintro e w2 ⟨rfl, m2, g2⟩
  replace D := D.chg g2 (fun hx => by have := hF _ (List.mem_append_right _ hx); omega)
  replace m1 := OwL.chg m1 g2 hap.1
  go_wp2
  go_ret
  refine ⟨ret_int (by unfold nvYard; push_cast; omega), ?_, ?_⟩
  · exact ⟨F1, F2, rfl, hn, m1, m2⟩
  · exact (C0.trans (g1.mono (fun x hx => List.mem_append_left _ hx))).trans (g2.mono (fun x hx => List.mem_append_right _ hx))

theorem heldYard_own (x : Yard) (s : Sl × Sl) (k : Int) (w : World) (hl : cntYard x ≤ 2000000) (hk0 : 0 ≤ k) (hk1 : k ≤ 100000000) (h : yardD.rd w w.heap.size (mvYard k x) s) :
    Calls Tryz.prog 42 #[yardW x s, .int .i64 k] w fun e w' => e = .returned (.int .i64 (k + (nvYard x : Nat))) ∧ Below w.heap.size w w' := by
  have hbx : ∀ W, Below w.heap.size w W → yardD.rd W W.heap.size (mvYard k x) s := fun W hW => yardD.rd_more (yardD.rd_below h hW) hW.size
  have D := DBox.new 34 [.int .i64 x.now, .int .i64 x.seq, .slice s.1.a s.1.n s.1.c, .slice s.2.a s.2.n s.2.c] w rfl
  have B0 : Below w.heap.size w (w.alloc (.cells #[.int .i64 x.now, .int .i64 x.seq, .slice s.1.a s.1.n s.1.c, .slice s.2.a s.2.n s.2.c] 34)) := (Below.refl _ _).alloc (Nat.le_refl _) _
  have n0 : numL numEntryS x.shelf ≤ 13 * (cntL cntEntryS x.shelf) := numL_le (num := numEntryS) (cnt := cntEntryS) (K := 13) numEntryS_le x.shelf
  have n1 : numL numRun x.runs ≤ 13 * (cntL cntRun x.runs) := numL_le (num := numRun) (cnt := cntRun) (K := 13) numRun_le x.runs
  have hcs : cntL cntEntryS x.shelf ≤ 2000000 ∧ cntL cntRun x.runs ≤ 2000000 := by unfold cntYard at hl; omega
  go_enter Tryz.func42, Tryz.ntmps42
  go_wp2_with fail
  generalize (w.alloc (.cells #[.int .i64 x.now, .int .i64 x.seq, .slice s.1.a s.1.n s.1.c, .slice s.2.a s.2.n s.2.c] 34)) = w0 at *
  refine (heldEntrySS_own x.shelf s.1 k w0 hcs.1 (by omega) (by omega) ((hbx _ B0).1)).mono ?_
  rintro e w1 ⟨rfl, bw1⟩
  replace D := D.below bw1
  replace B0 := bnext B0 bw1
  have c0 : w1.cell? ⟨w.heap.size, 0, none⟩ = some (.int .i64 x.now) := D.cell 0 _ rfl
  have c1 : w1.cell? ⟨w.heap.size, 1, none⟩ = some (.int .i64 x.seq) := D.cell 1 _ rfl
  have c2 : w1.cell? ⟨w.heap.size, 2, none⟩ = some (.slice s.1.a s.1.n s.1.c) := D.cell 2 _ rfl
  have c3 : w1.cell? ⟨w.heap.size, 3, none⟩ = some (.slice s.2.a s.2.n s.2.c) := D.cell 3 _ rfl
  go_wp2_with fail
  refine (heldRunS_own x.runs s.2 (k + (numL numEntryS x.shelf : Nat)) w1 hcs.2 (by omega) (by omega) ((hbx _ B0).2)).mono ?_
  rintro e w2 ⟨rfl, bw2⟩
  replace D := D.below bw2
  replace B0 := bnext B0 bw2
  go_wp2
  go_ret
  exact ⟨ret_int (by unfold nvYard; push_cast; omega), B0⟩
def nvDesk (x : Desk) : Nat := nvYard x.yard + numL numMemo x.memos
def mvDesk (k : Int) (x : Desk) : Desk := ⟨(mvYard k x.yard), (mkL mkMemo numMemo (k + (nvYard x.yard : Nat)) x.memos), x.fr⟩
theorem nvDesk_le (x : Desk) : nvDesk x ≤ 13 * cntDesk x := by
  have h0 := nvYard_le x.yard
  have h1 := numL_le (num := numMemo) (cnt := cntMemo) (K := 13) numMemo_le x.memos
  unfold nvDesk cntDesk
  omega

theorem markDesk_own (x : Desk) (s : (Sl × Sl) × Sl) (F : List Nat) (k : Int) (w : World) (hl : cntDesk x ≤ 2000000) (hk0 : 0 ≤ k) (hk1 : k ≤ 100000000) (h : deskD.ow w F x s) :
    Calls Tryz.prog 22 #[deskW x s, .int .i64 k] w (MkPost deskD F (mvDesk k x) s (k + (nvDesk x : Nat)) w) := by
  have hF := deskD.ow_lt h
  have D := DBox.new 37 [.int .i64 x.yard.now, .int .i64 x.yard.seq, .slice s.1.1.a s.1.1.n s.1.1.c, .slice s.1.2.a s.1.2.n s.1.2.c, .slice s.2.a s.2.n s.2.c, .int .i64 x.fr] w rfl
  have B0 : Below w.heap.size w (w.alloc (.cells #[.int .i64 x.yard.now, .int .i64 x.yard.seq, .slice s.1.1.a s.1.1.n s.1.1.c, .slice s.1.2.a s.1.2.n s.1.2.c, .slice s.2.a s.2.n s.2.c, .int .i64 x.fr] 37)) := (Below.refl _ _).alloc (Nat.le_refl _) _
  have n0 : nvYard x.yard ≤ 13 * (cntYard x.yard) := nvYard_le x.yard
  have n1 : numL numMemo x.memos ≤ 13 * (cntL cntMemo x.memos) := numL_le (num := numMemo) (cnt := cntMemo) (K := 13) numMemo_le x.memos
  have hcs : cntYard x.yard ≤ 2000000 ∧ cntL cntMemo x.memos ≤ 2000000 := by unfold cntDesk at hl; omega
  go_enter Tryz.func22, Tryz.ntmps22
  go_wp2_with fail
  generalize (w.alloc (.cells #[.int .i64 x.yard.now, .int .i64 x.yard.seq, .slice s.1.1.a s.1.1.n s.1.1.c, .slice s.1.2.a s.1.2.n s.1.2.c, .slice s.2.a s.2.n s.2.c, .int .i64 x.fr] 37)) = w0 at *
  have C0 := Chg.of_below F B0
  obtain ⟨F1, F2, rfl, hn, o1, o2⟩ := h
  have hap := nodup_apart hn
  have o1 := yardD.ow_below o1 B0
  have o2 := OwL.below o2 B0
  refine (markYard_own x.yard s.1 F1 k w0 hcs.1 (by omega) (by omega) o1).mono ?_
  rintro e w1 ⟨rfl, m1, g1⟩
  replace D := D.chg g1 (fun hx => by have := hF _ (List.mem_append_left _ hx); omega)
  replace o2 := OwL.chg o2 g1 hap.2
  have c0 : w1.cell? ⟨w.heap.size, 0, none⟩ = some (.int .i64 x.yard.now) := D.cell 0 _ rfl
  have c1 : w1.cell? ⟨w.heap.size, 1, none⟩ = some (.int .i64 x.yard.seq) := D.cell 1 _ rfl
  have c2 : w1.cell? ⟨w.heap.size, 2, none⟩ = some (.slice s.1.1.a s.1.1.n s.1.1.c) := D.cell 2 _ rfl
  have c3 : w1.cell? ⟨w.heap.size, 3, none⟩ = some (.slice s.1.2.a s.1.2.n s.1.2.c) := D.cell 3 _ rfl
  have c4 : w1.cell? ⟨w.heap.size, 4, none⟩ = some (.slice s.2.a s.2.n s.2.c) := D.cell 4 _ rfl
  have c5 : w1.cell? ⟨w.heap.size, 5, none⟩ = some (.int .i64 x.fr) := D.cell 5 _ rfl
  go_wp2_with fail
  refine (markMemoS_own x.memos s.2 F2 (k + (nvYard x.yard : Nat)) w1 hcs.2 (by omega) (by omega) o2).mono ?_
  rintro e w2 ⟨rfl, m2, g2⟩
  replace D := D.chg g2 (fun hx => by have := hF _ (List.mem_append_right _ hx); omega)
  replace m1 := yardD.ow_chg m1 g2 hap.1
  go_wp2
  go_ret
  refine ⟨ret_int (by unfold nvDesk; push_cast; omega), ?_, ?_⟩
  · exact ⟨F1, F2, rfl, hn, m1, m2⟩
  · exact (C0.trans (g1.mono (fun x hx => List.mem_append_left _ hx))).trans (g2.mono (fun x hx => List.mem_append_right _ hx))

theorem heldDesk_own (x : Desk) (s : (Sl × Sl) × Sl) (k : Int) (w : World) (hl : cntDesk x ≤ 2000000) (hk0 : 0 ≤ k) (hk1 : k ≤ 100000000) (h : deskD.rd w w.heap.size (mvDesk k x) s) :
    Calls Tryz.prog 23 #[deskW x s, .int .i64 k] w fun e w' => e = .returned (.int .i64 (k + (nvDesk x : Nat))) ∧ Below w.heap.size w w' := by
  have hbx : ∀ W, Below w.heap.size w W → deskD.rd W W.heap.size (mvDesk k x) s := fun W hW => deskD.rd_more (deskD.rd_below h hW) hW.size
  have D := DBox.new 37 [.int .i64 x.yard.now, .int .i64 x.yard.seq, .slice s.1.1.a s.1.1.n s.1.1.c, .slice s.1.2.a s.1.2.n s.1.2.c, .slice s.2.a s.2.n s.2.c, .int .i64 x.fr] w rfl
  have B0 : Below w.heap.size w (w.alloc (.cells #[.int .i64 x.yard.now, .int .i64 x.yard.seq, .slice s.1.1.a s.1.1.n s.1.1.c, .slice s.1.2.a s.1.2.n s.1.2.c, .slice s.2.a s.2.n s.2.c, .int .i64 x.fr] 37)) := (Below.refl _ _).alloc (Nat.le_refl _) _
  have n0 : nvYard x.yard ≤ 13 * (cntYard x.yard) := nvYard_le x.yard
  have n1 : numL numMemo x.memos ≤ 13 * (cntL cntMemo x.memos) := numL_le (num := numMemo) (cnt := cntMemo) (K := 13) numMemo_le x.memos
  have hcs : cntYard x.yard ≤ 2000000 ∧ cntL cntMemo x.memos ≤ 2000000 := by unfold cntDesk at hl; omega
  go_enter Tryz.func23, Tryz.ntmps23
  go_wp2_with fail
  generalize (w.alloc (.cells #[.int .i64 x.yard.now, .int .i64 x.yard.seq, .slice s.1.1.a s.1.1.n s.1.1.c, .slice s.1.2.a s.1.2.n s.1.2.c, .slice s.2.a s.2.n s.2.c, .int .i64 x.fr] 37)) = w0 at *
  refine (heldYard_own x.yard s.1 k w0 hcs.1 (by omega) (by omega) ((hbx _ B0).1)).mono ?_
  rintro e w1 ⟨rfl, bw1⟩
  replace D := D.below bw1
  replace B0 := bnext B0 bw1
  have c0 : w1.cell? ⟨w.heap.size, 0, none⟩ = some (.int .i64 x.yard.now) := D.cell 0 _ rfl
  have c1 : w1.cell? ⟨w.heap.size, 1, none⟩ = some (.int .i64 x.yard.seq) := D.cell 1 _ rfl
  have c2 : w1.cell? ⟨w.heap.size, 2, none⟩ = some (.slice s.1.1.a s.1.1.n s.1.1.c) := D.cell 2 _ rfl
  have c3 : w1.cell? ⟨w.heap.size, 3, none⟩ = some (.slice s.1.2.a s.1.2.n s.1.2.c) := D.cell 3 _ rfl
  have c4 : w1.cell? ⟨w.heap.size, 4, none⟩ = some (.slice s.2.a s.2.n s.2.c) := D.cell 4 _ rfl
  have c5 : w1.cell? ⟨w.heap.size, 5, none⟩ = some (.int .i64 x.fr) := D.cell 5 _ rfl
  go_wp2_with fail
  refine (heldMemoS_own x.memos s.2 (k + (nvYard x.yard : Nat)) w1 hcs.2 (by omega) (by omega) ((hbx _ B0).2)).mono ?_
  rintro e w2 ⟨rfl, bw2⟩
  replace D := D.below bw2
  replace B0 := bnext B0 bw2
  go_wp2
  go_ret
  exact ⟨ret_int (by unfold nvDesk; push_cast; omega), B0⟩
def nvFollower (x : Follower) : Nat := nvYard x.yard
def mvFollower (k : Int) (x : Follower) : Follower := ⟨(mvYard k x.yard), x.seq⟩
theorem nvFollower_le (x : Follower) : nvFollower x ≤ 13 * cntFollower x := by
  have h0 := nvYard_le x.yard
  unfold nvFollower cntFollower
  omega

theorem markFollower_own (x : Follower) (s : (Sl × Sl)) (F : List Nat) (k : Int) (w : World) (hl : cntFollower x ≤ 2000000) (hk0 : 0 ≤ k) (hk1 : k ≤ 100000000) (h : followerD.ow w F x s) :
    Calls Tryz.prog 18 #[followerW x s, .int .i64 k] w (MkPost followerD F (mvFollower k x) s (k + (nvFollower x : Nat)) w) := by
  have hF := followerD.ow_lt h
  have D := DBox.new 43 [.int .i64 x.yard.now, .int .i64 x.yard.seq, .slice s.1.a s.1.n s.1.c, .slice s.2.a s.2.n s.2.c, .int .i64 x.seq] w rfl
  have B0 : Below w.heap.size w (w.alloc (.cells #[.int .i64 x.yard.now, .int .i64 x.yard.seq, .slice s.1.a s.1.n s.1.c, .slice s.2.a s.2.n s.2.c, .int .i64 x.seq] 43)) := (Below.refl _ _).alloc (Nat.le_refl _) _
  have n0 : nvYard x.yard ≤ 13 * (cntYard x.yard) := nvYard_le x.yard
  have hcs : cntYard x.yard ≤ 2000000 := by unfold cntFollower at hl; exact hl
  go_enter Tryz.func18, Tryz.ntmps18
  go_wp2_with fail
  generalize (w.alloc (.cells #[.int .i64 x.yard.now, .int .i64 x.yard.seq, .slice s.1.a s.1.n s.1.c, .slice s.2.a s.2.n s.2.c, .int .i64 x.seq] 43)) = w0 at *
  have C0 := Chg.of_below F B0
  have o1 := yardD.ow_below (show _ from h) B0
  refine (markYard_own x.yard s F k w0 hcs (by omega) (by omega) o1).mono ?_
  rintro e w1 ⟨rfl, m1, g1⟩
  replace D := D.chg g1 (fun hx => by have := hF _ hx; omega)
  go_wp2
  go_ret
  refine ⟨ret_int (by unfold nvFollower; push_cast; omega), ?_, ?_⟩
  · exact m1
  · exact C0.trans g1

theorem heldFollower_own (x : Follower) (s : (Sl × Sl)) (k : Int) (w : World) (hl : cntFollower x ≤ 2000000) (hk0 : 0 ≤ k) (hk1 : k ≤ 100000000) (h : followerD.rd w w.heap.size (mvFollower k x) s) :
    Calls Tryz.prog 19 #[followerW x s, .int .i64 k] w fun e w' => e = .returned (.int .i64 (k + (nvFollower x : Nat))) ∧ Below w.heap.size w w' := by
  have hbx : ∀ W, Below w.heap.size w W → followerD.rd W W.heap.size (mvFollower k x) s := fun W hW => followerD.rd_more (followerD.rd_below h hW) hW.size
  have D := DBox.new 43 [.int .i64 x.yard.now, .int .i64 x.yard.seq, .slice s.1.a s.1.n s.1.c, .slice s.2.a s.2.n s.2.c, .int .i64 x.seq] w rfl
  have B0 : Below w.heap.size w (w.alloc (.cells #[.int .i64 x.yard.now, .int .i64 x.yard.seq, .slice s.1.a s.1.n s.1.c, .slice s.2.a s.2.n s.2.c, .int .i64 x.seq] 43)) := (Below.refl _ _).alloc (Nat.le_refl _) _
  have n0 : nvYard x.yard ≤ 13 * (cntYard x.yard) := nvYard_le x.yard
  have hcs : cntYard x.yard ≤ 2000000 := by unfold cntFollower at hl; exact hl
  go_enter Tryz.func19, Tryz.ntmps19
  go_wp2_with fail
  generalize (w.alloc (.cells #[.int .i64 x.yard.now, .int .i64 x.yard.seq, .slice s.1.a s.1.n s.1.c, .slice s.2.a s.2.n s.2.c, .int .i64 x.seq] 43)) = w0 at *
  refine (heldYard_own x.yard s k w0 hcs (by omega) (by omega) (hbx _ B0)).mono ?_
  rintro e w1 ⟨rfl, bw1⟩
  replace D := D.below bw1
  replace B0 := bnext B0 bw1
  go_wp2
  go_ret
  exact ⟨ret_int (by unfold nvFollower; push_cast; omega), B0⟩
end Go.Proofs.YtjobmbjadpldfaaGreat
end
section
namespace Go.Proofs.YtjobmbjadpldfaaGreat
open Go.ChangeShapes Go.WideShapes Go.ChangeAt Go.RowKit Go.Deep
set_option maxRecDepth 100000
set_option linter.unusedVariables false
set_option linter.unusedSimpArgs false

theorem cells_int : Tryz.prog.cellsOf 3 = 1 := by kernel_rfl
theorem cells_strD : Tryz.prog.cellsOf 9 = 1 := by kernel_rfl
theorem cells_booD : Tryz.prog.cellsOf 4 = 1 := by kernel_rfl
section
variable {H : Type} {enc : TypeId × Value → H} {w : World} {spare : Nat → Bool} {held : Bool} {fuel : Nat} {cs : List Value} {x : DataW H × List MemPlace}
theorem cells_Edge : Tryz.prog.cellsOf 156 = 2 := by kernel_rfl
theorem read_Edge (h : DataW.trod enc Tryz.prog w 0 spare held fuel 156 cs = some x) : ∃ (p : Edge) (_s : Unit), cs = [.int .i64 p.fr, .int .i64 p.to] ∧ edgeD.rd w w.heap.size p _s ∧ wfEdge p := by
  obtain ⟨xs, n', _, _, hlen, hxl, hf⟩ := DataW.trod_struct Tryz.underlying156 h
  rw [cells_Edge] at hlen
  have g0 := hf 0 _ rfl
  have g1 := hf 1 _ rfl
  match xs, hxl, cs, hlen with
  | [y0, y1], _, [c0, c1], _ =>
    obtain ⟨a0, e0, _, w0⟩ := DataW.trod_int Tryz.underlying3 g0
    obtain ⟨a1, e1, _, w1⟩ := DataW.trod_int Tryz.underlying3 g1
    simp [cells_int] at e0 e1
    exact ⟨⟨a0, a1⟩, (), by simp [e0, e1], trivial, ⟨wf_of w0, wf_of w1⟩⟩
theorem cells_EdgeS : Tryz.prog.cellsOf 102 = 1 := by kernel_rfl
theorem read_EdgeS (h : DataW.trod enc Tryz.prog w 0 spare held fuel 102 cs = some x) : ∃ (s : Sl) (l : List (Edge)), cs = [.slice s.a s.n s.c] ∧ RdL edgeD w w.heap.size s.v l ∧ wfL wfEdge l := by
  haveI : Inhabited ((Edge) × edgeD.S) := ⟨(⟨0, 0⟩, ())⟩
  obtain ⟨v, rs, h1, h2, h3, h4⟩ := read_slice edgeD.enc (fun z : (Edge) × Unit => edgeD.rd w w.heap.size z.1 z.2 ∧ wfEdge z.1) Tryz.underlying102 (by kernel_rfl) (by decide) (fun n cs' y hy => by
    obtain ⟨p0, s0, e0, h0, k0⟩ := read_Edge hy
    exact ⟨(p0, s0), e0, h0, k0⟩) h
  obtain ⟨A, c, hv, hc, hr⟩ := id h2
  refine ⟨⟨A, rs.length, c⟩, rs.map (·.1), by rw [h1, hv], ⟨rs, rfl, by rw [hv] at h2; exact h2, fun r hr => (h3 r hr).1⟩, by rw [List.length_map]; simpa [maxLen] using h4, fun z hz => ?_⟩
  obtain ⟨r, hr, rfl⟩ := List.mem_map.1 hz
  exact (h3 r hr).2
theorem cells_Plan : Tryz.prog.cellsOf 104 = 5 := by kernel_rfl
theorem read_Plan (h : DataW.trod enc Tryz.prog w 0 spare held fuel 104 cs = some x) : ∃ (p : Plan) (s : Sl), cs = [.int .i64 p.prio, .int .i64 p.most, .int .i64 p.wait, .int .i64 p.tasks, .slice s.a s.n s.c] ∧ planD.rd w w.heap.size p s ∧ wfPlan p := by
  obtain ⟨xs, n', _, _, hlen, hxl, hf⟩ := DataW.trod_struct Tryz.underlying104 h
  rw [cells_Plan] at hlen
  have g0 := hf 0 _ rfl
  have g1 := hf 1 _ rfl
  have g2 := hf 2 _ rfl
  have g3 := hf 3 _ rfl
  have g4 := hf 4 _ rfl
  match xs, hxl, cs, hlen with
  | [y0, y1, y2, y3, y4], _, [c0, c1, c2, c3, c4], _ =>
    obtain ⟨a0, e0, _, w0⟩ := DataW.trod_int Tryz.underlying3 g0
    obtain ⟨a1, e1, _, w1⟩ := DataW.trod_int Tryz.underlying3 g1
    obtain ⟨a2, e2, _, w2⟩ := DataW.trod_int Tryz.underlying3 g2
    obtain ⟨a3, e3, _, w3⟩ := DataW.trod_int Tryz.underlying3 g3
    obtain ⟨s4, a4, e4, r4, w4⟩ := read_EdgeS g4
    simp [cells_int, cells_EdgeS] at e0 e1 e2 e3 e4
    exact ⟨⟨a0, a1, a2, a3, a4⟩, s4, by simp [e0, e1, e2, e3, e4], r4, ⟨wf_of w0, wf_of w1, wf_of w2, wf_of w3, w4⟩⟩
theorem cells_Reply : Tryz.prog.cellsOf 90 = 4 := by kernel_rfl
theorem read_Reply (h : DataW.trod enc Tryz.prog w 0 spare held fuel 90 cs = some x) : ∃ (p : Reply) (_s : Unit), cs = [.int .i64 p.code, .int .i64 p.run, .int .i64 p.task, .int .i64 p.try_] ∧ replyD.rd w w.heap.size p _s ∧ wfReply p := by
  obtain ⟨xs, n', _, _, hlen, hxl, hf⟩ := DataW.trod_struct Tryz.underlying90 h
  rw [cells_Reply] at hlen
  have g0 := hf 0 _ rfl
  have g1 := hf 1 _ rfl
  have g2 := hf 2 _ rfl
  have g3 := hf 3 _ rfl
  match xs, hxl, cs, hlen with
  | [y0, y1, y2, y3], _, [c0, c1, c2, c3], _ =>
    obtain ⟨a0, e0, _, w0⟩ := DataW.trod_int Tryz.underlying3 g0
    obtain ⟨a1, e1, _, w1⟩ := DataW.trod_int Tryz.underlying3 g1
    obtain ⟨a2, e2, _, w2⟩ := DataW.trod_int Tryz.underlying3 g2
    obtain ⟨a3, e3, _, w3⟩ := DataW.trod_int Tryz.underlying3 g3
    simp [cells_int] at e0 e1 e2 e3
    exact ⟨⟨a0, a1, a2, a3⟩, (), by simp [e0, e1, e2, e3], trivial, ⟨wf_of w0, wf_of w1, wf_of w2, wf_of w3⟩⟩
theorem cells_Entry : Tryz.prog.cellsOf 134 = 4 := by kernel_rfl
theorem read_Entry (h : DataW.trod enc Tryz.prog w 0 spare held fuel 134 cs = some x) : ∃ (p : Entry) (_s : Unit), cs = [.int .i64 p.prio, .int .i64 p.seq, .int .i64 p.run, .int .i64 p.task] ∧ entryD.rd w w.heap.size p _s ∧ wfEntry p := by
  obtain ⟨xs, n', _, _, hlen, hxl, hf⟩ := DataW.trod_struct Tryz.underlying134 h
  rw [cells_Entry] at hlen
  have g0 := hf 0 _ rfl
  have g1 := hf 1 _ rfl
  have g2 := hf 2 _ rfl
  have g3 := hf 3 _ rfl
  match xs, hxl, cs, hlen with
  | [y0, y1, y2, y3], _, [c0, c1, c2, c3], _ =>
    obtain ⟨a0, e0, _, w0⟩ := DataW.trod_int Tryz.underlying3 g0
    obtain ⟨a1, e1, _, w1⟩ := DataW.trod_int Tryz.underlying3 g1
    obtain ⟨a2, e2, _, w2⟩ := DataW.trod_int Tryz.underlying3 g2
    obtain ⟨a3, e3, _, w3⟩ := DataW.trod_int Tryz.underlying3 g3
    simp [cells_int] at e0 e1 e2 e3
    exact ⟨⟨a0, a1, a2, a3⟩, (), by simp [e0, e1, e2, e3], trivial, ⟨wf_of w0, wf_of w1, wf_of w2, wf_of w3⟩⟩
theorem cells_EntryS : Tryz.prog.cellsOf 100 = 1 := by kernel_rfl
theorem read_EntryS (h : DataW.trod enc Tryz.prog w 0 spare held fuel 100 cs = some x) : ∃ (s : Sl) (l : List (Entry)), cs = [.slice s.a s.n s.c] ∧ RdL entryD w w.heap.size s.v l ∧ wfL wfEntry l := by
  haveI : Inhabited ((Entry) × entryD.S) := ⟨(⟨0, 0, 0, 0⟩, ())⟩
  obtain ⟨v, rs, h1, h2, h3, h4⟩ := read_slice entryD.enc (fun z : (Entry) × Unit => entryD.rd w w.heap.size z.1 z.2 ∧ wfEntry z.1) Tryz.underlying100 (by kernel_rfl) (by decide) (fun n cs' y hy => by
    obtain ⟨p0, s0, e0, h0, k0⟩ := read_Entry hy
    exact ⟨(p0, s0), e0, h0, k0⟩) h
  obtain ⟨A, c, hv, hc, hr⟩ := id h2
  refine ⟨⟨A, rs.length, c⟩, rs.map (·.1), by rw [h1, hv], ⟨rs, rfl, by rw [hv] at h2; exact h2, fun r hr => (h3 r hr).1⟩, by rw [List.length_map]; simpa [maxLen] using h4, fun z hz => ?_⟩
  obtain ⟨r, hr, rfl⟩ := List.mem_map.1 hz
  exact (h3 r hr).2
theorem cells_Task : Tryz.prog.cellsOf 151 = 4 := by kernel_rfl
theorem read_Task (h : DataW.trod enc Tryz.prog w 0 spare held fuel 151 cs = some x) : ∃ (p : Task) (_s : Unit), cs = [.int .i64 p.state, .int .i64 p.need, .int .i64 p.try_, .int .i64 p.until_] ∧ taskD.rd w w.heap.size p _s ∧ wfTask p := by
  obtain ⟨xs, n', _, _, hlen, hxl, hf⟩ := DataW.trod_struct Tryz.underlying151 h
  rw [cells_Task] at hlen
  have g0 := hf 0 _ rfl
  have g1 := hf 1 _ rfl
  have g2 := hf 2 _ rfl
  have g3 := hf 3 _ rfl
  match xs, hxl, cs, hlen with
  | [y0, y1, y2, y3], _, [c0, c1, c2, c3], _ =>
    obtain ⟨a0, e0, _, w0⟩ := DataW.trod_int Tryz.underlying3 g0
    obtain ⟨a1, e1, _, w1⟩ := DataW.trod_int Tryz.underlying3 g1
    obtain ⟨a2, e2, _, w2⟩ := DataW.trod_int Tryz.underlying3 g2
    obtain ⟨a3, e3, _, w3⟩ := DataW.trod_int Tryz.underlying3 g3
    simp [cells_int] at e0 e1 e2 e3
    exact ⟨⟨a0, a1, a2, a3⟩, (), by simp [e0, e1, e2, e3], trivial, ⟨wf_of w0, wf_of w1, wf_of w2, wf_of w3⟩⟩
theorem cells_TaskS : Tryz.prog.cellsOf 105 = 1 := by kernel_rfl
theorem read_TaskS (h : DataW.trod enc Tryz.prog w 0 spare held fuel 105 cs = some x) : ∃ (s : Sl) (l : List (Task)), cs = [.slice s.a s.n s.c] ∧ RdL taskD w w.heap.size s.v l ∧ wfL wfTask l := by
  haveI : Inhabited ((Task) × taskD.S) := ⟨(⟨0, 0, 0, 0⟩, ())⟩
  obtain ⟨v, rs, h1, h2, h3, h4⟩ := read_slice taskD.enc (fun z : (Task) × Unit => taskD.rd w w.heap.size z.1 z.2 ∧ wfTask z.1) Tryz.underlying105 (by kernel_rfl) (by decide) (fun n cs' y hy => by
    obtain ⟨p0, s0, e0, h0, k0⟩ := read_Task hy
    exact ⟨(p0, s0), e0, h0, k0⟩) h
  obtain ⟨A, c, hv, hc, hr⟩ := id h2
  refine ⟨⟨A, rs.length, c⟩, rs.map (·.1), by rw [h1, hv], ⟨rs, rfl, by rw [hv] at h2; exact h2, fun r hr => (h3 r hr).1⟩, by rw [List.length_map]; simpa [maxLen] using h4, fun z hz => ?_⟩
  obtain ⟨r, hr, rfl⟩ := List.mem_map.1 hz
  exact (h3 r hr).2
theorem cells_Run : Tryz.prog.cellsOf 107 = 8 := by kernel_rfl
theorem read_Run (h : DataW.trod enc Tryz.prog w 0 spare held fuel 107 cs = some x) : ∃ (p : Run) (s : Sl × Sl), cs = [.int .i64 p.id, .int .i64 p.plan.prio, .int .i64 p.plan.most, .int .i64 p.plan.wait, .int .i64 p.plan.tasks, .slice s.1.a s.1.n s.1.c, .int .i64 p.state, .slice s.2.a s.2.n s.2.c] ∧ runD.rd w w.heap.size p s ∧ wfRun p := by
  obtain ⟨xs, n', _, _, hlen, hxl, hf⟩ := DataW.trod_struct Tryz.underlying107 h
  rw [cells_Run] at hlen
  have g0 := hf 0 _ rfl
  have g1 := hf 1 _ rfl
  have g2 := hf 2 _ rfl
  have g3 := hf 3 _ rfl
  match xs, hxl, cs, hlen with
  | [y0, y1, y2, y3], _, [c0, c1, c2, c3, c4, c5, c6, c7], _ =>
    obtain ⟨a0, e0, _, w0⟩ := DataW.trod_int Tryz.underlying3 g0
    obtain ⟨a1, s1, e1, r1, w1⟩ := read_Plan g1
    obtain ⟨a2, e2, _, w2⟩ := DataW.trod_int Tryz.underlying3 g2
    obtain ⟨s3, a3, e3, r3, w3⟩ := read_TaskS g3
    simp [cells_int, cells_Plan, cells_TaskS] at e0 e1 e2 e3
    exact ⟨⟨a0, a1, a2, a3⟩, (s1, s3), by simp [e0, e1, e2, e3], ⟨r1, r3⟩, ⟨wf_of w0, w1, wf_of w2, w3⟩⟩
theorem cells_RunS : Tryz.prog.cellsOf 23 = 1 := by kernel_rfl
theorem read_RunS (h : DataW.trod enc Tryz.prog w 0 spare held fuel 23 cs = some x) : ∃ (s : Sl) (l : List (Run)), cs = [.slice s.a s.n s.c] ∧ RdL runD w w.heap.size s.v l ∧ wfL wfRun l := by
  haveI : Inhabited ((Run) × runD.S) := ⟨(⟨0, ⟨0, 0, 0, 0, []⟩, 0, []⟩, (⟨none, 0, 0⟩, ⟨none, 0, 0⟩))⟩
  obtain ⟨v, rs, h1, h2, h3, h4⟩ := read_slice runD.enc (fun z : (Run) × Sl × Sl => runD.rd w w.heap.size z.1 z.2 ∧ wfRun z.1) Tryz.underlying23 (by kernel_rfl) (by decide) (fun n cs' y hy => by
    obtain ⟨p0, s0, e0, h0, k0⟩ := read_Run hy
    exact ⟨(p0, s0), e0, h0, k0⟩) h
  obtain ⟨A, c, hv, hc, hr⟩ := id h2
  refine ⟨⟨A, rs.length, c⟩, rs.map (·.1), by rw [h1, hv], ⟨rs, rfl, by rw [hv] at h2; exact h2, fun r hr => (h3 r hr).1⟩, by rw [List.length_map]; simpa [maxLen] using h4, fun z hz => ?_⟩
  obtain ⟨r, hr, rfl⟩ := List.mem_map.1 hz
  exact (h3 r hr).2
theorem cells_EntrySS : Tryz.prog.cellsOf 22 = 1 := by kernel_rfl
theorem read_EntrySS (h : DataW.trod enc Tryz.prog w 0 spare held fuel 22 cs = some x) : ∃ (s : Sl) (l : List (List Entry)), cs = [.slice s.a s.n s.c] ∧ RdL (Dt.list entryD) w w.heap.size s.v l ∧ wfL wfEntryS l := by
  haveI : Inhabited ((List Entry) × (Dt.list entryD).S) := ⟨([], ⟨none, 0, 0⟩)⟩
  obtain ⟨v, rs, h1, h2, h3, h4⟩ := read_slice (Dt.list entryD).enc (fun z : (List Entry) × Sl => (Dt.list entryD).rd w w.heap.size z.1 z.2 ∧ wfEntryS z.1) Tryz.underlying22 (by kernel_rfl) (by decide) (fun n cs' y hy => by
    obtain ⟨s0, p0, e0, h0, k0⟩ := read_EntryS hy
    exact ⟨(p0, s0), e0, h0, k0⟩) h
  obtain ⟨A, c, hv, hc, hr⟩ := id h2
  refine ⟨⟨A, rs.length, c⟩, rs.map (·.1), by rw [h1, hv], ⟨rs, rfl, by rw [hv] at h2; exact h2, fun r hr => (h3 r hr).1⟩, by rw [List.length_map]; simpa [maxLen] using h4, fun z hz => ?_⟩
  obtain ⟨r, hr, rfl⟩ := List.mem_map.1 hz
  exact (h3 r hr).2
theorem cells_Yard : Tryz.prog.cellsOf 25 = 4 := by kernel_rfl
theorem read_Yard (h : DataW.trod enc Tryz.prog w 0 spare held fuel 25 cs = some x) : ∃ (p : Yard) (s : Sl × Sl), cs = [.int .i64 p.now, .int .i64 p.seq, .slice s.1.a s.1.n s.1.c, .slice s.2.a s.2.n s.2.c] ∧ yardD.rd w w.heap.size p s ∧ wfYard p := by
  obtain ⟨xs, n', _, _, hlen, hxl, hf⟩ := DataW.trod_struct Tryz.underlying25 h
  rw [cells_Yard] at hlen
  have g0 := hf 0 _ rfl
  have g1 := hf 1 _ rfl
  have g2 := hf 2 _ rfl
  have g3 := hf 3 _ rfl
  match xs, hxl, cs, hlen with
  | [y0, y1, y2, y3], _, [c0, c1, c2, c3], _ =>
    obtain ⟨a0, e0, _, w0⟩ := DataW.trod_int Tryz.underlying3 g0
    obtain ⟨a1, e1, _, w1⟩ := DataW.trod_int Tryz.underlying3 g1
    obtain ⟨s2, a2, e2, r2, w2⟩ := read_EntrySS g2
    obtain ⟨s3, a3, e3, r3, w3⟩ := read_RunS g3
    simp [cells_int, cells_EntrySS, cells_RunS] at e0 e1 e2 e3
    exact ⟨⟨a0, a1, a2, a3⟩, (s2, s3), by simp [e0, e1, e2, e3], ⟨r2, r3⟩, ⟨wf_of w0, wf_of w1, w2, w3⟩⟩
theorem cells_Memo : Tryz.prog.cellsOf 92 = 5 := by kernel_rfl
theorem read_Memo (h : DataW.trod enc Tryz.prog w 0 spare held fuel 92 cs = some x) : ∃ (p : Memo) (_s : Unit), cs = [.int .i64 p.id, .int .i64 p.reply.code, .int .i64 p.reply.run, .int .i64 p.reply.task, .int .i64 p.reply.try_] ∧ memoD.rd w w.heap.size p _s ∧ wfMemo p := by
  obtain ⟨xs, n', _, _, hlen, hxl, hf⟩ := DataW.trod_struct Tryz.underlying92 h
  rw [cells_Memo] at hlen
  have g0 := hf 0 _ rfl
  have g1 := hf 1 _ rfl
  match xs, hxl, cs, hlen with
  | [y0, y1], _, [c0, c1, c2, c3, c4], _ =>
    obtain ⟨a0, e0, _, w0⟩ := DataW.trod_int Tryz.underlying3 g0
    obtain ⟨a1, s1, e1, r1, w1⟩ := read_Reply g1
    simp [cells_int, cells_Reply] at e0 e1
    exact ⟨⟨a0, a1⟩, (), by simp [e0, e1], trivial, ⟨wf_of w0, w1⟩⟩
theorem cells_MemoS : Tryz.prog.cellsOf 26 = 1 := by kernel_rfl
theorem read_MemoS (h : DataW.trod enc Tryz.prog w 0 spare held fuel 26 cs = some x) : ∃ (s : Sl) (l : List (Memo)), cs = [.slice s.a s.n s.c] ∧ RdL memoD w w.heap.size s.v l ∧ wfL wfMemo l := by
  haveI : Inhabited ((Memo) × memoD.S) := ⟨(⟨0, ⟨0, 0, 0, 0⟩⟩, ())⟩
  obtain ⟨v, rs, h1, h2, h3, h4⟩ := read_slice memoD.enc (fun z : (Memo) × Unit => memoD.rd w w.heap.size z.1 z.2 ∧ wfMemo z.1) Tryz.underlying26 (by kernel_rfl) (by decide) (fun n cs' y hy => by
    obtain ⟨p0, s0, e0, h0, k0⟩ := read_Memo hy
    exact ⟨(p0, s0), e0, h0, k0⟩) h
  obtain ⟨A, c, hv, hc, hr⟩ := id h2
  refine ⟨⟨A, rs.length, c⟩, rs.map (·.1), by rw [h1, hv], ⟨rs, rfl, by rw [hv] at h2; exact h2, fun r hr => (h3 r hr).1⟩, by rw [List.length_map]; simpa [maxLen] using h4, fun z hz => ?_⟩
  obtain ⟨r, hr, rfl⟩ := List.mem_map.1 hz
  exact (h3 r hr).2
theorem cells_Desk : Tryz.prog.cellsOf 28 = 6 := by kernel_rfl
theorem read_Desk (h : DataW.trod enc Tryz.prog w 0 spare held fuel 28 cs = some x) : ∃ (p : Desk) (s : (Sl × Sl) × Sl), cs = [.int .i64 p.yard.now, .int .i64 p.yard.seq, .slice s.1.1.a s.1.1.n s.1.1.c, .slice s.1.2.a s.1.2.n s.1.2.c, .slice s.2.a s.2.n s.2.c, .int .i64 p.fr] ∧ deskD.rd w w.heap.size p s ∧ wfDesk p := by
  obtain ⟨xs, n', _, _, hlen, hxl, hf⟩ := DataW.trod_struct Tryz.underlying28 h
  rw [cells_Desk] at hlen
  have g0 := hf 0 _ rfl
  have g1 := hf 1 _ rfl
  have g2 := hf 2 _ rfl
  match xs, hxl, cs, hlen with
  | [y0, y1, y2], _, [c0, c1, c2, c3, c4, c5], _ =>
    obtain ⟨a0, s0, e0, r0, w0⟩ := read_Yard g0
    obtain ⟨s1, a1, e1, r1, w1⟩ := read_MemoS g1
    obtain ⟨a2, e2, _, w2⟩ := DataW.trod_int Tryz.underlying3 g2
    simp [cells_Yard, cells_MemoS, cells_int] at e0 e1 e2
    exact ⟨⟨a0, a1, a2⟩, (s0, s1), by simp [e0, e1, e2], ⟨r0, r1⟩, ⟨w0, w1, wf_of w2⟩⟩
end
end Go.Proofs.YtjobmbjadpldfaaGreat
end
section
namespace Go.Proofs.YtjobmbjadpldfaaGreat
open Go.RowKit
set_option maxRecDepth 100000
set_option maxHeartbeats 1000000
set_option linter.unusedVariables false
set_option linter.unusedSimpArgs false

theorem implAhead_any (a b : Entry) (w : World) :
    Calls Tryz.prog 85 #[entryW a (), entryW b ()] w fun e w' => e = .returned (.bool (aheadE a b)) ∧ Below w.heap.size w w' := by
  cases t1 : decide (b.prio < a.prio) <;> cases t2 : (a.prio == b.prio) <;> cases t3 : decide (a.seq < b.seq)
  all_goals
    have H := Lib.hid (show (decide (b.prio < a.prio) || ((a.prio == b.prio) && decide (a.seq < b.seq))) = aheadE a b from rfl)
    go_enter Tryz.func85, Tryz.ntmps85
    go_wp2
    go_ret
    exact ⟨ret_bool (by rw [← H.out, t1, t2, t3]; rfl), by repeat (first | exact Below.refl _ _ | refine Below.alloc ?_ (by simp <;> omega) _)⟩
theorem specAhead_any (a b : Entry) (w : World) :
    Calls Tryz.prog 107 #[entryW a (), entryW b ()] w fun e w' => e = .returned (.bool (aheadE a b)) ∧ Below w.heap.size w w' := by
  cases t1 : decide (b.prio < a.prio) <;> cases t2 : (a.prio == b.prio) <;> cases t3 : decide (a.seq < b.seq)
  all_goals
    have H := Lib.hid (show (decide (b.prio < a.prio) || ((a.prio == b.prio) && decide (a.seq < b.seq))) = aheadE a b from rfl)
    go_enter Tryz.func107, Tryz.ntmps107
    go_wp2
    go_ret
    exact ⟨ret_bool (by rw [← H.out, t1, t2, t3]; rfl), by repeat (first | exact Below.refl _ _ | refine Below.alloc ?_ (by simp <;> omega) _)⟩

theorem shelf_step {l : List Entry} {k : Nat} (hk1 : 1 ≤ k) (hlt : k < l.length) (h : ∀ j (hj : j + 1 < l.length), j + 1 < k → aheadE l[j] l[j + 1] = true) (t : aheadE l[k - 1] l[k] = true) :
    ∀ j (hj : j + 1 < l.length), j + 1 < k + 1 → aheadE l[j] l[j + 1] = true := by
  intro j hj hjk
  by_cases e : j + 1 = k
  · subst e; simpa using t
  · exact h j hj (by omega)
theorem shelf_bad {l : List Entry} {k : Nat} (hk1 : 1 ≤ k) (hlt : k < l.length) (t : aheadE l[k - 1] l[k] = false) : ¬ shelfP l := by
  rintro ⟨_, h⟩
  have := h (k - 1) (by omega)
  have e : k - 1 + 1 = k := by omega
  simp only [e] at this
  rw [t] at this
  cases this

theorem implShelfOk_any (l : List Entry) (s : Sl) (w : World) (hl : l.length ≤ 2000000) (h : RdL entryD w w.heap.size s.v l) :
    Calls Tryz.prog 56 #[.slice s.a s.n s.c] w fun e w' => e = .returned (.bool (tf (shelfP l))) ∧ Below w.heap.size w w' := by
  obtain ⟨A, n, c⟩ := s
  obtain rfl : n = l.length := RdL.at1 (s := ⟨A, n, c⟩) h
  go_enter Tryz.func56, Tryz.ntmps56
  go_wp2
  go_loopw [3] (fun i wr => ∃ k : Nat, 1 ≤ k ∧ (k ≤ l.length ∨ k = 1) ∧ i = .int .i64 k ∧ Hid (∀ j (hj : j + 1 < l.length), j + 1 < k → aheadE l[j] l[j + 1] = true) ∧ Below w.heap.size w wr) (fun i _ => l.length - (intOf i).toNat)
  case atStart => exact ⟨1, Nat.le_refl _, .inr rfl, rfl, fun j hj h0 => absurd h0 (by omega), Below.refl _ _⟩
  case round =>
    obtain ⟨k, hk1, hk, rfl, hok, hb⟩ := hrel
    have hki : (0 : Int) < (k : Int) := by omega
    by_cases hlt : k < l.length
    · have hltI : (k : Int) < (l.length : Int) := by omega
      obtain ⟨b, o, _, rfl, hbb, _, c0, c1, c2, c3⟩ := (h.below hb).entry hlt
      obtain ⟨b', o', _, he, _, _, d0, d1, d2, d3⟩ := (h.below hb).entry (k := k - 1) (by omega)
      simp only [Option.some.injEq, Addr.mk.injEq, and_true] at he
      obtain ⟨rfl, rfl⟩ := he
      have hs : b < wr.heap.size := Nat.lt_of_lt_of_le hbb hb.size
      have hlc := later_cell wr
      cases t2 : aheadE l[k - 1] l[k]
      · have H := Lib.hid (tf_false (shelf_bad hk1 hlt t2))
        go_wp2
        refine wp_region_pure (by kernel_rfl) (by kernel_rfl) ?_
        repeat (go_big_quiet_step ((go_at_call 85; rename_i x; have h1 := implAhead_any l[k - 1] l[k] x.1; exact pure_of h1)))
        refine wpQuiet_nil ?_
        rintro _ ⟨⟨w1, hb1⟩, rfl⟩
        clear hlc
        go_wp2
        go_ret
        exact ⟨ret_bool H.out.symm, bnext hb hb1⟩
      · have S := Lib.hid (shelf_step hk1 hlt hok.out t2)
        go_wp2
        refine wp_region_pure (by kernel_rfl) (by kernel_rfl) ?_
        repeat (go_big_quiet_step ((go_at_call 85; rename_i x; have h1 := implAhead_any l[k - 1] l[k] x.1; exact pure_of h1)))
        refine wpQuiet_nil ?_
        rintro _ ⟨⟨w1, hb1⟩, rfl⟩
        clear hlc
        go_wp2
        exact ⟨⟨k + 1, by omega, by omega, by go_num, S, bnext hb hb1⟩, by simp [intOf]; omega⟩
    · have hltI : ¬ (k : Int) < (l.length : Int) := by omega
      by_cases h8 : l.length ≤ 80
      · have H := Lib.hid (tf_true (show shelfP l from ⟨h8, fun j hj => hok.out j hj (by omega)⟩))
        go_wp2
        go_ret
        exact ⟨ret_bool (by rw [H.out]; exact decide_eq_true (by omega)), hb⟩
      · have H := Lib.hid (tf_false (show ¬ shelfP l from fun h => h8 h.1))
        have h8i : ¬ (l.length : Int) ≤ 80 := by omega
        go_wp2
        go_ret
        exact ⟨ret_bool (by rw [H.out]), hb⟩

theorem specShelfOk_any (l : List Entry) (s : Sl) (w : World) (hl : l.length ≤ 2000000) (h : RdL entryD w w.heap.size s.v l) :
    Calls Tryz.prog 79 #[.slice s.a s.n s.c] w fun e w' => e = .returned (.bool (tf (shelfP l))) ∧ Below w.heap.size w w' := by
  obtain ⟨A, n, c⟩ := s
  obtain rfl : n = l.length := RdL.at1 (s := ⟨A, n, c⟩) h
  by_cases h8 : 80 < l.length
  · have H := Lib.hid (tf_false (show ¬ shelfP l from fun h => by have := h.1; omega))
    have h8i : (80 : Int) < (l.length : Int) := by omega
    go_enter Tryz.func79, Tryz.ntmps79
    go_wp2
    go_ret
    exact ⟨ret_bool H.out.symm, Below.refl _ _⟩
  have h8i : ¬ (80 : Int) < (l.length : Int) := by omega
  go_enter Tryz.func79, Tryz.ntmps79
  go_wp2
  go_loopw [3] (fun i wr => ∃ k : Nat, 1 ≤ k ∧ (k ≤ l.length ∨ k = 1) ∧ i = .int .i64 k ∧ Hid (∀ j (hj : j + 1 < l.length), j + 1 < k → aheadE l[j] l[j + 1] = true) ∧ Below w.heap.size w wr) (fun i _ => l.length - (intOf i).toNat)
  case atStart => exact ⟨1, Nat.le_refl _, .inr rfl, rfl, fun j hj h0 => absurd h0 (by omega), Below.refl _ _⟩
  case round =>
    obtain ⟨k, hk1, hk, rfl, hok, hb⟩ := hrel
    have hki : (0 : Int) < (k : Int) := by omega
    by_cases hlt : k < l.length
    · have hltI : (k : Int) < (l.length : Int) := by omega
      obtain ⟨b, o, _, rfl, hbb, _, c0, c1, c2, c3⟩ := (h.below hb).entry hlt
      obtain ⟨b', o', _, he, _, _, d0, d1, d2, d3⟩ := (h.below hb).entry (k := k - 1) (by omega)
      simp only [Option.some.injEq, Addr.mk.injEq, and_true] at he
      obtain ⟨rfl, rfl⟩ := he
      have hs : b < wr.heap.size := Nat.lt_of_lt_of_le hbb hb.size
      have hlc := later_cell wr
      cases t2 : aheadE l[k - 1] l[k]
      · have H := Lib.hid (tf_false (shelf_bad hk1 hlt t2))
        go_wp2
        refine wp_region_pure (by kernel_rfl) (by kernel_rfl) ?_
        repeat (go_big_quiet_step ((go_at_call 107; rename_i x; have h1 := specAhead_any l[k - 1] l[k] x.1; exact pure_of h1)))
        refine wpQuiet_nil ?_
        rintro _ ⟨⟨w1, hb1⟩, rfl⟩
        clear hlc
        go_wp2
        go_ret
        exact ⟨ret_bool H.out.symm, bnext hb hb1⟩
      · have S := Lib.hid (shelf_step hk1 hlt hok.out t2)
        go_wp2
        refine wp_region_pure (by kernel_rfl) (by kernel_rfl) ?_
        repeat (go_big_quiet_step ((go_at_call 107; rename_i x; have h1 := specAhead_any l[k - 1] l[k] x.1; exact pure_of h1)))
        refine wpQuiet_nil ?_
        rintro _ ⟨⟨w1, hb1⟩, rfl⟩
        clear hlc
        go_wp2
        exact ⟨⟨k + 1, by omega, by omega, by go_num, S, bnext hb hb1⟩, by simp [intOf]; omega⟩
    · have hltI : ¬ (k : Int) < (l.length : Int) := by omega
      have H := Lib.hid (tf_true (show shelfP l from ⟨by omega, fun j hj => hok.out j hj (by omega)⟩))
      go_wp2
      go_ret
      exact ⟨ret_bool H.out.symm, hb⟩

/-- the tasks ahead of place k in a state -/
def tasksUpto (l : List Task) (s : Int) (k : Nat) : List Nat := (List.range k).filter fun t => (l.getD t ⟨0, 0, 0, 0⟩).state == s
def tasksIn (l : List Task) (s : Int) : List Nat := tasksUpto l s l.length
theorem tasksUpto_succ (l : List Task) (s : Int) (k : Nat) (hk : k < l.length) : tasksUpto l s (k + 1) = tasksUpto l s k ++ (if l[k].state = s then [k] else []) := by
  unfold tasksUpto
  rw [List.range_succ, List.filter_append]
  congr 1
  have : l.getD k ⟨0, 0, 0, 0⟩ = l[k] := by rw [List.getD_eq_getElem?_getD, List.getElem?_eq_getElem hk]; rfl
  by_cases h : l[k].state = s
  · simp [h, this, hk]
  · simp [h, this, hk]
theorem tasksUpto_len (l : List Task) (s : Int) : ∀ (k : Nat), k ≤ l.length → (tasksUpto l s k).length = cntS (l.take k) s
  | 0, _ => by simp [tasksUpto, cntS]
  | k + 1, hk => by
    rw [tasksUpto_succ l s k (by omega), List.length_append, tasksUpto_len l s k (by omega)]
    by_cases h : l[k].state = s
    · rw [cntS_yes (by omega) h, if_pos h]; rfl
    · rw [cntS_no (by omega) h, if_neg h]; rfl
theorem tasksIn_len (l : List Task) (s : Int) : (tasksIn l s).length = cntS l s := by
  unfold tasksIn
  rw [tasksUpto_len l s _ (Nat.le_refl _), List.take_length]
theorem tasksUpto_le (l : List Task) (s : Int) (k : Nat) : (tasksUpto l s k).length ≤ k := by
  unfold tasksUpto
  exact Nat.le_trans (List.length_filter_le _ _) (by simp)

theorem implTasksIn_any (r : Run) (s : Sl × Sl) (st : Int) (w : World) (hl : r.tasks.length ≤ 2000000) (h : runD.rd w w.heap.size r s) :
    Calls Tryz.prog 89 #[runW r s, .int .i64 st] w fun e w' => ∃ v, e = .returned v ∧ Ow natE 3 w' w.heap.size v (tasksIn r.tasks st) ∧ Below w.heap.size w w' := by
  obtain ⟨⟨A1, n1, c1⟩, ⟨A2, n2, c2⟩⟩ := s
  obtain rfl : n2 = r.tasks.length := RdL.at1 (s := ⟨A2, n2, c2⟩) h.2
  have h2 : RdL taskD w w.heap.size (.slice A2 r.tasks.length c2) r.tasks := h.2
  have X := DBox.new 84 [.int .i64 r.id, .int .i64 r.plan.prio, .int .i64 r.plan.most, .int .i64 r.plan.wait, .int .i64 r.plan.tasks, .slice A1 n1 c1, .int .i64 r.state, .slice A2 r.tasks.length c2] w (b := w.heap.size) rfl
  have B0 : Below w.heap.size w (w.alloc (.cells #[.int .i64 r.id, .int .i64 r.plan.prio, .int .i64 r.plan.most, .int .i64 r.plan.wait, .int .i64 r.plan.tasks, .slice A1 n1 c1, .int .i64 r.state, .slice A2 r.tasks.length c2] 84)) := by repeat (first | exact Below.refl _ _ | refine Below.alloc ?_ (by simp <;> omega) _)
  obtain ⟨j0, hj0, jz0, jz1, jz2⟩ := info_parts int_info
  go_enter Tryz.func89, Tryz.ntmps89
  go_wp2
  generalize (w.alloc (.cells #[.int .i64 r.id, .int .i64 r.plan.prio, .int .i64 r.plan.most, .int .i64 r.plan.wait, .int .i64 r.plan.tasks, .slice A1 n1 c1, .int .i64 r.state, .slice A2 r.tasks.length c2] 84)) = W at *
  go_loopw [5, 11] (fun vl i wr => ∃ k : Nat, k ≤ r.tasks.length ∧ i = .int .i64 k ∧ Ow natE 3 wr (w.heap.size + 1) vl (tasksUpto r.tasks st k) ∧ Below w.heap.size w wr ∧ w.heap.size < wr.heap.size) (fun _ i _ => r.tasks.length - (intOf i).toNat)
  case atStart => exact ⟨0, Nat.zero_le _, rfl, by simpa [tasksUpto] using Ow.nil natE 3 W (w.heap.size + 1), B0, X.lt⟩
  case round =>
    clear X B0
    obtain ⟨k, hk, rfl, ho, hb, hsz⟩ := hrel
    by_cases hlt : k < r.tasks.length
    · have hltI : (k : Int) < (r.tasks.length : Int) := by omega
      obtain ⟨b, o, _, rfl, hbb, _, d0, d1, d2, d3⟩ := (h2.below hb).task hlt
      have hS := tasksUpto_succ r.tasks st k hlt
      have Hl := Lib.hid (show (tasksUpto r.tasks st k).length ≤ 3000000 by have := tasksUpto_le r.tasks st k; omega)
      by_cases hx : r.tasks[k].state = st
      · rw [if_pos hx] at hS
        have S := Lib.hid hS
        have t1 : (r.tasks[k].state == st) = true := beq_iff_eq.2 hx
        clear hS hx
        have ha : Hid (∀ w : World, Below w.heap.size w ((w.alloc (.cells #[.int .i64 r.tasks[k].state, .int .i64 r.tasks[k].need, .int .i64 r.tasks[k].try_, .int .i64 r.tasks[k].until_] 120)).alloc (.cells #[.int .i64 (k : Int)] 3))) := fun w => ((Below.refl _ _).alloc (Nat.le_refl _) _).alloc (by simp) _
        go_wp2_with (at_builtin; refine wpList_push_all _ natE (by decide) rfl (.tmp 20) (.tmp 22) rfl Tryz.underlying94 hj0 jz0 jz1 jz2 rfl (l := tasksUpto r.tasks st k) rfl (ho.below (ha.out wr)) rfl (Rd.one natE _ _ k (by simp) rfl 1 (Nat.le_refl _) (Nat.lt_succ_self _)) Hl.out (by simp) (by decide) (by simp; omega) ?_; intro v5 w5 o5 g5 _)
        have hb' := bnext hb (ha.out wr)
        have W5 := hb'.grown g5 hb'.size (fun g hg => by have := ho.within _ hg; omega)
        have hz5 := g5.size
        simp only [World.size_alloc] at hz5
        refine ⟨⟨k + 1, by omega, by go_num, ?_, W5, by omega⟩, by simp [intOf]; omega⟩
        rw [S.out]
        exact o5
      · rw [if_neg hx, List.append_nil] at hS
        have S := Lib.hid hS
        have t1 : (r.tasks[k].state == st) = false := beq_eq_false_iff_ne.2 hx
        clear hS hx
        have ha : Hid (∀ w : World, Below w.heap.size w (w.alloc (.cells #[.int .i64 r.tasks[k].state, .int .i64 r.tasks[k].need, .int .i64 r.tasks[k].try_, .int .i64 r.tasks[k].until_] 120))) := fun w => (Below.refl _ _).alloc (Nat.le_refl _) _
        go_wp2
        refine ⟨⟨k + 1, by omega, by go_num, ?_, bnext hb (ha.out wr), by simp; omega⟩, by simp [intOf]; omega⟩
        rw [S.out]
        exact ho.below (ha.out wr)
    · have hltI : ¬ (k : Int) < (r.tasks.length : Int) := by omega
      have hk' : k = r.tasks.length := by omega
      subst hk'
      go_wp2
      go_ret
      exact ⟨_, rfl, ho.more (by omega), hb⟩

theorem beforeL_lt {es : List (Nat × Nat)} {T t x : Nat} (h : x ∈ beforeL es T t) : x < T := by
  unfold beforeL at h
  exact List.mem_range.1 (List.mem_filter.1 h).1

theorem implNeedOf_any (r : Run) (s : Sl × Sl) (t : Nat) (w : World) (hf : planFault r.plan = 0) (hT : (r.tasks.length : Int) = r.plan.tasks) (h : runD.rd w w.heap.size r s) :
    Calls Tryz.prog 113 #[runW r s, .int .i64 (t : Int)] w fun e w' => e = .returned (.int .i64 (needOf r t : Nat)) ∧ Below w.heap.size w w' := by
  obtain ⟨⟨A1, n1, c1⟩, ⟨A2, n2, c2⟩⟩ := s
  obtain rfl : n2 = r.tasks.length := RdL.at1 (s := ⟨A2, n2, c2⟩) h.2
  have h2 : RdL taskD w w.heap.size (.slice A2 r.tasks.length c2) r.tasks := h.2
  have h1 : Rd edgeE w w.heap.size (.slice A1 n1 c1) r.plan.edges := edge_rd h.1
  have hl : r.tasks.length ≤ 12 := by have := manyOk_tasks (planFault_zero.1 hf).1; omega
  have HL := Lib.hid (show ∀ x ∈ beforeL (esOf r.plan) r.plan.tasks.toNat t, x < r.tasks.length from fun x hx => by have := beforeL_lt hx; omega)
  have HN := Lib.hid (show (beforeL (esOf r.plan) r.plan.tasks.toNat t).length ≤ 12 by have := beforeL_len (esOf r.plan) r.plan.tasks.toNat t; omega)
  have HD := Lib.hid (show needOf r t = openIn r (beforeL (esOf r.plan) r.plan.tasks.toNat t) from rfl)
  clear hT
  have X := DBox.new 84 [.int .i64 r.id, .int .i64 r.plan.prio, .int .i64 r.plan.most, .int .i64 r.plan.wait, .int .i64 r.plan.tasks, .slice A1 n1 c1, .int .i64 r.state, .slice A2 r.tasks.length c2] w (b := w.heap.size) rfl
  have B0 : Below w.heap.size w (w.alloc (.cells #[.int .i64 r.id, .int .i64 r.plan.prio, .int .i64 r.plan.most, .int .i64 r.plan.wait, .int .i64 r.plan.tasks, .slice A1 n1 c1, .int .i64 r.state, .slice A2 r.tasks.length c2] 84)) := by repeat (first | exact Below.refl _ _ | refine Below.alloc ?_ (by simp <;> omega) _)
  go_enter Tryz.func113, Tryz.ntmps113
  go_wp2_with fail
  generalize (w.alloc (.cells #[.int .i64 r.id, .int .i64 r.plan.prio, .int .i64 r.plan.most, .int .i64 r.plan.wait, .int .i64 r.plan.tasks, .slice A1 n1 c1, .int .i64 r.state, .slice A2 r.tasks.length c2] 84)) = W at *
  refine (implBefore_any r.plan (.slice A1 n1 c1) t _ hf ((h1.below B0).more B0.size)).mono ?_
  rintro e w1 ⟨v, rfl, o1, b1⟩
  generalize beforeL (esOf r.plan) r.plan.tasks.toNat t = L at *
  obtain ⟨A3, c3, rfl, -⟩ := id (Rd.of_own o1)
  replace B0 := bnext B0 b1
  replace X := X.below b1
  have X_0 := X.cell 0 _ rfl
  have X_1 := X.cell 1 _ rfl
  have X_2 := X.cell 2 _ rfl
  have X_3 := X.cell 3 _ rfl
  have X_4 := X.cell 4 _ rfl
  have X_5 := X.cell 5 _ rfl
  have X_6 := X.cell 6 _ rfl
  have X_7 := X.cell 7 _ rfl
  have X_l := X.lt
  have hll := HN.out
  go_wp2
  go_loop [5, 13] (fun n i => ∃ k : Nat, k ≤ L.length ∧ i = .int .i64 k ∧ n = .int .i64 (openIn r (L.take k) : Nat)) (fun _ i => L.length - (intOf i).toNat)
  case atStart => exact ⟨0, Nat.zero_le _, rfl, rfl⟩
  case round =>
    obtain ⟨k, hk, rfl, rfl⟩ := hrel
    have ol := openIn_le r (L.take k)
    rw [List.length_take] at ol
    by_cases hlt : k < L.length
    · have hltI : (k : Int) < (L.length : Int) := by omega
      have hx := HL.out _ (List.getElem_mem hlt)
      obtain ⟨b3, o3, rfl, hb3, e0⟩ := (Rd.of_own o1).nat hlt
      obtain ⟨b, o, _, rfl, hbb, _, d0, d1, d2, d3⟩ := (h2.below B0).task hx
      have hxI : (L[k] : Int) < (r.tasks.length : Int) := by omega
      have ht := Lib.hid (taskAt_get hx)
      by_cases h4 : r.tasks[L[k]].state = 4
      · have S := Lib.hid (openIn_no (r := r) hlt (by rw [ht.out]; exact h4))
        have t4 : (r.tasks[L[k]].state != 4) = false := by simp [h4]
        clear h4
        go_wp2
        exact ⟨⟨k + 1, by omega, by go_num, by rw [S.out]⟩, by simp [intOf]; omega⟩
      · have S := Lib.hid (openIn_yes (r := r) hlt (by rw [ht.out]; exact h4))
        have t4 : (r.tasks[L[k]].state != 4) = true := by simp [h4]
        clear h4
        go_wp2
        exact ⟨⟨k + 1, by omega, by go_num, by rw [S.out]; go_num⟩, by simp [intOf]; omega⟩
    · have hltI : ¬ (k : Int) < (L.length : Int) := by omega
      have hk' : k = L.length := by omega
      subst hk'
      go_wp2
      go_ret
      exact ⟨ret_int (by rw [HD.out]), B0⟩
end Go.Proofs.YtjobmbjadpldfaaGreat
end
section
namespace Go.Proofs.YtjobmbjadpldfaaGreat
open Go.RowKit
set_option maxRecDepth 100000

theorem DBox.set {b : Nat} {cs : List Value} {w : World} (h : DBox b cs w) (j : Nat) (hj : j < cs.length) (u : Value) : DBox b (cs.set j u) (w.setCell ⟨b, j, none⟩ u) := by
  refine ⟨fun i x hx => ?_, fun i => by rw [setCell_frozen]; exact h.free i, by simpa [World.setCell] using h.lt⟩
  have hi : i < cs.length := by
    have := (List.getElem?_eq_some_iff.1 hx).1
    simpa using this
  rw [setCell_cell w b i j u cs[i] (h.cell i _ (List.getElem?_eq_getElem hi)) ⟨_, h.cell j _ (List.getElem?_eq_getElem hj)⟩]
  by_cases e : i = j
  · subst e
    rw [List.getElem?_set_self hi] at hx
    rw [if_pos rfl]
    exact hx
  · rw [List.getElem?_set_ne (Ne.symm e), List.getElem?_eq_getElem hi] at hx
    rw [if_neg e]
    exact hx
theorem DBox.off {b : Nat} {cs : List Value} {w w' : World} {row : Option Nat} (h : DBox b cs w) (hg : w.grownBy w' row) (hne : some b ≠ row) : DBox b cs w' :=
  h.keep hg.size (fun j => hg.cell_far ⟨b, j, none⟩ h.lt hne) (fun j => hg.frozen_far ⟨b, j, none⟩ h.lt hne)
theorem DBox.setOther {b : Nat} {cs : List Value} {w : World} (h : DBox b cs w) {a : Addr} (hne : b ≠ a.block) (u : Value) : DBox b cs (w.setCell a u) :=
  h.off (grown_setCell w a u) (fun e => hne (Option.some.inj e))
theorem Bld.setOther {α : Type} {d : Dt α} {E : TypeId} {w : World} {base : Nat} {v : Value} {rs : List (α × d.S)} (h : Bld d E w base v rs) {a : Addr} (ha : a.block < base) (u : Value) : Bld d E (w.setCell a u) base v rs := by
  obtain ⟨G, h1, h2, h3, h4⟩ := h
  refine ⟨G, h1.setOther (fun e => by have := h1.within _ e; omega) u, h2.keep (by simp [World.setCell]) (fun b hb => Below.heap_setCell w a u b (fun e => by have := (h4 b hb).1; omega)), h3, h4⟩
end Go.Proofs.YtjobmbjadpldfaaGreat
end
section
namespace Go.Proofs.YtjobmbjadpldfaaGreat
open Go.RowKit
set_option maxRecDepth 100000
set_option maxHeartbeats 2000000
set_option linter.unusedVariables false
set_option linter.unusedSimpArgs false

def taskFin (x : Task) (most : Int) : Bool :=
  (if x.state = 3 then inB x.until_ 1 1000000000 else (x.until_ == 0)) && (if x.state = 1 then decide (0 < x.need) else if x.state = 2 then (x.need == 0) && decide (x.try_ < most) else if x.state = 6 then true else (x.need == 0) && decide (1 ≤ x.try_))
theorem taskQ_fin {x : Task} {N : Nat} {most : Int} (h1 : 1 ≤ x.state ∧ x.state ≤ 6) (h2 : x.need = N) (h3 : 0 ≤ x.try_ ∧ x.try_ ≤ most) : tf (taskQ x N most) = taskFin x most := by
  rw [Bool.eq_iff_iff, tf_iff]
  obtain ⟨st, nd, tr, un⟩ := x
  unfold taskQ taskFin
  simp only at *
  rcases (show st = 1 ∨ st = 2 ∨ st = 3 ∨ st = 4 ∨ st = 5 ∨ st = 6 by omega) with rfl | rfl | rfl | rfl | rfl | rfl <;> simp [inB] <;> omega

theorem bne_t {a b : Int} (h : (a != b) = true) : ¬ a = b := by simpa using h
theorem bne_f {a b : Int} (h : (a != b) = false) : a = b := by simpa using h
theorem beq_t {a b : Int} (h : (a == b) = true) : a = b := by simpa using h
theorem beq_f {a b : Int} (h : (a == b) = false) : ¬ a = b := by simpa using h
theorem implTaskOk_any (r : Run) (s : Sl × Sl) (t : Nat) (w : World) (hf : planFault r.plan = 0) (hT : (r.tasks.length : Int) = r.plan.tasks) (ht : t < r.tasks.length) (h : runD.rd w w.heap.size r s) :
    Calls Tryz.prog 88 #[runW r s, .int .i64 (t : Int)] w fun e w' => e = .returned (.bool (tf (taskP r t))) ∧ Below w.heap.size w w' := by
  have HC := Lib.hid (show ∀ W, Below w.heap.size w W → Calls Tryz.prog 113 #[runW r s, .int .i64 (t : Int)] W fun e w' => e = .returned (.int .i64 (needOf r t : Nat)) ∧ Below W.heap.size W w' from
    fun W hW => implNeedOf_any r s t W hf hT (runD.rd_more (runD.rd_below h hW) hW.size))
  obtain ⟨⟨A1, n1, c1⟩, ⟨A2, n2, c2⟩⟩ := s
  obtain rfl : n2 = r.tasks.length := RdL.at1 (s := ⟨A2, n2, c2⟩) h.2
  have h2 : RdL taskD w w.heap.size (.slice A2 r.tasks.length c2) r.tasks := h.2
  have hl : r.tasks.length ≤ 12 := by have := manyOk_tasks (planFault_zero.1 hf).1; omega
  have HQ := Lib.hid (show tf (taskP r t) = tf (taskQ r.tasks[t] (needOf r t) r.plan.most) by unfold taskP; rw [taskAt_get ht])
  have htI : (t : Int) < (r.tasks.length : Int) := by omega
  clear hT hf h
  obtain ⟨b, o, _, hA, hbb, _, d0, d1, d2, d3⟩ := h2.task ht
  subst hA
  generalize needOf r t = N at *
  generalize r.tasks[t] = x at *
  have X := (DBox.new 84 [.int .i64 r.id, .int .i64 r.plan.prio, .int .i64 r.plan.most, .int .i64 r.plan.wait, .int .i64 r.plan.tasks, .slice A1 n1 c1, .int .i64 r.state, .slice (some ⟨b, o, none⟩) r.tasks.length c2] w (b := w.heap.size) rfl).below ((Below.refl _ _).alloc (Nat.le_refl _) (.cells #[.int .i64 x.state, .int .i64 x.need, .int .i64 x.try_, .int .i64 x.until_] 120))
  have T := DBox.new 120 [.int .i64 x.state, .int .i64 x.need, .int .i64 x.try_, .int .i64 x.until_] (w.alloc (.cells #[.int .i64 r.id, .int .i64 r.plan.prio, .int .i64 r.plan.most, .int .i64 r.plan.wait, .int .i64 r.plan.tasks, .slice A1 n1 c1, .int .i64 r.state, .slice (some ⟨b, o, none⟩) r.tasks.length c2] 84)) (b := w.heap.size + 1) (by simp)
  have B0 : Below w.heap.size w ((w.alloc (.cells #[.int .i64 r.id, .int .i64 r.plan.prio, .int .i64 r.plan.most, .int .i64 r.plan.wait, .int .i64 r.plan.tasks, .slice A1 n1 c1, .int .i64 r.state, .slice (some ⟨b, o, none⟩) r.tasks.length c2] 84)).alloc (.cells #[.int .i64 x.state, .int .i64 x.need, .int .i64 x.try_, .int .i64 x.until_] 120)) := by repeat (first | exact Below.refl _ _ | refine Below.alloc ?_ (by simp <;> omega) _)
  go_enter Tryz.func88, Tryz.ntmps88
  go_wp2
  generalize ((w.alloc (.cells #[.int .i64 r.id, .int .i64 r.plan.prio, .int .i64 r.plan.most, .int .i64 r.plan.wait, .int .i64 r.plan.tasks, .slice A1 n1 c1, .int .i64 r.state, .slice (some ⟨b, o, none⟩) r.tasks.length c2] 84)).alloc (.cells #[.int .i64 x.state, .int .i64 x.need, .int .i64 x.try_, .int .i64 x.until_] 120)) = W at *
  clear d0 d1 d2 d3
  have X_0 := X.cell 0 _ rfl
  have X_1 := X.cell 1 _ rfl
  have X_2 := X.cell 2 _ rfl
  have X_3 := X.cell 3 _ rfl
  have X_4 := X.cell 4 _ rfl
  have X_5 := X.cell 5 _ rfl
  have X_6 := X.cell 6 _ rfl
  have X_7 := X.cell 7 _ rfl
  have X_l := X.lt
  have T_0 := T.cell 0 _ rfl
  have T_1 := T.cell 1 _ rfl
  have T_2 := T.cell 2 _ rfl
  have T_3 := T.cell 3 _ rfl
  have T_l := T.lt
  have hlc := later_cell W
  have HC2 := Lib.hid (show ∀ u : Later W, Calls Tryz.prog 113 #[runW r (⟨A1, n1, c1⟩, ⟨some ⟨b, o, none⟩, r.tasks.length, c2⟩), .int .i64 (t : Int)] u.1 fun e w' => e = .returned (.int .i64 (N : Nat)) ∧ Below u.1.heap.size u.1 w' from fun u => HC.out u.1 (bnext B0 u.2))
  clear HC
  cases a1 : inB x.state 1 6
  case false =>
    have H := Lib.hid (show tf (taskP r t) = false by rw [HQ.out]; exact tf_false (fun h => by have := inB_iff.2 h.1; rw [a1] at this; cases this))
    refine wp_region_pure (by kernel_rfl) (by kernel_rfl) ?_
    repeat (go_big_quiet_step ((go_at_call 29; exact pure_same (fun u => within_any _ _ _ u.1))))
    refine wpQuiet_nil ?_
    rintro _ ⟨⟨w1, b1⟩, rfl⟩
    go_wp2
    go_ret
    exact ⟨ret_bool H.out.symm, bnext B0 b1⟩
  cases a2 : (x.need == (N : Int))
  case false =>
    have a2' : (x.need != (N : Int)) = true := by simp [bne, a2]
    have H := Lib.hid (show tf (taskP r t) = false by rw [HQ.out]; exact tf_false (fun h => by have := beq_iff_eq.2 h.2.1; rw [a2] at this; cases this))
    refine wp_region_pure (by kernel_rfl) (by kernel_rfl) ?_
    repeat (go_big_quiet_step ((first
      | (go_at_call 29; exact pure_same (fun u => within_any _ _ _ u.1))
      | (go_at_call 113; (with_reducible exact pure_at HC2.out)))))
    refine wpQuiet_nil ?_
    rintro _ ⟨⟨w1, b1⟩, rfl⟩
    go_wp2
    go_ret
    exact ⟨ret_bool H.out.symm, bnext B0 b1⟩
  have a2' : (x.need != (N : Int)) = false := by simp [bne, a2]
  cases a3 : inB x.try_ 0 r.plan.most
  case false =>
    have H := Lib.hid (show tf (taskP r t) = false by rw [HQ.out]; exact tf_false (fun h => by have := inB_iff.2 h.2.2.1; rw [a3] at this; cases this))
    refine wp_region_pure (by kernel_rfl) (by kernel_rfl) ?_
    repeat (go_big_quiet_step ((first
      | (go_at_call 29; exact pure_same (fun u => within_any _ _ _ u.1))
      | (go_at_call 113; (with_reducible exact pure_at HC2.out)))))
    refine wpQuiet_nil ?_
    rintro _ ⟨⟨w1, b1⟩, rfl⟩
    go_wp2
    go_ret
    exact ⟨ret_bool H.out.symm, bnext B0 b1⟩
  have H := Lib.hid (show tf (taskP r t) = taskFin x r.plan.most by rw [HQ.out]; exact taskQ_fin (inB_iff.1 a1) (beq_iff_eq.1 a2) (inB_iff.1 a3))
  have a1' := inB_iff.1 a1
  refine wp_region_pure (by kernel_rfl) (by kernel_rfl) ?_
  repeat (go_big_quiet_step ((first
    | (go_at_call 29; exact pure_same (fun u => within_any _ _ _ u.1))
    | (go_at_call 113; (with_reducible exact pure_at HC2.out)))))
  refine wpQuiet_nil ?_
  rintro _ ⟨⟨w1, b1⟩, rfl⟩
  clear a1 a2 a2' a3 hlc HC2
  replace X := X.below b1
  clear X_0 X_1 X_2 X_3 X_4 X_5 X_6 X_7 X_l
  have X_0 := X.cell 0 _ rfl
  have X_1 := X.cell 1 _ rfl
  have X_2 := X.cell 2 _ rfl
  have X_3 := X.cell 3 _ rfl
  have X_4 := X.cell 4 _ rfl
  have X_5 := X.cell 5 _ rfl
  have X_6 := X.cell 6 _ rfl
  have X_7 := X.cell 7 _ rfl
  have X_l := X.lt
  replace T := T.below b1
  clear T_0 T_1 T_2 T_3 T_l
  have T_0 := T.cell 0 _ rfl
  have T_1 := T.cell 1 _ rfl
  have T_2 := T.cell 2 _ rfl
  have T_3 := T.cell 3 _ rfl
  have T_l := T.lt
  replace B0 := bnext B0 b1
  obtain ⟨st, nd, tr, un⟩ := x
  simp only at *
  have S := (show st = 1 ∨ st = 2 ∨ st = 3 ∨ st = 4 ∨ st = 5 ∨ st = 6 by omega)
  clear a1'
  rcases S with rfl | rfl | rfl | rfl | rfl | rfl
  all_goals
    go_wp2_with (go_at_call 29; refine (within_any _ _ _ _).mono ?_; rintro e w' ⟨rfl, rfl⟩)
    all_goals
      go_ret
      exact ⟨ret_bool (by
        rw [H.out]
        unfold taskFin
        try have e1 := bne_t ‹(un != 0) = true›
        try have e1 := bne_f ‹(un != 0) = false›
        try have e3 := beq_t ‹(nd == 0) = true›
        try have e3 := beq_f ‹(nd == 0) = false›
        simp [*]), B0⟩
end Go.Proofs.YtjobmbjadpldfaaGreat
end
section
namespace Go.Proofs.YtjobmbjadpldfaaGreat
open Go.RowKit
set_option maxRecDepth 100000
set_option maxHeartbeats 2000000
set_option linter.unusedVariables false
set_option linter.unusedSimpArgs false

/-- entries as flat data -/
def entE : Enc Entry := { cells := fun x => [.int .i64 x.prio, .int .i64 x.seq, .int .i64 x.run, .int .i64 x.task], sz := 4, len := fun _ => rfl, one := fun _ u hu => by simp at hu; rcases hu with rfl | rfl | rfl | rfl <;> rfl }
theorem ent_rd {w : World} {B : Nat} {v : Value} {l : List Entry} (h : RdL entryD w B v l) : Rd entE w B v l := by
  obtain ⟨rs, rfl, ⟨A, c, rfl, hcap, hA⟩, _⟩ := h
  refine ⟨A, c, by rw [List.length_map], by rw [List.length_map]; exact hcap, fun hl => ?_⟩
  rw [List.length_map] at hl
  obtain ⟨b, o, hb, hlt, hc⟩ := hA hl
  refine ⟨b, o, hb, hlt, fun k hk j u hu => ?_⟩
  rw [List.length_map] at hk
  rw [List.getElem_map] at hu
  exact hc k hk j u hu
theorem ent_rdL {w : World} {B : Nat} {v : Value} {l : List Entry} (h : Rd entE w B v l) : RdL entryD w B v l := by
  obtain ⟨A, c, rfl, hcap, hA⟩ := h
  refine ⟨l.map fun x => (x, ()), by rw [List.map_map]; exact List.map_id' l, ⟨A, c, by rw [List.length_map], by rw [List.length_map]; exact hcap, fun hl => ?_⟩, fun _ _ => trivial⟩
  rw [List.length_map] at hl
  obtain ⟨b, o, hb, hlt, hc⟩ := hA hl
  refine ⟨b, o, hb, hlt, fun k hk j u hu => ?_⟩
  rw [List.length_map] at hk
  rw [List.getElem_map] at hu
  exact hc k hk j u hu
theorem entE_info : (Tryz.prog.info? 96).map (fun i => (i.zero, i.size, i.bytes)) = some (some (.agg #[.int .i64 0, .int .i64 0, .int .i64 0, .int .i64 0]), 4, 32) := by kernel_rfl

theorem flat_take_succ {α : Type} (l : List (List α)) (k : Nat) (hk : k < l.length) : (l.take (k + 1)).flatten = (l.take k).flatten ++ l[k] := by
  rw [take_snoc l k hk, List.flatten_append]
  simp
theorem flat_take_le (l : List (List Entry)) (k : Nat) : (l.take k).flatten.length ≤ cntL cntEntryS l := by
  induction l generalizing k with
  | nil => simp
  | cons x l ih =>
    cases k with
    | zero => simp
    | succ k =>
      have := ih k
      rw [List.take_succ_cons, List.flatten_cons, List.length_append]
      unfold cntL at *
      have hx : x.length ≤ cntEntryS x := cntL_len cntEntry x
      simp only [List.length_cons, List.map_cons, List.sum_cons]
      omega

theorem implEntries_any (y : Yard) (s : Sl × Sl) (w : World) (hl : cntYard y ≤ 2000000) (h : yardD.rd w w.heap.size y s) :
    Calls Tryz.prog 57 #[yardW y s] w fun e w' => ∃ v, e = .returned v ∧ Ow entE 96 w' w.heap.size v (entriesOf y) ∧ Below w.heap.size w w' := by
  obtain ⟨⟨A1, n1, c1⟩, ⟨A2, n2, c2⟩⟩ := s
  obtain rfl : n1 = y.shelf.length := RdL.at1 (s := ⟨A1, n1, c1⟩) h.1
  have h1 : RdL (Dt.list entryD) w w.heap.size (.slice A1 y.shelf.length c1) y.shelf := h.1
  have hll : y.shelf.length ≤ 2000000 := Nat.le_trans (cntL_len cntEntryS _) (by unfold cntYard at hl; omega)
  have HL := Lib.hid (show ∀ k, (y.shelf.take k).flatten.length ≤ 2000000 from fun k => Nat.le_trans (flat_take_le y.shelf k) (by unfold cntYard at hl; omega))
  have HE := Lib.hid (show ∀ k (hk : k < y.shelf.length), y.shelf[k].length ≤ 2000000 from fun k hk => by
    have := cntL_mem (cnt := cntEntryS) (List.getElem_mem hk)
    have h2 : y.shelf[k].length ≤ cntEntryS y.shelf[k] := cntL_len cntEntry _
    unfold cntYard at hl
    omega)
  clear hl h
  have X := DBox.new 34 [.int .i64 y.now, .int .i64 y.seq, .slice A1 y.shelf.length c1, .slice A2 n2 c2] w (b := w.heap.size) rfl
  have B0 : Below w.heap.size w (w.alloc (.cells #[.int .i64 y.now, .int .i64 y.seq, .slice A1 y.shelf.length c1, .slice A2 n2 c2] 34)) := by repeat (first | exact Below.refl _ _ | refine Below.alloc ?_ (by simp <;> omega) _)
  obtain ⟨j0, hj0, jz0, jz1, jz2⟩ := info_parts entE_info
  go_enter Tryz.func57, Tryz.ntmps57
  go_wp2
  generalize (w.alloc (.cells #[.int .i64 y.now, .int .i64 y.seq, .slice A1 y.shelf.length c1, .slice A2 n2 c2] 34)) = W at *
  go_loopw [3, 9] (fun vl i wr => ∃ k : Nat, k ≤ y.shelf.length ∧ i = .int .i64 k ∧ Ow entE 96 wr (w.heap.size + 1) vl (y.shelf.take k).flatten ∧ Below w.heap.size w wr ∧ w.heap.size < wr.heap.size) (fun _ i _ => y.shelf.length - (intOf i).toNat)
  case atStart => exact ⟨0, Nat.zero_le _, rfl, by simpa using Ow.nil entE 96 W (w.heap.size + 1), B0, X.lt⟩
  case round =>
    clear X B0
    obtain ⟨k, hk, rfl, ho, hb, hsz⟩ := hrel
    by_cases hlt : k < y.shelf.length
    · have hltI : (k : Int) < (y.shelf.length : Int) := by omega
      obtain ⟨b, o, ⟨As, ns, cs⟩, rfl, hbb, hr, d0⟩ := (h1.below hb).entryS hlt
      obtain rfl : ns = y.shelf[k].length := RdL.at1 (s := ⟨As, ns, cs⟩) hr
      have hrr := (ent_rd hr).more hb.size
      have S := Lib.hid (flat_take_succ y.shelf k hlt)
      have HLk := Lib.hid (HL.out k)
      have HEk := Lib.hid (HE.out k hlt)
      go_wp2_with (at_builtin; refine wpList_push_all _ entE (by decide) rfl (.tmp 13) (.tmp 14) rfl Tryz.underlying85 hj0 jz0 jz1 jz2 rfl (l := (y.shelf.take k).flatten) rfl ho rfl hrr (Nat.le_trans HLk.out (by omega)) (Nat.le_trans HEk.out (by omega)) (by decide) (by omega) ?_; intro v5 w5 o5 g5 _)
      have W5 := hb.grown g5 hb.size (fun g hg => by have := ho.within _ hg; omega)
      have hz5 := g5.size
      refine ⟨⟨v5, _, .int .i64 ((k : Int) + 1), ⟨k + 1, by omega, by go_num, ?_, W5, by omega⟩, rfl, rfl, rfl⟩, by simp [intOf]; omega⟩
      rw [S.out]
      exact o5
    · have hltI : ¬ (k : Int) < (y.shelf.length : Int) := by omega
      have hk' : k = y.shelf.length := by omega
      subst hk'
      rw [List.take_length] at ho
      go_wp2
      go_ret
      exact ⟨_, rfl, ho.more (by omega), hb⟩

theorem specEntries_any (y : Yard) (s : Sl × Sl) (w : World) (hl : cntYard y ≤ 2000000) (h : yardD.rd w w.heap.size y s) :
    Calls Tryz.prog 52 #[yardW y s] w fun e w' => ∃ v, e = .returned v ∧ Ow entE 96 w' w.heap.size v (entriesOf y) ∧ Below w.heap.size w w' := by
  obtain ⟨⟨A1, n1, c1⟩, ⟨A2, n2, c2⟩⟩ := s
  obtain rfl : n1 = y.shelf.length := RdL.at1 (s := ⟨A1, n1, c1⟩) h.1
  have h1 : RdL (Dt.list entryD) w w.heap.size (.slice A1 y.shelf.length c1) y.shelf := h.1
  have hll : y.shelf.length ≤ 2000000 := Nat.le_trans (cntL_len cntEntryS _) (by unfold cntYard at hl; omega)
  have HL := Lib.hid (show ∀ k, (y.shelf.take k).flatten.length ≤ 2000000 from fun k => Nat.le_trans (flat_take_le y.shelf k) (by unfold cntYard at hl; omega))
  have HE := Lib.hid (show ∀ k (hk : k < y.shelf.length), y.shelf[k].length ≤ 2000000 from fun k hk => by
    have := cntL_mem (cnt := cntEntryS) (List.getElem_mem hk)
    have h2 : y.shelf[k].length ≤ cntEntryS y.shelf[k] := cntL_len cntEntry _
    unfold cntYard at hl
    omega)
  clear hl h
  have X := (DBox.new 34 [.int .i64 y.now, .int .i64 y.seq, .slice A1 y.shelf.length c1, .slice A2 n2 c2] w (b := w.heap.size) rfl).below ((Below.refl _ _).alloc (Nat.le_refl _) (.cells #[] 96))
  have E := DBox.new 96 [] (w.alloc (.cells #[.int .i64 y.now, .int .i64 y.seq, .slice A1 y.shelf.length c1, .slice A2 n2 c2] 34)) (b := w.heap.size + 1) (by simp)
  have B0 : Below w.heap.size w ((w.alloc (.cells #[.int .i64 y.now, .int .i64 y.seq, .slice A1 y.shelf.length c1, .slice A2 n2 c2] 34)).alloc (.cells #[] 96)) := by repeat (first | exact Below.refl _ _ | refine Below.alloc ?_ (by simp <;> omega) _)
  have O0 := Ow.empty entE 96 (w.alloc (.cells #[.int .i64 y.now, .int .i64 y.seq, .slice A1 y.shelf.length c1, .slice A2 n2 c2] 34)) (g := w.heap.size + 1) (by simp)
  obtain ⟨j0, hj0, jz0, jz1, jz2⟩ := info_parts entE_info
  clear E
  go_enter Tryz.func52, Tryz.ntmps52
  go_wp2
  generalize ((w.alloc (.cells #[.int .i64 y.now, .int .i64 y.seq, .slice A1 y.shelf.length c1, .slice A2 n2 c2] 34)).alloc (.cells #[] 96)) = W at *
  go_loopw [3, 4] (fun vl i wr => ∃ k : Nat, k ≤ y.shelf.length ∧ i = .int .i64 k ∧ Ow entE 96 wr (w.heap.size + 1) vl (y.shelf.take k).flatten ∧ DBox w.heap.size [.int .i64 y.now, .int .i64 y.seq, .slice A1 y.shelf.length c1, .slice A2 n2 c2] wr ∧ Below w.heap.size w wr) (fun _ i _ => y.shelf.length - (intOf i).toNat)
  case atStart => exact ⟨0, Nat.zero_le _, rfl, by simpa using O0, X, B0⟩
  case round =>
    clear X B0 O0
    obtain ⟨k, hk, rfl, ho, X, hb⟩ := hrel
    have X_0 := X.cell 0 _ rfl
    have X_1 := X.cell 1 _ rfl
    have X_2 := X.cell 2 _ rfl
    have X_3 := X.cell 3 _ rfl
    have X_l := X.lt
    by_cases hlt : k < y.shelf.length
    · have hltI : (k : Int) < (y.shelf.length : Int) := by omega
      obtain ⟨b, o, ⟨As, ns, cs⟩, rfl, hbb, hr, d0⟩ := (h1.below hb).entryS hlt
      obtain rfl : ns = y.shelf[k].length := RdL.at1 (s := ⟨As, ns, cs⟩) hr
      have hrr := (ent_rd hr).more hb.size
      have S := Lib.hid (flat_take_succ y.shelf k hlt)
      have HLk := Lib.hid (HL.out k)
      have HEk := Lib.hid (HE.out k hlt)
      go_wp2_with (at_builtin; refine wpList_push_all _ entE (by decide) rfl (.tmp 13) (.tmp 18) rfl Tryz.underlying85 hj0 jz0 jz1 jz2 rfl (l := (y.shelf.take k).flatten) rfl ho rfl hrr (Nat.le_trans HLk.out (by omega)) (Nat.le_trans HEk.out (by omega)) (by decide) (by omega) ?_; intro v5 w5 o5 g5 _)
      have W5 := hb.grown g5 hb.size (fun g hg => by have := ho.within _ hg; omega)
      have X5 := X.off g5 (fun e => by have := ho.within _ e.symm; omega)
      refine ⟨⟨k + 1, by omega, by go_num, ?_, X5, W5⟩, by simp [intOf]; omega⟩
      rw [S.out]
      exact o5
    · have hltI : ¬ (k : Int) < (y.shelf.length : Int) := by omega
      have hk' : k = y.shelf.length := by omega
      subst hk'
      rw [List.take_length] at ho
      go_wp2
      go_ret
      exact ⟨_, rfl, ho.more (by omega), hb⟩
end Go.Proofs.YtjobmbjadpldfaaGreat
end
section
namespace Go.Proofs.YtjobmbjadpldfaaGreat
open Go.RowKit
set_option maxRecDepth 100000
set_option maxHeartbeats 2000000
set_option linter.unusedVariables false
set_option linter.unusedSimpArgs false

theorem specTask_any (r : Run) (s : Sl × Sl) (t : Nat) (w : World) (hf : planFault r.plan = 0) (hT : (r.tasks.length : Int) = r.plan.tasks) (ht : t < r.tasks.length) (hst : 1 ≤ r.tasks[t].state ∧ r.tasks[t].state ≤ 6) (h : runD.rd w w.heap.size r s) :
    Calls Tryz.prog 81 #[runW r s, .int .i64 (t : Int)] w fun e w' => e = .returned (.bool (tf (taskP r t))) ∧ Below w.heap.size w w' := by
  obtain ⟨⟨A1, n1, c1⟩, ⟨A2, n2, c2⟩⟩ := s
  obtain rfl : n2 = r.tasks.length := RdL.at1 (s := ⟨A2, n2, c2⟩) h.2
  have h2 : RdL taskD w w.heap.size (.slice A2 r.tasks.length c2) r.tasks := h.2
  have h1 : Rd edgeE w w.heap.size (.slice A1 n1 c1) r.plan.edges := edge_rd h.1
  have hz := planFault_zero.1 hf
  have hl : r.tasks.length ≤ 12 := by have := manyOk_tasks hz.1; omega
  have HQ := Lib.hid (show tf (taskP r t) = tf (taskQ r.tasks[t] (needOf r t) r.plan.most) by unfold taskP; rw [taskAt_get ht])
  have htI : (t : Int) < (r.tasks.length : Int) := by omega
  have HL := Lib.hid (show ∀ x ∈ beforeL (esOf r.plan) r.plan.tasks.toNat t, x < r.tasks.length from fun x hx => by have := beforeL_lt hx; omega)
  have HN := Lib.hid (show (beforeL (esOf r.plan) r.plan.tasks.toNat t).length ≤ 12 by have := beforeL_len (esOf r.plan) r.plan.tasks.toNat t; omega)
  have HD := Lib.hid (show needOf r t = openIn r (beforeL (esOf r.plan) r.plan.tasks.toNat t) from rfl)
  have HS := Lib.hid hst
  have HZ := Lib.hid hz
  clear hT hf h hst hz
  obtain ⟨b, o, _, hA, hbb, _, d0, d1, d2, d3⟩ := h2.task ht
  subst hA
  have X := (DBox.new 84 [.int .i64 r.id, .int .i64 r.plan.prio, .int .i64 r.plan.most, .int .i64 r.plan.wait, .int .i64 r.plan.tasks, .slice A1 n1 c1, .int .i64 r.state, .slice (some ⟨b, o, none⟩) r.tasks.length c2] w (b := w.heap.size) rfl).below ((Below.refl _ _).alloc (Nat.le_refl _) (.cells #[.int .i64 r.tasks[t].state, .int .i64 r.tasks[t].need, .int .i64 r.tasks[t].try_, .int .i64 r.tasks[t].until_] 120))
  have T := DBox.new 120 [.int .i64 r.tasks[t].state, .int .i64 r.tasks[t].need, .int .i64 r.tasks[t].try_, .int .i64 r.tasks[t].until_] (w.alloc (.cells #[.int .i64 r.id, .int .i64 r.plan.prio, .int .i64 r.plan.most, .int .i64 r.plan.wait, .int .i64 r.plan.tasks, .slice A1 n1 c1, .int .i64 r.state, .slice (some ⟨b, o, none⟩) r.tasks.length c2] 84)) (b := w.heap.size + 1) (by simp)
  have B0 : Below w.heap.size w ((w.alloc (.cells #[.int .i64 r.id, .int .i64 r.plan.prio, .int .i64 r.plan.most, .int .i64 r.plan.wait, .int .i64 r.plan.tasks, .slice A1 n1 c1, .int .i64 r.state, .slice (some ⟨b, o, none⟩) r.tasks.length c2] 84)).alloc (.cells #[.int .i64 r.tasks[t].state, .int .i64 r.tasks[t].need, .int .i64 r.tasks[t].try_, .int .i64 r.tasks[t].until_] 120)) := by repeat (first | exact Below.refl _ _ | refine Below.alloc ?_ (by simp <;> omega) _)
  go_enter Tryz.func81, Tryz.ntmps81
  go_wp2_with fail
  generalize ((w.alloc (.cells #[.int .i64 r.id, .int .i64 r.plan.prio, .int .i64 r.plan.most, .int .i64 r.plan.wait, .int .i64 r.plan.tasks, .slice A1 n1 c1, .int .i64 r.state, .slice (some ⟨b, o, none⟩) r.tasks.length c2] 84)).alloc (.cells #[.int .i64 r.tasks[t].state, .int .i64 r.tasks[t].need, .int .i64 r.tasks[t].try_, .int .i64 r.tasks[t].until_] 120)) = W at *
  clear d0 d1 d2 d3
  refine (specBefore_any r.plan (.slice A1 n1 c1) t _ HZ.out.1 HZ.out.2.1 HZ.out.2.2.1 ((h1.below B0).more B0.size)).mono ?_
  rintro e w1 ⟨v, rfl, o1, b1⟩
  generalize beforeL (esOf r.plan) r.plan.tasks.toNat t = L at *
  generalize needOf r t = N at *
  obtain ⟨A3, c3, rfl, -⟩ := id (Rd.of_own o1)
  replace B0 := bnext B0 b1
  replace X := X.below b1
  replace T := T.below b1
  have hll := HN.out
  go_wp2
  go_loopw [6, 8] (fun n i wr => ∃ k : Nat, k ≤ L.length ∧ i = .int .i64 k ∧ n = .int .i64 (openIn r (L.take k) : Nat) ∧ Below w1.heap.size w1 wr) (fun _ i _ => L.length - (intOf i).toNat)
  case atStart => exact ⟨0, Nat.zero_le _, rfl, rfl, Below.refl _ _⟩
  case round =>
    obtain ⟨k, hk, rfl, rfl, hb⟩ := hrel
    have ol := openIn_le r (L.take k)
    rw [List.length_take] at ol
    by_cases hlt : k < L.length
    · have hltI : (k : Int) < (L.length : Int) := by omega
      have hx := HL.out _ (List.getElem_mem hlt)
      obtain ⟨b3, o3, rfl, hb3, e0⟩ := (Rd.of_own (o1.below hb)).nat hlt
      obtain ⟨b2, o2, _, he, hbb2, _, d0, d1, d2, d3⟩ := (h2.below (bnext B0 hb)).task hx
      simp only [Option.some.injEq, Addr.mk.injEq, and_true] at he
      obtain ⟨rfl, rfl⟩ := he
      have hs1 : b < wr.heap.size := Nat.lt_of_lt_of_le hbb (bnext B0 hb).size
      have hxI : (L[k] : Int) < (r.tasks.length : Int) := by omega
      have ht2 := Lib.hid (taskAt_get hx)
      replace X := X.below hb
      have X_0 := X.cell 0 _ rfl
      have X_1 := X.cell 1 _ rfl
      have X_2 := X.cell 2 _ rfl
      have X_3 := X.cell 3 _ rfl
      have X_4 := X.cell 4 _ rfl
      have X_5 := X.cell 5 _ rfl
      have X_6 := X.cell 6 _ rfl
      have X_7 := X.cell 7 _ rfl
      have X_l := X.lt
      by_cases h4 : r.tasks[L[k]].state = 4
      · have S := Lib.hid (openIn_no (r := r) hlt (by rw [ht2.out]; exact h4))
        have t4 : (r.tasks[L[k]].state != 4) = false := by simp [h4]
        clear h4
        go_wp2
        go_quiet (fail)
        go_wp2
        exact ⟨⟨k + 1, by omega, by go_num, by rw [S.out], bdrewN hb _⟩, by simp [intOf]; omega⟩
      · have S := Lib.hid (openIn_yes (r := r) hlt (by rw [ht2.out]; exact h4))
        have t4 : (r.tasks[L[k]].state != 4) = true := by simp [h4]
        clear h4
        go_wp2
        go_quiet (fail)
        go_wp2
        exact ⟨⟨k + 1, by omega, by go_num, by rw [S.out]; go_num, bdrewN hb _⟩, by simp [intOf]; omega⟩
    · have hltI : ¬ (k : Int) < (L.length : Int) := by omega
      have hk' : k = L.length := by omega
      subst hk'
      replace X := X.below hb
      replace T := T.below hb
      have X_0 := X.cell 0 _ rfl
      have X_1 := X.cell 1 _ rfl
      have X_2 := X.cell 2 _ rfl
      have X_3 := X.cell 3 _ rfl
      have X_4 := X.cell 4 _ rfl
      have X_5 := X.cell 5 _ rfl
      have X_6 := X.cell 6 _ rfl
      have X_7 := X.cell 7 _ rfl
      have X_l := X.lt
      have T_0 := T.cell 0 _ rfl
      have T_1 := T.cell 1 _ rfl
      have T_2 := T.cell 2 _ rfl
      have T_3 := T.cell 3 _ rfl
      have T_l := T.lt
      have HN2 := Lib.hid (show (N : Int) = (openIn r (L.take L.length) : Nat) by rw [HD.out, List.take_length])
      have HSt := HS.out
      have B1 := bnext B0 hb
      clear hb o1 B0
      generalize r.tasks[t] = x at *
      generalize (openIn r (L.take L.length) : Nat) = M at *
      generalize hM : (M : Int) = m at *
      have hm0 : 0 ≤ m := by omega
      have hm1 : m ≤ 12 := by omega
      clear hM
      by_cases a2 : x.need = m
      case neg =>
        have a2' : (x.need != m) = true := by simp [a2]
        have H := Lib.hid (show tf (taskP r t) = false by rw [HQ.out]; exact tf_false (fun h => a2 (by rw [h.2.1, HN2.out])))
        clear a2
        go_wp2
        go_ret
        exact ⟨ret_bool H.out.symm, B1⟩
      have a2' : (x.need != m) = false := by simp [a2]
      cases a3 : inB x.try_ 0 r.plan.most
      case false =>
        have H := Lib.hid (show tf (taskP r t) = false by rw [HQ.out]; exact tf_false (fun h => by have := inB_iff.2 h.2.2.1; rw [a3] at this; cases this))
        clear a2
        go_wp2_with (go_at_call 26; refine (l01In_any _ _ _ _).mono ?_; rintro e w' ⟨rfl, rfl⟩)
        go_ret
        exact ⟨ret_bool H.out.symm, B1⟩
      have H := Lib.hid (show tf (taskP r t) = taskFin x r.plan.most by rw [HQ.out]; exact taskQ_fin HSt (by rw [a2, HN2.out]) (inB_iff.1 a3))
      obtain ⟨st, nd, tr, un⟩ := x
      simp only at *
      subst a2
      have S := (show st = 1 ∨ st = 2 ∨ st = 3 ∨ st = 4 ∨ st = 5 ∨ st = 6 by omega)
      clear HSt
      rcases S with rfl | rfl | rfl | rfl | rfl | rfl
      all_goals
        go_wp2_with (go_at_call 26; refine (l01In_any _ _ _ _).mono ?_; rintro e w' ⟨rfl, rfl⟩)
        all_goals
          go_ret
          exact ⟨ret_bool (by
            rw [H.out]
            unfold taskFin
            try have e1 := bne_t ‹(un != 0) = true›
            try have e1 := bne_f ‹(un != 0) = false›
            try have e3 := beq_t ‹(nd == 0) = true›
            try have e3 := beq_f ‹(nd == 0) = false›
            simp [*]), B1⟩
end Go.Proofs.YtjobmbjadpldfaaGreat
end
