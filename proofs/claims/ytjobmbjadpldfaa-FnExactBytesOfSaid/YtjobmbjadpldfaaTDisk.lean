/-
  Data of the type Disk: how it lies in memory, and the walks of the laws' helpers on it. Written by program (deep.py).
-/
import Derived.Test.YtjobmbjadpldfaaTFile
namespace Go.Proofs.Ytjobmbjadpldfaa
open Go.RowKit
set_option maxRecDepth 100000
set_option maxHeartbeats 1000000
set_option linter.unusedVariables false
set_option linter.unusedSimpArgs false

structure Disk where
  files : List File
deriving DecidableEq, Inhabited

@[go_sem] abbrev diskW (x : Disk) (s : Sl) : Value := .agg #[.slice s.a s.n s.c]
abbrev diskD : Dt Disk := Dt.via (Dt.list fileD) (·.files) (fun q => [.slice q.2.a q.2.n q.2.c]) 1 (fun _ => rfl) (fun q u hu => by simp at hu; subst hu; rfl)
/-- all lengths in it together -/
def cntDisk (x : Disk) : Nat := cntL cntFile x.files
/-- ints are int64, lengths are what a machine holds -/
def wfDisk (x : Disk) : Prop := wfL wfFile x.files

theorem toDisk_own (x : Disk) (s : Sl) (w : World) (hl : cntDisk x ≤ 2000000) (h : diskD.rd w w.heap.size x s) :
    Calls Try.prog 28 #[diskW x s] w (OwnPost diskD diskW x w) := by
  have hbx : ∀ W, Below w.heap.size w W → diskD.rd W W.heap.size x s := fun W hW => diskD.rd_more (diskD.rd_below h hW) hW.size
  go_enter Try.func28, Try.ntmps28
  go_wp2_with fail
  refine (toFileS_own x.files s _ (by unfold cntDisk at hl; omega) ((hbx _ (by repeat (first | exact Below.refl _ _ | refine Below.alloc ?_ (by simp <;> omega) _))))).mono ?_
  rintro e w0 ⟨s0, F0, rfl, o0, n0, hb0⟩
  obtain ⟨q0, p0⟩ := bcell hb0
  have z0 := hb0.size
  simp only [World.size_alloc, World.size_setCell] at z0 n0
  have B0 : Below w.heap.size w w0 := bnext (by repeat (first | exact Below.refl _ _ | refine Below.alloc ?_ (by simp <;> omega) _)) hb0
  go_wp2
  refine bodyPost_ret (v := diskW x s0) ?_ rfl ?_
  · simp [diskW, results, Try.results28, go_sem, q0]
  · refine ⟨s0, F0, rfl, ?_, ?_, ?_⟩
    · repeat (first | (with_reducible exact o0) | refine Dt.ow_set (Dt.list fileD) ?_ (by intro hm; have := n0 _ hm; (try simp only [World.size_alloc, World.size_setCell] at this); omega) _)
    · intro b hb
      have := n0 b hb
      omega
    · repeat (first | (with_reducible exact B0) | (with_reducible exact Below.refl _ _) | refine Below.setCell ?_ (by simp <;> omega) _ | refine Below.alloc ?_ (by simp <;> omega) _)

theorem eqDisk_own (x y : Disk) (s r : Sl) (w : World) (hl : cntDisk x ≤ 2000000) (hl' : cntDisk y ≤ 2000000) (h : diskD.rd w w.heap.size x s) (h' : diskD.rd w w.heap.size y r) :
    Calls Try.prog 32 #[diskW x s, diskW y r] w fun e w' => e = .returned (.bool (decide (x = y))) ∧ Below w.heap.size w w' := by
  have hbx : ∀ W, Below w.heap.size w W → diskD.rd W W.heap.size x s := fun W hW => diskD.rd_more (diskD.rd_below h hW) hW.size
  have hby : ∀ W, Below w.heap.size w W → diskD.rd W W.heap.size y r := fun W hW => diskD.rd_more (diskD.rd_below h' hW) hW.size
  go_enter Try.func32, Try.ntmps32
  go_wp2_with fail
  refine (eqFileS_own x.files y.files s r _ (by unfold cntDisk at hl; omega) (by unfold cntDisk at hl'; omega) ((hbx _ (by repeat (first | exact Below.refl _ _ | refine Below.alloc ?_ (by simp <;> omega) _)))) ((hby _ (by repeat (first | exact Below.refl _ _ | refine Below.alloc ?_ (by simp <;> omega) _))))).mono ?_
  rintro e w0 ⟨rfl, hb0⟩
  have B0 : Below w.heap.size w w0 := bnext (by repeat (first | exact Below.refl _ _ | refine Below.alloc ?_ (by simp <;> omega) _)) hb0
  obtain ⟨q0, p0⟩ := bcell hb0
  have z0 := hb0.size
  try simp only [World.size_alloc] at z0
  by_cases h0 : x.files = y.files
  case neg =>
    have H := Lib.hid (show decide (x = y) = false by simp only [decide_eq_false_iff_not]; intro e; exact h0 (by rw [e]))
    rw [decide_eq_false h0]
    clear h0
    go_wp2
    go_ret
    exact ⟨ret_bool (by first | exact H.out.symm | rfl), by exact B0⟩
  rw [decide_eq_true h0]
  have H0 := Lib.hid h0
  clear h0
  have H := Lib.hid (show decide (x = y) = true by
    simp only [decide_eq_true_eq]
    have e0 := H0.out
    cases x
    cases y
    simp only at e0
    subst e0
    rfl)
  go_wp2
  go_ret
  exact ⟨ret_bool (by first | exact H.out.symm | rfl), by exact B0⟩

theorem szDisk_own (x : Disk) (s : Sl) (left : Int) (w : World) (h0 : 0 ≤ left) (h1 : left ≤ 2000000) (hw : wfDisk x) (h : diskD.rd w w.heap.size x s) :
    Calls Try.prog 24 #[diskW x s, .int .i64 left] w (SzPost left (cntDisk x) w) := by
  have hbx : ∀ W, Below w.heap.size w W → diskD.rd W W.heap.size x s := fun W hW => diskD.rd_more (diskD.rd_below h hW) hW.size
  go_enter Try.func24, Try.ntmps24
  go_wp2_with fail
  refine (szFileS_own x.files s left _ (by omega) (by omega) hw ((hbx _ (by repeat (first | exact Below.refl _ _ | refine Below.alloc ?_ (by simp <;> omega) _))))).mono ?_
  rintro e w0 ⟨r0, rfl, hr0, hb0⟩
  have B0 : Below w.heap.size w w0 := bnext (by repeat (first | exact Below.refl _ _ | refine Below.alloc ?_ (by simp <;> omega) _)) hb0
  obtain ⟨q0, p0⟩ := bcell hb0
  rcases hr0 with rfl | ⟨y0, z0⟩
  · go_wp2
    go_ret
    exact ⟨-1, rfl, .inl rfl, B0⟩
  go_wp2
  go_ret
  exact ⟨_, rfl, .inr ⟨by omega, by unfold cntDisk; omega⟩, B0⟩
end Go.Proofs.Ytjobmbjadpldfaa
