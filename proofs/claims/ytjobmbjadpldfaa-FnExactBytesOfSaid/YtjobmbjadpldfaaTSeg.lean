/-
  Data of the type Seg: how it lies in memory, and the walks of the laws' helpers on it. Written by program (deep.py).
-/
import Derived.Test.YtjobmbjadpldfaaTNote
namespace Go.Proofs.Ytjobmbjadpldfaa
open Go.RowKit
set_option maxRecDepth 100000
set_option maxHeartbeats 1000000
set_option linter.unusedVariables false
set_option linter.unusedSimpArgs false

structure Seg where
  fr : Int
  notes : List Note
deriving DecidableEq, Inhabited

@[go_sem] abbrev segW (x : Seg) (s : Sl) : Value := .agg #[.int .i64 x.fr, .slice s.a s.n s.c]
abbrev segD : Dt Seg := Dt.via (Dt.list noteD) (·.notes) (fun q => [.int .i64 q.1.fr, .slice q.2.a q.2.n q.2.c]) 2 (fun _ => rfl) (fun q u hu => by simp at hu; rcases hu with rfl | rfl <;> rfl)
/-- all lengths in it together -/
def cntSeg (x : Seg) : Nat := cntL cntNote x.notes
/-- ints are int64, lengths are what a machine holds -/
def wfSeg (x : Seg) : Prop := Wf x.fr ∧ wfL wfNote x.notes
def numSeg (x : Seg) : Nat := 1 + numL numNote x.notes
/-- with the marks from k on -/
def mkSeg (k : Int) (x : Seg) : Seg := ⟨k, mkL mkNote numNote (k + 1) x.notes⟩
theorem numSeg_le (x : Seg) : numSeg x ≤ 13 * (cntSeg x + 1) := by
  have h0 := numL_le (num := numNote) (cnt := cntNote) (K := 13) numNote_le x.notes
  unfold numSeg cntSeg
  omega

theorem RdL.seg {w : World} {B : Nat} {A : Option Addr} {n c : Nat} {l : List (Seg)} (h : RdL segD w B (.slice A n c) l) {k : Nat} (hk : k < l.length) :
    ∃ b o, ∃ s : Sl, A = some ⟨b, o, none⟩ ∧ b < B ∧ segD.rd w B l[k] s ∧ w.cell? ⟨b, o + k * 2, none⟩ = some (.int .i64 l[k].fr) ∧ w.cell? ⟨b, o + k * 2 + 1, none⟩ = some (.slice s.a s.n s.c) := by
  obtain ⟨b, o, s, rfl, hb, hc, hr⟩ := h.at_ k hk
  exact ⟨b, o, s, rfl, hb, hr, hc 0 _ rfl, hc 1 _ rfl⟩
theorem Ow.c_seg {E : TypeId} {w : World} {base g n cap : Nat} {l : List ((Seg) × Sl)} (h : Ow segD.enc E w base (.slice (some ⟨g, 0, none⟩) n cap) l) {k : Nat} (hk : k < l.length) :
    w.cell? ⟨g, k * 2, none⟩ = some (.int .i64 l[k].1.fr) ∧ w.cell? ⟨g, k * 2 + 1, none⟩ = some (.slice l[k].2.a l[k].2.n l[k].2.c) := by
  rcases h.form with ⟨h1, _⟩ | ⟨g', cap', hv, _, _, _, _, _, hc⟩
  · simp at h1
  · simp only [Value.slice.injEq, Option.some.injEq, Addr.mk.injEq, and_true] at hv
    obtain ⟨rfl, _, _⟩ := hv
    exact ⟨hc k hk 0 _ rfl, hc k hk 1 _ rfl⟩
theorem Foc.seg {w : World} {b o n c j : Nat} {rs : List ((Seg) × Sl)} {G1 Fx G2 : List Nat} {x : Seg} {s : Sl} (h : Foc segD w b o n c rs j G1 Fx G2 x s) :
    w.cell? ⟨b, o + j * 2, none⟩ = some (.int .i64 x.fr) ∧ w.cell? ⟨b, o + j * 2 + 1, none⟩ = some (.slice s.a s.n s.c) := ⟨h.cells 0 _ rfl, h.cells 1 _ rfl⟩

end Go.Proofs.Ytjobmbjadpldfaa
