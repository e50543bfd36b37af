/-
  Data of the type Desk: how it lies in memory, and the walks of the laws' helpers on it. Written by program (deep.py).
-/
import Derived.Test.YtjobmbjadpldfaaTYard
import Derived.Test.YtjobmbjadpldfaaTMemo
namespace Go.Proofs.Ytjobmbjadpldfaa
open Go.RowKit
set_option maxRecDepth 100000
set_option maxHeartbeats 1000000
set_option linter.unusedVariables false
set_option linter.unusedSimpArgs false

structure Desk where
  yard : Yard
  memos : List Memo
  fr : Int
deriving DecidableEq, Inhabited

@[go_sem] abbrev deskW (x : Desk) (s : (Sl × Sl) × Sl) : Value := .agg #[.int .i64 x.yard.now, .int .i64 x.yard.seq, .slice s.1.1.a s.1.1.n s.1.1.c, .slice s.1.2.a s.1.2.n s.1.2.c, .slice s.2.a s.2.n s.2.c, .int .i64 x.fr]
abbrev deskD : Dt Desk := Dt.two yardD (Dt.list memoD) (·.yard) (·.memos) (fun q => [.int .i64 q.1.yard.now, .int .i64 q.1.yard.seq, .slice q.2.1.1.a q.2.1.1.n q.2.1.1.c, .slice q.2.1.2.a q.2.1.2.n q.2.1.2.c, .slice q.2.2.a q.2.2.n q.2.2.c, .int .i64 q.1.fr]) 6 (fun _ => rfl) (fun q u hu => by simp at hu; rcases hu with rfl | rfl | rfl | rfl | rfl | rfl <;> rfl)
/-- all lengths in it together -/
def cntDesk (x : Desk) : Nat := cntYard x.yard + cntL cntMemo x.memos
/-- ints are int64, lengths are what a machine holds -/
def wfDesk (x : Desk) : Prop := wfYard x.yard ∧ wfL wfMemo x.memos ∧ Wf x.fr
def numDesk (x : Desk) : Nat := 3 + numL numEntryS x.yard.shelf + numL numRun x.yard.runs + numL numMemo x.memos
/-- with the marks from k on -/
def mkDesk (k : Int) (x : Desk) : Desk := ⟨⟨k, k + 1, mkL mkEntryS numEntryS (k + 1 + 1) x.yard.shelf, mkL mkRun numRun (k + 1 + 1 + (numL numEntryS x.yard.shelf : Nat)) x.yard.runs⟩, mkL mkMemo numMemo (k + 1 + 1 + (numL numEntryS x.yard.shelf : Nat) + (numL numRun x.yard.runs : Nat)) x.memos, k + 1 + 1 + (numL numEntryS x.yard.shelf : Nat) + (numL numRun x.yard.runs : Nat) + (numL numMemo x.memos : Nat)⟩
theorem numDesk_le (x : Desk) : numDesk x ≤ 13 * (cntDesk x + 1) := by
  have h0 := numL_le (num := numEntryS) (cnt := cntEntryS) (K := 13) numEntryS_le x.yard.shelf
  have h1 := numL_le (num := numRun) (cnt := cntRun) (K := 13) numRun_le x.yard.runs
  have h2 := numL_le (num := numMemo) (cnt := cntMemo) (K := 13) numMemo_le x.memos
  unfold numDesk cntDesk cntYard
  omega

end Go.Proofs.Ytjobmbjadpldfaa
