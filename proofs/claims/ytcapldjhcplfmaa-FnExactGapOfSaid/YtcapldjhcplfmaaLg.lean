/-
  How far a follower lies behind; what it lacks. Plain.
-/
import Derived.Test.YtcapldjhcplfmaaTFollower
import Derived.Test.YtcapldjhcplfmaaTNote
import Derived.Test.YtcapldjhcplfmaaWi
namespace Go.Proofs.Ytcapldjhcplfmaa
open Go.RowKit

def lagN (q : Int) (l : List Note) : Nat := (l.filter fun x => decide (q < x.seq)).length
def lagOf (f : Follower) (l : List Note) : Int := (lagN f.seq l : Nat)
theorem lagN_le (q : Int) (l : List Note) : lagN q l ≤ l.length := List.length_filter_le _ _
theorem lagN_yes {q : Int} {l : List Note} {k : Nat} (h : k < l.length) (h1 : q < l[k].seq) : lagN q (l.take (k + 1)) = lagN q (l.take k) + 1 := by
  unfold lagN
  rw [take_snoc l k h, List.filter_append]
  simp [h1]
theorem lagN_no {q : Int} {l : List Note} {k : Nat} (h : k < l.length) (h1 : ¬ q < l[k].seq) : lagN q (l.take (k + 1)) = lagN q (l.take k) := by
  unfold lagN
  rw [take_snoc l k h, List.filter_append]
  simp [h1]
def nextIn (q : Int) (l : List Note) : Bool := l.any fun x => decide (x.seq = q + 1)
def moreIn (q : Int) (l : List Note) : Bool := l.any fun x => decide (q < x.seq)
def gapN (q : Int) (l : List Note) : Int × Bool := if nextIn q l = true then (0, false) else if moreIn q l = true then (q + 1, true) else (0, false)
def gapOf (f : Follower) (l : List Note) : Int × Bool := gapN f.seq l
theorem nextIn_yes {q : Int} {l : List Note} {k : Nat} (h : k < l.length) (h1 : l[k].seq = q + 1) : gapN q l = (0, false) := by
  have : nextIn q l = true := by
    unfold nextIn
    rw [List.any_eq_true]
    exact ⟨l[k], List.getElem_mem h, by simp [h1]⟩
  simp [gapN, this]
theorem any_take_succ (p : Note → Bool) (l : List Note) (k : Nat) (h : k < l.length) : (l.take (k + 1)).any p = ((l.take k).any p || p l[k]) := by
  rw [take_snoc l k h, List.any_append]
  simp
theorem gap_end_no {q : Int} {l : List Note} (h1 : nextIn q l = false) (h2 : moreIn q l = false) : gapN q l = (0, false) := by simp [gapN, h1, h2]
theorem gap_end_yes {q : Int} {l : List Note} (h1 : nextIn q l = false) (h2 : moreIn q l = true) : gapN q l = (q + 1, true) := by simp [gapN, h1, h2]
theorem moreIn_lt {q : Int} {l : List Note} (h : moreIn q l = true) : ∃ k, ∃ hk : k < l.length, q < l[k].seq := by
  unfold moreIn at h
  rw [List.any_eq_true] at h
  obtain ⟨x, hx, e⟩ := h
  obtain ⟨k, hk, rfl⟩ := List.getElem_of_mem hx
  exact ⟨k, hk, by simpa using e⟩
theorem nextIn_no {q : Int} {l : List Note} {k : Nat} (h : k < l.length) (h0 : nextIn q (l.take k) = false) (h1 : ¬ l[k].seq = q + 1) : nextIn q (l.take (k + 1)) = false := by
  unfold nextIn at *
  rw [any_take_succ _ _ _ h, h0]
  simp [h1]
theorem moreIn_old {q : Int} {l : List Note} {k : Nat} (h : k < l.length) (h0 : moreIn q (l.take k) = true) : moreIn q (l.take (k + 1)) = true := by
  unfold moreIn at *
  rw [any_take_succ _ _ _ h, h0]
  simp
theorem moreIn_yes {q : Int} {l : List Note} {k : Nat} (h : k < l.length) (h1 : q < l[k].seq) : moreIn q (l.take (k + 1)) = true := by
  unfold moreIn at *
  rw [any_take_succ _ _ _ h]
  simp [h1]
theorem moreIn_no {q : Int} {l : List Note} {k : Nat} (h : k < l.length) (h1 : ¬ q < l[k].seq) : moreIn q (l.take (k + 1)) = moreIn q (l.take k) := by
  unfold moreIn at *
  rw [any_take_succ _ _ _ h]
  simp [h1]
end Go.Proofs.Ytcapldjhcplfmaa
