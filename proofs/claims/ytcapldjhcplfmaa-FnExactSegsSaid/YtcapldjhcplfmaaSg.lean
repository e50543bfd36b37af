/-
  Parts of notes, plain: which are right, where a number lies, the notes of all.
-/
import Derived.Test.YtcapldjhcplfmaaTSeg
import Derived.Test.YtcapldjhcplfmaaWi
namespace Go.Proofs.Ytcapldjhcplfmaa
open Go.RowKit

instance : Inhabited Seg := ⟨⟨0, []⟩⟩
def segAt (l : List Seg) (i : Nat) : Seg := l.getD i ⟨0, []⟩
theorem segAt_get {l : List Seg} {i : Nat} (h : i < l.length) : segAt l i = l[i] := by
  unfold segAt
  rw [List.getD_eq_getElem?_getD, List.getElem?_eq_getElem h]
  rfl
def seqAt (l : List Note) (i : Nat) : Int := (l.map (·.seq)).getD i 0
theorem seqAt_get {l : List Note} {i : Nat} (h : i < l.length) : seqAt l i = l[i].seq := by
  unfold seqAt
  rw [List.getD_eq_getElem?_getD, List.getElem?_eq_getElem (by rw [List.length_map]; exact h), List.getElem_map]
  rfl
def noteFit (s : Seg) (j : Nat) : Bool := decide (seqAt s.notes j = s.fr + j) && decide (s.fr + j ≤ 1000000000)
def notesFit (s : Seg) : Bool := (List.range s.notes.length).all (noteFit s)
/-- the number behind a part -/
def endO (s : Seg) : Int := s.fr + s.notes.length
def segFit (l : List Seg) (i : Nat) : Bool := inB (segAt l i).fr 1 1000000000 && (decide (i = 0) || decide ((segAt l i).fr = endO (segAt l (i - 1)))) && notesFit (segAt l i)
def totN (l : List Seg) : Nat := (l.map fun s => s.notes.length).sum
def segsOk (l : List Seg) : Bool := decide (l.length ≤ 60) && decide (totN l ≤ 400) && (List.range l.length).all (segFit l)

theorem allB_true {n : Nat} {p : Nat → Bool} (h : ∀ j, j < n → p j = true) : (List.range n).all p = true := by
  rw [List.all_eq_true]
  intro j hj
  exact h j (by simpa using hj)
theorem allB_false {n k : Nat} {p : Nat → Bool} (hk : k < n) (h : p k = false) : (List.range n).all p = false := by
  rw [List.all_eq_false]
  exact ⟨k, by simpa using hk, by simp [h]⟩
theorem allB_get {n k : Nat} {p : Nat → Bool} (h : (List.range n).all p = true) (hk : k < n) : p k = true := by
  rw [List.all_eq_true] at h
  exact h k (by simpa using hk)
theorem segsOk_len {l : List Seg} (h : ¬ l.length ≤ 60) : segsOk l = false := by simp [segsOk, h]
theorem segsOk_tot {l : List Seg} (h : ¬ totN l ≤ 400) : segsOk l = false := by simp [segsOk, h]
theorem segsOk_fit {l : List Seg} {k : Nat} (hk : k < l.length) (h : segFit l k = false) : segsOk l = false := by
  unfold segsOk
  rw [allB_false hk h]
  simp
theorem segsOk_all {l : List Seg} (h1 : l.length ≤ 60) (h2 : totN l ≤ 400) (h : ∀ j, j < l.length → segFit l j = true) : segsOk l = true := by
  unfold segsOk
  rw [allB_true h]
  simp [h1, h2]
theorem segsOk_get {l : List Seg} (h : segsOk l = true) : l.length ≤ 60 ∧ totN l ≤ 400 ∧ ∀ j, j < l.length → segFit l j = true := by
  unfold segsOk at h
  simp only [Bool.and_eq_true, decide_eq_true_eq] at h
  exact ⟨h.1.1, h.1.2, fun j hj => allB_get h.2 hj⟩
theorem totN_take_succ (l : List Seg) (k : Nat) (h : k < l.length) : totN (l.take (k + 1)) = totN (l.take k) + l[k].notes.length := sum_take_succ _ l k h
theorem totN_take_le (l : List Seg) (k : Nat) : totN (l.take k) ≤ totN l := sum_take_le _ l k
theorem notesFit_get {s : Seg} (h : notesFit s = true) {j : Nat} (hj : j < s.notes.length) : s.notes[j].seq = s.fr + j ∧ s.fr + j ≤ 1000000000 := by
  have := allB_get h hj
  simp only [noteFit, Bool.and_eq_true, decide_eq_true_eq, seqAt_get hj] at this
  exact this
theorem notesFit_false {s : Seg} {j : Nat} (hj : j < s.notes.length) (h : ¬ (s.notes[j].seq = s.fr + j ∧ s.fr + j ≤ 1000000000)) : notesFit s = false := by
  refine allB_false hj ?_
  unfold noteFit
  rw [seqAt_get hj, ← Bool.not_eq_true, Bool.and_eq_true, decide_eq_true_eq, decide_eq_true_eq]
  exact h
theorem notesFit_all {s : Seg} (h : ∀ j (hj : j < s.notes.length), s.notes[j].seq = s.fr + j ∧ s.fr + j ≤ 1000000000) : notesFit s = true := by
  refine allB_true fun j hj => ?_
  simp only [noteFit, Bool.and_eq_true, decide_eq_true_eq, seqAt_get hj]
  exact h j hj
theorem segFit_in {l : List Seg} {k : Nat} (hk : k < l.length) (h : inB l[k].fr 1 1000000000 = false) : segFit l k = false := by
  unfold segFit
  rw [segAt_get hk, h]
  simp
theorem segFit_step {l : List Seg} {k : Nat} (hk : k + 1 < l.length) (h : ¬ l[k + 1].fr = endO l[k]) : segFit l (k + 1) = false := by
  unfold segFit
  rw [segAt_get hk, show k + 1 - 1 = k from rfl, segAt_get (show k < l.length by omega), decide_eq_false h]
  simp
theorem segFit_notes {l : List Seg} {k : Nat} (hk : k < l.length) (h : notesFit l[k] = false) : segFit l k = false := by
  unfold segFit
  rw [segAt_get hk, h]
  simp
theorem segFit_yes {l : List Seg} {k : Nat} (hk : k < l.length) (h1 : inB l[k].fr 1 1000000000 = true) (h2 : 0 < k → l[k].fr = endO (segAt l (k - 1))) (h3 : notesFit l[k] = true) : segFit l k = true := by
  unfold segFit
  rw [segAt_get hk, h1, h3]
  by_cases e : k = 0
  · simp [e]
  · simp [e, h2 (by omega)]
theorem segFit_get {l : List Seg} {k : Nat} (hk : k < l.length) (h : segFit l k = true) : inB l[k].fr 1 1000000000 = true ∧ notesFit l[k] = true := by
  unfold segFit at h
  rw [segAt_get hk] at h
  simp only [Bool.and_eq_true] at h
  exact ⟨h.1.1, h.2⟩

/-- the part that has the number -/
def hasNo (q : Int) (s : Seg) : Bool := decide (0 < s.notes.length) && inB q s.fr (endO s - 1)
def segFor (l : List Seg) (q : Int) : Int := if segsOk l = true then idxOf (hasNo q) l else -1
theorem hasNo_iff {s : Seg} (h : notesFit s = true) (q : Int) : hasNo q s = true ↔ ∃ j, ∃ hj : j < s.notes.length, s.notes[j].seq = q := by
  unfold hasNo inB endO
  simp only [Bool.and_eq_true, decide_eq_true_eq]
  constructor
  · rintro ⟨h1, h2, h3⟩
    exact ⟨(q - s.fr).toNat, by omega, by rw [(notesFit_get h (by omega)).1]; omega⟩
  · rintro ⟨j, hj, e⟩
    have := (notesFit_get h hj).1
    omega
/-- the notes of all parts -/
def notesOf (l : List Seg) : List Note := l.flatMap (·.notes)
theorem notesOf_take_succ (l : List Seg) (k : Nat) (h : k < l.length) : notesOf (l.take (k + 1)) = notesOf (l.take k) ++ l[k].notes := by
  unfold notesOf
  rw [take_snoc l k h, List.flatMap_append]
  simp
theorem notesOf_len (l : List Seg) : (notesOf l).length = totN l := by
  unfold notesOf totN
  rw [List.length_flatMap]
theorem totN_le : ∀ (l : List Seg), totN l ≤ cntL cntSeg l
  | [] => by simp [totN]
  | s :: l => by
    have h1 := totN_le l
    have h2 := cntL_len cntNote s.notes
    unfold totN cntL at *
    simp only [List.map_cons, List.sum_cons, List.length_cons, cntSeg] at *
    unfold cntL at *
    omega
theorem cnt_notesOf : ∀ (l : List Seg), cntL cntNote (notesOf l) ≤ cntL cntSeg l
  | [] => by simp [notesOf, cntL]
  | s :: l => by
    have h1 := cnt_notesOf l
    unfold notesOf at h1 ⊢
    unfold cntL at *
    simp only [List.flatMap_cons, List.map_append, List.sum_append, List.length_append, List.map_cons, List.sum_cons, List.length_cons, cntSeg] at *
    unfold cntL
    omega
end Go.Proofs.Ytcapldjhcplfmaa
