/-
  DeedOk of the reference, its parts.
-/
import Derived.Test.YtjobmbjadpldfaaVf
import Derived.Test.YtjobmbjadpldfaaTNote
import Derived.Test.YtjobmbjadpldfaaCd
import Derived.Test.YtjobmbjadpldfaaAt
import Derived.Test.YtjobmbjadpldfaaDe
namespace Go.Proofs.Ytjobmbjadpldfaa
open Go.RowKit
set_option maxRecDepth 100000
set_option maxHeartbeats 2000000
set_option linter.unusedVariables false
set_option linter.unusedSimpArgs false

def numB (n : Int) : Bool := inB n 0 1000000000
def planNums (p : Plan) : Bool := numB p.prio && numB p.most && numB p.wait && numB p.tasks && decide (p.edges.length ≤ 31) && p.edges.all fun e => numB e.fr && numB e.to
def planNone (p : Plan) : Bool := p.prio == 0 && p.most == 0 && p.wait == 0 && p.tasks == 0 && p.edges.length == 0
def deedOk (d : Deed) : Bool :=
  inB d.kind 1 8 &&
  (if d.kind = 2 ∨ d.kind = 5 ∨ d.kind = 8 then d.run == 0 else numB d.run) &&
  (if d.kind = 3 ∨ d.kind = 4 then numB d.task && numB d.try_ else d.task == 0 && d.try_ == 0) &&
  (if d.kind = 2 then numB d.worker && numB d.draw else d.worker == 0 && d.draw == 0) &&
  (if d.kind = 1 then planNums d.plan else planNone d.plan)

theorem specNoPlan_any (p : Plan) (s : Sl) (w : World) (h : planD.rd w w.heap.size p s) :
    Calls Try.prog 84 #[planW p s] w fun e w' => e = .returned (.bool (planNone p)) ∧ Below w.heap.size w w' := by
  obtain ⟨A, n, c⟩ := s
  obtain rfl : n = p.edges.length := RdL.at1 (s := ⟨A, n, c⟩) h
  have X := DBox.new 72 [.int .i64 p.prio, .int .i64 p.most, .int .i64 p.wait, .int .i64 p.tasks, .slice A p.edges.length c] w (b := w.heap.size) rfl
  have B0 : Below w.heap.size w (w.alloc (.cells #[.int .i64 p.prio, .int .i64 p.most, .int .i64 p.wait, .int .i64 p.tasks, .slice A p.edges.length c] 72)) := by repeat (first | exact Below.refl _ _ | refine Below.alloc ?_ (by simp <;> omega) _)
  have H := Lib.hid (show planNone p = (p.prio == 0 && p.most == 0 && p.wait == 0 && p.tasks == 0 && p.edges.length == 0) from rfl)
  by_cases a0 : p.prio = 0
  case neg =>
    have b0 : (p.prio == 0) = false := by simpa using a0
    go_enter Try.func84, Try.ntmps84
    go_wp2
    go_ret
    exact ⟨ret_bool (by rw [H.out]; simp [b0]), B0⟩
  have b0 : (p.prio == 0) = true := by simpa using a0
  clear a0
  by_cases a1 : p.most = 0
  case neg =>
    have b1 : (p.most == 0) = false := by simpa using a1
    go_enter Try.func84, Try.ntmps84
    go_wp2
    go_ret
    exact ⟨ret_bool (by rw [H.out]; simp [b0, b1]), B0⟩
  have b1 : (p.most == 0) = true := by simpa using a1
  clear a1
  by_cases a2 : p.wait = 0
  case neg =>
    have b2 : (p.wait == 0) = false := by simpa using a2
    go_enter Try.func84, Try.ntmps84
    go_wp2
    go_ret
    exact ⟨ret_bool (by rw [H.out]; simp [b0, b1, b2]), B0⟩
  have b2 : (p.wait == 0) = true := by simpa using a2
  clear a2
  by_cases a3 : p.tasks = 0
  case neg =>
    have b3 : (p.tasks == 0) = false := by simpa using a3
    go_enter Try.func84, Try.ntmps84
    go_wp2
    go_ret
    exact ⟨ret_bool (by rw [H.out]; simp [b0, b1, b2, b3]), B0⟩
  have b3 : (p.tasks == 0) = true := by simpa using a3
  clear a3
  by_cases a4 : p.edges.length = 0
  case neg =>
    have b4 : ((p.edges.length : Int) == 0) = false := by rw [beq_eq_false_iff_ne]; omega
    have b5 : (p.edges.length == 0) = false := by rw [beq_eq_false_iff_ne]; exact a4
    go_enter Try.func84, Try.ntmps84
    go_wp2
    go_ret
    exact ⟨ret_bool (by rw [H.out]; simp [b0, b1, b2, b3, b5]), B0⟩
  have b4 : ((p.edges.length : Int) == 0) = true := by rw [beq_iff_eq]; omega
  have b5 : (p.edges.length == 0) = true := by rw [beq_iff_eq]; exact a4
  clear a4
  go_enter Try.func84, Try.ntmps84
  go_wp2
  go_ret
  exact ⟨ret_bool (by rw [H.out]; simp [b0, b1, b2, b3, b5]), B0⟩

theorem all_no {α : Type} {f : α → Bool} {l : List α} {k : Nat} (h : k < l.length) (hn : f l[k] = false) : l.all f = false := by
  rw [List.all_eq_false]
  exact ⟨l[k], List.getElem_mem h, by simp [hn]⟩
theorem planNums_no {p : Plan} {k : Nat} (h : k < p.edges.length) (hn : (numB p.edges[k].fr && numB p.edges[k].to) = false) : planNums p = false := by
  unfold planNums
  rw [all_no h hn, Bool.and_false]

theorem specNumPlan_any (p : Plan) (s : Sl) (w : World) (h : planD.rd w w.heap.size p s) :
    Calls Try.prog 83 #[planW p s] w fun e w' => e = .returned (.bool (planNums p)) ∧ Below w.heap.size w w' := by
  obtain ⟨A, n, c⟩ := s
  obtain rfl : n = p.edges.length := RdL.at1 (s := ⟨A, n, c⟩) h
  have h2 : Rd edgeE w w.heap.size (.slice A p.edges.length c) p.edges := edge_rd h
  clear h
  have X := DBox.new 72 [.int .i64 p.prio, .int .i64 p.most, .int .i64 p.wait, .int .i64 p.tasks, .slice A p.edges.length c] w (b := w.heap.size) rfl
  have B0 : Below w.heap.size w (w.alloc (.cells #[.int .i64 p.prio, .int .i64 p.most, .int .i64 p.wait, .int .i64 p.tasks, .slice A p.edges.length c] 72)) := by repeat (first | exact Below.refl _ _ | refine Below.alloc ?_ (by simp <;> omega) _)
  cases b0 : inB p.prio 0 1000000000
  case false =>
    have H := Lib.hid (show planNums p = false by simp [planNums, numB, b0])
    go_enter Try.func83, Try.ntmps83
    go_wp2_with (go_at_call 82; refine (l16Num_any _ _).mono ?_; rintro e w9 ⟨rfl, rfl⟩)
    go_ret
    exact ⟨ret_bool H.out.symm, B0⟩
  cases b1 : inB p.most 0 1000000000
  case false =>
    have H := Lib.hid (show planNums p = false by simp [planNums, numB, b0, b1])
    go_enter Try.func83, Try.ntmps83
    go_wp2_with (go_at_call 82; refine (l16Num_any _ _).mono ?_; rintro e w9 ⟨rfl, rfl⟩)
    go_ret
    exact ⟨ret_bool H.out.symm, B0⟩
  cases b2 : inB p.wait 0 1000000000
  case false =>
    have H := Lib.hid (show planNums p = false by simp [planNums, numB, b0, b1, b2])
    go_enter Try.func83, Try.ntmps83
    go_wp2_with (go_at_call 82; refine (l16Num_any _ _).mono ?_; rintro e w9 ⟨rfl, rfl⟩)
    go_ret
    exact ⟨ret_bool H.out.symm, B0⟩
  cases b3 : inB p.tasks 0 1000000000
  case false =>
    have H := Lib.hid (show planNums p = false by simp [planNums, numB, b0, b1, b2, b3])
    go_enter Try.func83, Try.ntmps83
    go_wp2_with (go_at_call 82; refine (l16Num_any _ _).mono ?_; rintro e w9 ⟨rfl, rfl⟩)
    go_ret
    exact ⟨ret_bool H.out.symm, B0⟩
  by_cases a4 : p.edges.length ≤ 31
  case neg =>
    have b4 : (31 : Int) < (p.edges.length : Int) := by omega
    have H := Lib.hid (show planNums p = false by simp [planNums, a4])
    go_enter Try.func83, Try.ntmps83
    go_wp2_with (go_at_call 82; refine (l16Num_any _ _).mono ?_; rintro e w9 ⟨rfl, rfl⟩)
    go_ret
    exact ⟨ret_bool H.out.symm, B0⟩
  have b4 : ¬ (31 : Int) < (p.edges.length : Int) := by omega
  have HN := Lib.hid (show planNums p = p.edges.all (fun e => numB e.fr && numB e.to) by simp [planNums, numB, b0, b1, b2, b3, a4])
  go_enter Try.func83, Try.ntmps83
  go_wp2_with (go_at_call 82; refine (l16Num_any _ _).mono ?_; rintro e w9 ⟨rfl, rfl⟩)
  generalize (w.alloc (.cells #[.int .i64 p.prio, .int .i64 p.most, .int .i64 p.wait, .int .i64 p.tasks, .slice A p.edges.length c] 72)) = W at *
  clear b0 b1 b2 b3
  go_loopw [3] (fun i wr => ∃ k : Nat, k ≤ p.edges.length ∧ i = .int .i64 k ∧ Hid ((p.edges.take k).all (fun e => numB e.fr && numB e.to) = true) ∧ DBox w.heap.size [.int .i64 p.prio, .int .i64 p.most, .int .i64 p.wait, .int .i64 p.tasks, .slice A p.edges.length c] wr ∧ Below w.heap.size w wr) (fun i _ => p.edges.length - (intOf i).toNat)
  case atStart => exact ⟨0, Nat.zero_le _, rfl, rfl, X, B0⟩
  case round =>
    clear X B0
    obtain ⟨k, hk, rfl, hA, X, hb⟩ := hrel
    have X_0 := X.cell 0 _ rfl
    have X_1 := X.cell 1 _ rfl
    have X_2 := X.cell 2 _ rfl
    have X_3 := X.cell 3 _ rfl
    have X_4 := X.cell 4 _ rfl
    have X_l := X.lt
    by_cases hlt : k < p.edges.length
    · have hltI : (k : Int) < (p.edges.length : Int) := by omega
      obtain ⟨b, o, rfl, hbb, d0, d1⟩ := (h2.below hb).edge hlt
      cases q0 : inB p.edges[k].fr 0 1000000000
      · have H := Lib.hid (planNums_no hlt (by simp [numB, q0]))
        go_wp2_with (go_at_call 82; refine (l16Num_any _ _).mono ?_; rintro e w9 ⟨rfl, rfl⟩)
        go_ret
        exact ⟨ret_bool H.out.symm, hb⟩
      cases q1 : inB p.edges[k].to 0 1000000000
      · have H := Lib.hid (planNums_no hlt (by simp [numB, q1]))
        go_wp2_with (go_at_call 82; refine (l16Num_any _ _).mono ?_; rintro e w9 ⟨rfl, rfl⟩)
        go_ret
        exact ⟨ret_bool H.out.symm, hb⟩
      have S : Hid ((p.edges.take (k + 1)).all (fun e => numB e.fr && numB e.to) = true) := by
        show _ = _
        rw [List.take_succ_eq_append_getElem hlt, List.all_append, hA.out]
        simp [numB, q0, q1]
      go_wp2_with (go_at_call 82; refine (l16Num_any _ _).mono ?_; rintro e w9 ⟨rfl, rfl⟩)
      exact ⟨⟨k + 1, by omega, by go_num, S, X, hb⟩, by simp [intOf]; omega⟩
    · have H := Lib.hid (show planNums p = true by
        have := hA.out
        rw [List.take_of_length_le (by omega)] at this
        rw [HN.out, this])
      have hltI : ¬ (k : Int) < (p.edges.length : Int) := by omega
      go_wp2
      go_ret
      exact ⟨ret_bool H.out.symm, hb⟩
end Go.Proofs.Ytjobmbjadpldfaa
