/-
  SameYard and CaughtUp of the reference.
-/
import Derived.Test.YtjobmbjadpldfaaCu
namespace Go.Proofs.Ytjobmbjadpldfaa
open Go.RowKit
set_option maxRecDepth 100000
set_option maxHeartbeats 4000000
set_option linter.unusedVariables false
set_option linter.unusedSimpArgs false

theorem RdL.at1 {α : Type} {d : Dt α} {w : World} {B : Nat} {s : Sl} {l : List α} (h : RdL d w B s.v l) : s.n = l.length := by
  obtain ⟨A, c, hv, -⟩ := h.form
  simp only [Sl.v, Value.slice.injEq] at hv
  exact hv.2.1
theorem l06Same_own (x y : Plan) (s r : Sl) (w : World) (hl : cntPlan x ≤ 2000000) (hl' : cntPlan y ≤ 2000000) (h : planD.rd w w.heap.size x s) (h' : planD.rd w w.heap.size y r) :
    Calls Try.prog 44 #[planW x s, planW y r] w fun e w' => e = .returned (.bool (decide (x = y))) ∧ Below w.heap.size w w' := by
  have no : ∀ {P : Prop}, (x = y → P) → ¬ P → Hid (decide (x = y) = false) := fun f g => decide_eq_false (fun e => g (f e))
  obtain ⟨A1, n1, e1⟩ := s
  obtain ⟨A2, n2, e2⟩ := r
  have hn1 : n1 = x.edges.length := RdL.at1 (s := ⟨A1, n1, e1⟩) h
  have hn2 : n2 = y.edges.length := RdL.at1 (s := ⟨A2, n2, e2⟩) h'
  subst hn1
  subst hn2
  have hx1 : x.edges.length ≤ 2000000 := Nat.le_trans (cntL_len cntEdge _) (by unfold cntPlan at hl; omega)
  have hx2 : y.edges.length ≤ 2000000 := Nat.le_trans (cntL_len cntEdge _) (by unfold cntPlan at hl'; omega)
  have hrx : RdL edgeD w w.heap.size (.slice A1 x.edges.length e1) x.edges := h
  have hry : RdL edgeD w w.heap.size (.slice A2 y.edges.length e2) y.edges := h'
  have a1 : Below w.heap.size w (w.alloc (.cells #[.int .i64 x.prio, .int .i64 x.most, .int .i64 x.wait, .int .i64 x.tasks, .slice A1 x.edges.length e1] 72)) := (Below.refl _ _).alloc (Nat.le_refl _) _
  have X := (DBox.new 72 [.int .i64 x.prio, .int .i64 x.most, .int .i64 x.wait, .int .i64 x.tasks, .slice A1 x.edges.length e1] w rfl).below ((Below.refl _ _).alloc (Nat.le_refl _) (.cells #[.int .i64 y.prio, .int .i64 y.most, .int .i64 y.wait, .int .i64 y.tasks, .slice A2 y.edges.length e2] 72))
  have Y := DBox.new 72 [.int .i64 y.prio, .int .i64 y.most, .int .i64 y.wait, .int .i64 y.tasks, .slice A2 y.edges.length e2] (w.alloc (.cells #[.int .i64 x.prio, .int .i64 x.most, .int .i64 x.wait, .int .i64 x.tasks, .slice A1 x.edges.length e1] 72)) (b := w.heap.size + 1) (by simp)
  have B0 := bnext a1 ((Below.refl _ _).alloc (Nat.le_refl _) (.cells #[.int .i64 y.prio, .int .i64 y.most, .int .i64 y.wait, .int .i64 y.tasks, .slice A2 y.edges.length e2] 72))
  clear a1
  by_cases h0 : x.prio = y.prio
  case neg =>
    have t0 : (x.prio != y.prio) = true := by rw [bne_iff_ne]; exact h0
    have H := no (fun e => by rw [e]) h0
    clear h0 no
    go_enter Try.func44, Try.ntmps44
    go_wp2
    go_ret
    exact ⟨ret_bool H.out.symm, B0⟩
  have t0 : (x.prio != y.prio) = false := by simp [h0]
  have H0 := Lib.hid h0
  clear h0
  by_cases h1 : x.most = y.most
  case neg =>
    have t1 : (x.most != y.most) = true := by rw [bne_iff_ne]; exact h1
    have H := no (fun e => by rw [e]) h1
    clear h1 no
    go_enter Try.func44, Try.ntmps44
    go_wp2
    go_ret
    exact ⟨ret_bool H.out.symm, B0⟩
  have t1 : (x.most != y.most) = false := by simp [h1]
  have H1 := Lib.hid h1
  clear h1
  by_cases h2 : x.wait = y.wait
  case neg =>
    have t2 : (x.wait != y.wait) = true := by rw [bne_iff_ne]; exact h2
    have H := no (fun e => by rw [e]) h2
    clear h2 no
    go_enter Try.func44, Try.ntmps44
    go_wp2
    go_ret
    exact ⟨ret_bool H.out.symm, B0⟩
  have t2 : (x.wait != y.wait) = false := by simp [h2]
  have H2 := Lib.hid h2
  clear h2
  by_cases h3 : x.tasks = y.tasks
  case neg =>
    have t3 : (x.tasks != y.tasks) = true := by rw [bne_iff_ne]; exact h3
    have H := no (fun e => by rw [e]) h3
    clear h3 no
    go_enter Try.func44, Try.ntmps44
    go_wp2
    go_ret
    exact ⟨ret_bool H.out.symm, B0⟩
  have t3 : (x.tasks != y.tasks) = false := by simp [h3]
  have H3 := Lib.hid h3
  clear h3
  by_cases h4 : x.edges.length = y.edges.length
  case neg =>
    have t4 : ((x.edges.length : Int) != (y.edges.length : Int)) = true := by simp; omega
    have H := no (fun e => by rw [e]) h4
    clear h4 no
    go_enter Try.func44, Try.ntmps44
    go_wp2
    go_ret
    exact ⟨ret_bool H.out.symm, B0⟩
  have t4 : ((x.edges.length : Int) != (y.edges.length : Int)) = false := by simp [h4]
  have H4 := Lib.hid h4
  clear h4
  go_enter Try.func44, Try.ntmps44
  go_wp2
  generalize ((w.alloc (.cells #[.int .i64 x.prio, .int .i64 x.most, .int .i64 x.wait, .int .i64 x.tasks, .slice A1 x.edges.length e1] 72)).alloc (.cells #[.int .i64 y.prio, .int .i64 y.most, .int .i64 y.wait, .int .i64 y.tasks, .slice A2 y.edges.length e2] 72)) = w0 at *
  go_loopw [5] (fun i wr => ∃ k : Nat, k ≤ x.edges.length ∧ i = .int .i64 k ∧ Hid (x.edges.take k = y.edges.take k) ∧ Below w0.heap.size w0 wr) (fun i _ => x.edges.length - (intOf i).toNat)
  case atStart => exact ⟨0, Nat.zero_le _, rfl, rfl, Below.refl _ _⟩
  case round =>
    obtain ⟨k, hk, rfl, heq, hb⟩ := hrel
    replace X := X.below hb
    replace Y := Y.below hb
    have B1 := bnext B0 hb
    have u4 := X.cell 4 _ rfl
    have v4 := Y.cell 4 _ rfl
    have us := X.lt
    have vs := Y.lt
    by_cases hlt : k < x.edges.length
    · have hlt' : k < y.edges.length := by rw [← H4.out]; exact hlt
      obtain ⟨b, o, _, rfl, hbb, _, c0, c1⟩ := (hrx.below B1).edge hlt
      obtain ⟨b', o', _, rfl, hbb', _, d0, d1⟩ := (hry.below B1).edge hlt'
      have i1 : (k : Int) < (x.edges.length : Int) := by omega
      have i2 : (k : Int) < (y.edges.length : Int) := by omega
      have hs1 : b < wr.heap.size := by omega
      have hs2 : b' < wr.heap.size := by omega
      have ne : x.edges[k] ≠ y.edges[k] → Hid (decide (x = y) = false) := fun hx => no (P := x.edges[k] = y.edges[k]) (fun e => by subst e; rfl) hx
      by_cases g0 : x.edges[k].fr = y.edges[k].fr
      case neg =>
        have q0 : (x.edges[k].fr == y.edges[k].fr) = false := beq_eq_false_iff_ne.2 g0
        have H := ne (fun e => g0 (by rw [e]))
        clear g0 no ne
        go_wp2
        go_quiet (fail)
        go_wp2
        go_ret
        exact ⟨ret_bool H.out.symm, bdrewN B1 _⟩
      rw [← g0] at d0
      have G0 := Lib.hid g0
      clear g0
      by_cases g1 : x.edges[k].to = y.edges[k].to
      case neg =>
        have q1 : (x.edges[k].to == y.edges[k].to) = false := beq_eq_false_iff_ne.2 g1
        have H := ne (fun e => g1 (by rw [e]))
        clear g1 no ne
        go_wp2
        go_quiet (fail)
        go_wp2
        go_ret
        exact ⟨ret_bool H.out.symm, bdrewN B1 _⟩
      rw [← g1] at d1
      have G1 := Lib.hid g1
      clear g1
      have S : Hid (x.edges.take (k + 1) = y.edges.take (k + 1)) := by
        show x.edges.take (k + 1) = y.edges.take (k + 1)
        have hx : x.edges[k] = y.edges[k] := by
          have e0 := G0.out; have e1 := G1.out
          revert e0 e1
          cases x.edges[k]; cases y.edges[k]
          simp only
          rintro rfl; rintro rfl; rfl
        rw [take_snoc _ k hlt, take_snoc _ k hlt', heq.out, hx]
      clear no ne
      go_wp2
      go_quiet (fail)
      go_wp2
      exact ⟨⟨k + 1, by omega, by go_num, S, bdrewN hb _⟩, by simp [intOf]; omega⟩
    · have i1 : ¬ (k : Int) < (x.edges.length : Int) := by omega
      have H : Hid (decide (x = y) = true) := decide_eq_true (by
        have g := heq.out
        rw [List.take_of_length_le (by omega), List.take_of_length_le (by rw [← H4.out]; omega)] at g
        have e0 := H0.out; have e1 := H1.out; have e2 := H2.out; have e3 := H3.out
        cases x; cases y
        simp only at e0 e1 e2 e3 g
        subst e0 e1 e2 e3 g
        rfl)
      clear no
      go_wp2
      go_ret
      exact ⟨ret_bool H.out.symm, B1⟩
end Go.Proofs.Ytjobmbjadpldfaa
