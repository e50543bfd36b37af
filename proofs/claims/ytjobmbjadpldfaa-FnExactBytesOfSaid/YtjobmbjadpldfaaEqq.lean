/-
  Slices of plain structs that are held against each other: slices.Equal. Written by program (eqq.py).
-/
import Derived.Test.YtjobmbjadpldfaaTYard
import Derived.Test.YtjobmbjadpldfaaDb
namespace Go.Proofs.Ytjobmbjadpldfaa
open Go.RowKit
set_option maxRecDepth 100000
set_option maxHeartbeats 2000000
set_option linter.unusedVariables false
set_option linter.unusedSimpArgs false

theorem equalEdge_own (l l' : List Edge) (s s' : Sl) (w : World) (hl : l.length ≤ 2000000) (hl' : l'.length ≤ 2000000) (h : RdL edgeD w w.heap.size s.v l) (h' : RdL edgeD w w.heap.size s'.v l') :
    Calls Try.prog 105 #[.slice s.a s.n s.c, .slice s'.a s'.n s'.c] w fun e w' => e = .returned (.bool (decide (l = l'))) ∧ Below w.heap.size w w' := by
  obtain ⟨A, n, c⟩ := s
  obtain ⟨A', n', c'⟩ := s'
  obtain ⟨A1, e1, hv, -⟩ := h.form
  obtain ⟨A2, e2, hv', -⟩ := h'.form
  simp only [Sl.v, Value.slice.injEq] at hv hv'
  obtain ⟨rfl, rfl, rfl⟩ := hv
  obtain ⟨rfl, rfl, rfl⟩ := hv'
  by_cases hne : l.length = l'.length
  · have hb0 : ((l.length : Int) != (l'.length : Int)) = false := by simp [hne]
    have Hne := Lib.hid hne
    clear hne
    go_enter Try.func105, Try.ntmps105
    go_wp2
    go_loopw [13] (fun i wr => ∃ k : Nat, k ≤ l.length ∧ i = .int .i64 k ∧ Hid (l.take k = l'.take k) ∧ Below w.heap.size w wr) (fun i _ => l.length - (intOf i).toNat)
    case atStart => exact ⟨0, Nat.zero_le _, rfl, rfl, Below.refl _ _⟩
    case round =>
      obtain ⟨k, hk, rfl, heq, hb⟩ := hrel
      by_cases hlt : k < l.length
      · have hlt' : k < l'.length := by rw [← Hne.out]; exact hlt
        obtain ⟨b, o, _, rfl, hbb, _, c0, c1⟩ := (h.below hb).edge hlt
        obtain ⟨b', o', _, rfl, hbb', _, d0, d1⟩ := (h'.below hb).edge hlt'
        have i1 : (k : Int) < (l.length : Int) := by omega
        have i2 : (k : Int) < (l'.length : Int) := by omega
        have no : l[k] ≠ l'[k] → Hid (decide (l = l') = false) := fun hx => by
          show decide (l = l') = false
          simp only [decide_eq_false_iff_not]
          intro e
          subst e
          exact hx rfl
        by_cases h0 : l[k].fr = l'[k].fr
        case neg =>
          have t0 : (l[k].fr == l'[k].fr) = false := beq_eq_false_iff_ne.2 h0
          have H := no (fun e => h0 (by rw [e]))
          clear h0 no
          go_wp2
          go_quiet (fail)
          go_wp2
          go_ret
          exact ⟨ret_bool H.out.symm, bdrewN hb _⟩
        rw [← h0] at d0
        have H0 := Lib.hid h0
        clear h0
        by_cases h1 : l[k].to = l'[k].to
        case neg =>
          have t1 : (l[k].to == l'[k].to) = false := beq_eq_false_iff_ne.2 h1
          have H := no (fun e => h1 (by rw [e]))
          clear h1 no
          go_wp2
          go_quiet (fail)
          go_wp2
          go_ret
          exact ⟨ret_bool H.out.symm, bdrewN hb _⟩
        rw [← h1] at d1
        have H1 := Lib.hid h1
        clear h1
        have S : Hid (l.take (k + 1) = l'.take (k + 1)) := by
          show l.take (k + 1) = l'.take (k + 1)
          have hx : l[k] = l'[k] := by
            have g0 := H0.out ; have g1 := H1.out
            revert g0 g1
            cases l[k]; cases l'[k]
            simp only
            rintro rfl; rintro rfl; rfl
          rw [take_snoc l k hlt, take_snoc l' k hlt', heq.out, hx]
        clear no
        go_wp2
        go_quiet (fail)
        go_wp2
        exact ⟨⟨k + 1, by omega, by go_num, S, bdrewN hb _⟩, by simp [intOf]; omega⟩
      · go_wp2
        go_ret
        refine ⟨ret_bool ?_, hb⟩
        have h1 := heq.out
        rw [List.take_of_length_le (by omega), List.take_of_length_le (by rw [← Hne.out]; omega)] at h1
        simp [h1]
  · have hb0 : ((l.length : Int) != (l'.length : Int)) = true := by simp; omega
    go_enter Try.func105, Try.ntmps105
    go_wp2
    go_ret
    refine ⟨ret_bool ?_, Below.refl _ _⟩
    simp only [Bool.false_eq, decide_eq_false_iff_not]
    intro e
    exact hne (by rw [e])

theorem equalTask_own (l l' : List Task) (s s' : Sl) (w : World) (hl : l.length ≤ 2000000) (hl' : l'.length ≤ 2000000) (h : RdL taskD w w.heap.size s.v l) (h' : RdL taskD w w.heap.size s'.v l') :
    Calls Try.prog 99 #[.slice s.a s.n s.c, .slice s'.a s'.n s'.c] w fun e w' => e = .returned (.bool (decide (l = l'))) ∧ Below w.heap.size w w' := by
  obtain ⟨A, n, c⟩ := s
  obtain ⟨A', n', c'⟩ := s'
  obtain ⟨A1, e1, hv, -⟩ := h.form
  obtain ⟨A2, e2, hv', -⟩ := h'.form
  simp only [Sl.v, Value.slice.injEq] at hv hv'
  obtain ⟨rfl, rfl, rfl⟩ := hv
  obtain ⟨rfl, rfl, rfl⟩ := hv'
  by_cases hne : l.length = l'.length
  · have hb0 : ((l.length : Int) != (l'.length : Int)) = false := by simp [hne]
    have Hne := Lib.hid hne
    clear hne
    go_enter Try.func99, Try.ntmps99
    go_wp2
    go_loopw [13] (fun i wr => ∃ k : Nat, k ≤ l.length ∧ i = .int .i64 k ∧ Hid (l.take k = l'.take k) ∧ Below w.heap.size w wr) (fun i _ => l.length - (intOf i).toNat)
    case atStart => exact ⟨0, Nat.zero_le _, rfl, rfl, Below.refl _ _⟩
    case round =>
      obtain ⟨k, hk, rfl, heq, hb⟩ := hrel
      by_cases hlt : k < l.length
      · have hlt' : k < l'.length := by rw [← Hne.out]; exact hlt
        obtain ⟨b, o, _, rfl, hbb, _, c0, c1, c2, c3⟩ := (h.below hb).task hlt
        obtain ⟨b', o', _, rfl, hbb', _, d0, d1, d2, d3⟩ := (h'.below hb).task hlt'
        have i1 : (k : Int) < (l.length : Int) := by omega
        have i2 : (k : Int) < (l'.length : Int) := by omega
        have no : l[k] ≠ l'[k] → Hid (decide (l = l') = false) := fun hx => by
          show decide (l = l') = false
          simp only [decide_eq_false_iff_not]
          intro e
          subst e
          exact hx rfl
        by_cases h0 : l[k].state = l'[k].state
        case neg =>
          have t0 : (l[k].state == l'[k].state) = false := beq_eq_false_iff_ne.2 h0
          have H := no (fun e => h0 (by rw [e]))
          clear h0 no
          go_wp2
          go_quiet (fail)
          go_wp2
          go_ret
          exact ⟨ret_bool H.out.symm, bdrewN hb _⟩
        rw [← h0] at d0
        have H0 := Lib.hid h0
        clear h0
        by_cases h1 : l[k].need = l'[k].need
        case neg =>
          have t1 : (l[k].need == l'[k].need) = false := beq_eq_false_iff_ne.2 h1
          have H := no (fun e => h1 (by rw [e]))
          clear h1 no
          go_wp2
          go_quiet (fail)
          go_wp2
          go_ret
          exact ⟨ret_bool H.out.symm, bdrewN hb _⟩
        rw [← h1] at d1
        have H1 := Lib.hid h1
        clear h1
        by_cases h2 : l[k].try_ = l'[k].try_
        case neg =>
          have t2 : (l[k].try_ == l'[k].try_) = false := beq_eq_false_iff_ne.2 h2
          have H := no (fun e => h2 (by rw [e]))
          clear h2 no
          go_wp2
          go_quiet (fail)
          go_wp2
          go_ret
          exact ⟨ret_bool H.out.symm, bdrewN hb _⟩
        rw [← h2] at d2
        have H2 := Lib.hid h2
        clear h2
        by_cases h3 : l[k].until_ = l'[k].until_
        case neg =>
          have t3 : (l[k].until_ == l'[k].until_) = false := beq_eq_false_iff_ne.2 h3
          have H := no (fun e => h3 (by rw [e]))
          clear h3 no
          go_wp2
          go_quiet (fail)
          go_wp2
          go_ret
          exact ⟨ret_bool H.out.symm, bdrewN hb _⟩
        rw [← h3] at d3
        have H3 := Lib.hid h3
        clear h3
        have S : Hid (l.take (k + 1) = l'.take (k + 1)) := by
          show l.take (k + 1) = l'.take (k + 1)
          have hx : l[k] = l'[k] := by
            have g0 := H0.out ; have g1 := H1.out ; have g2 := H2.out ; have g3 := H3.out
            revert g0 g1 g2 g3
            cases l[k]; cases l'[k]
            simp only
            rintro rfl; rintro rfl; rintro rfl; rintro rfl; rfl
          rw [take_snoc l k hlt, take_snoc l' k hlt', heq.out, hx]
        clear no
        go_wp2
        go_quiet (fail)
        go_wp2
        exact ⟨⟨k + 1, by omega, by go_num, S, bdrewN hb _⟩, by simp [intOf]; omega⟩
      · go_wp2
        go_ret
        refine ⟨ret_bool ?_, hb⟩
        have h1 := heq.out
        rw [List.take_of_length_le (by omega), List.take_of_length_le (by rw [← Hne.out]; omega)] at h1
        simp [h1]
  · have hb0 : ((l.length : Int) != (l'.length : Int)) = true := by simp; omega
    go_enter Try.func99, Try.ntmps99
    go_wp2
    go_ret
    refine ⟨ret_bool ?_, Below.refl _ _⟩
    simp only [Bool.false_eq, decide_eq_false_iff_not]
    intro e
    exact hne (by rw [e])

theorem equalEntry_own (l l' : List Entry) (s s' : Sl) (w : World) (hl : l.length ≤ 2000000) (hl' : l'.length ≤ 2000000) (h : RdL entryD w w.heap.size s.v l) (h' : RdL entryD w w.heap.size s'.v l') :
    Calls Try.prog 74 #[.slice s.a s.n s.c, .slice s'.a s'.n s'.c] w fun e w' => e = .returned (.bool (decide (l = l'))) ∧ Below w.heap.size w w' := by
  obtain ⟨A, n, c⟩ := s
  obtain ⟨A', n', c'⟩ := s'
  obtain ⟨A1, e1, hv, -⟩ := h.form
  obtain ⟨A2, e2, hv', -⟩ := h'.form
  simp only [Sl.v, Value.slice.injEq] at hv hv'
  obtain ⟨rfl, rfl, rfl⟩ := hv
  obtain ⟨rfl, rfl, rfl⟩ := hv'
  by_cases hne : l.length = l'.length
  · have hb0 : ((l.length : Int) != (l'.length : Int)) = false := by simp [hne]
    have Hne := Lib.hid hne
    clear hne
    go_enter Try.func74, Try.ntmps74
    go_wp2
    go_loopw [13] (fun i wr => ∃ k : Nat, k ≤ l.length ∧ i = .int .i64 k ∧ Hid (l.take k = l'.take k) ∧ Below w.heap.size w wr) (fun i _ => l.length - (intOf i).toNat)
    case atStart => exact ⟨0, Nat.zero_le _, rfl, rfl, Below.refl _ _⟩
    case round =>
      obtain ⟨k, hk, rfl, heq, hb⟩ := hrel
      by_cases hlt : k < l.length
      · have hlt' : k < l'.length := by rw [← Hne.out]; exact hlt
        obtain ⟨b, o, _, rfl, hbb, _, c0, c1, c2, c3⟩ := (h.below hb).entry hlt
        obtain ⟨b', o', _, rfl, hbb', _, d0, d1, d2, d3⟩ := (h'.below hb).entry hlt'
        have i1 : (k : Int) < (l.length : Int) := by omega
        have i2 : (k : Int) < (l'.length : Int) := by omega
        have no : l[k] ≠ l'[k] → Hid (decide (l = l') = false) := fun hx => by
          show decide (l = l') = false
          simp only [decide_eq_false_iff_not]
          intro e
          subst e
          exact hx rfl
        by_cases h0 : l[k].prio = l'[k].prio
        case neg =>
          have t0 : (l[k].prio == l'[k].prio) = false := beq_eq_false_iff_ne.2 h0
          have H := no (fun e => h0 (by rw [e]))
          clear h0 no
          go_wp2
          go_quiet (fail)
          go_wp2
          go_ret
          exact ⟨ret_bool H.out.symm, bdrewN hb _⟩
        rw [← h0] at d0
        have H0 := Lib.hid h0
        clear h0
        by_cases h1 : l[k].seq = l'[k].seq
        case neg =>
          have t1 : (l[k].seq == l'[k].seq) = false := beq_eq_false_iff_ne.2 h1
          have H := no (fun e => h1 (by rw [e]))
          clear h1 no
          go_wp2
          go_quiet (fail)
          go_wp2
          go_ret
          exact ⟨ret_bool H.out.symm, bdrewN hb _⟩
        rw [← h1] at d1
        have H1 := Lib.hid h1
        clear h1
        by_cases h2 : l[k].run = l'[k].run
        case neg =>
          have t2 : (l[k].run == l'[k].run) = false := beq_eq_false_iff_ne.2 h2
          have H := no (fun e => h2 (by rw [e]))
          clear h2 no
          go_wp2
          go_quiet (fail)
          go_wp2
          go_ret
          exact ⟨ret_bool H.out.symm, bdrewN hb _⟩
        rw [← h2] at d2
        have H2 := Lib.hid h2
        clear h2
        by_cases h3 : l[k].task = l'[k].task
        case neg =>
          have t3 : (l[k].task == l'[k].task) = false := beq_eq_false_iff_ne.2 h3
          have H := no (fun e => h3 (by rw [e]))
          clear h3 no
          go_wp2
          go_quiet (fail)
          go_wp2
          go_ret
          exact ⟨ret_bool H.out.symm, bdrewN hb _⟩
        rw [← h3] at d3
        have H3 := Lib.hid h3
        clear h3
        have S : Hid (l.take (k + 1) = l'.take (k + 1)) := by
          show l.take (k + 1) = l'.take (k + 1)
          have hx : l[k] = l'[k] := by
            have g0 := H0.out ; have g1 := H1.out ; have g2 := H2.out ; have g3 := H3.out
            revert g0 g1 g2 g3
            cases l[k]; cases l'[k]
            simp only
            rintro rfl; rintro rfl; rintro rfl; rintro rfl; rfl
          rw [take_snoc l k hlt, take_snoc l' k hlt', heq.out, hx]
        clear no
        go_wp2
        go_quiet (fail)
        go_wp2
        exact ⟨⟨k + 1, by omega, by go_num, S, bdrewN hb _⟩, by simp [intOf]; omega⟩
      · go_wp2
        go_ret
        refine ⟨ret_bool ?_, hb⟩
        have h1 := heq.out
        rw [List.take_of_length_le (by omega), List.take_of_length_le (by rw [← Hne.out]; omega)] at h1
        simp [h1]
  · have hb0 : ((l.length : Int) != (l'.length : Int)) = true := by simp; omega
    go_enter Try.func74, Try.ntmps74
    go_wp2
    go_ret
    refine ⟨ret_bool ?_, Below.refl _ _⟩
    simp only [Bool.false_eq, decide_eq_false_iff_not]
    intro e
    exact hne (by rw [e])

theorem samePlan_own (x y : Plan) (s r : Sl) (w : World) (hl : cntPlan x ≤ 2000000) (hl' : cntPlan y ≤ 2000000) (h : planD.rd w w.heap.size x s) (h' : planD.rd w w.heap.size y r) :
    Calls Try.prog 98 #[planW x s, planW y r] w fun e w' => e = .returned (.bool (decide (x = y))) ∧ Below w.heap.size w w' := by
  have hbx : ∀ W, Below w.heap.size w W → planD.rd W W.heap.size x s := fun W hW => planD.rd_more (planD.rd_below h hW) hW.size
  have hby : ∀ W, Below w.heap.size w W → planD.rd W W.heap.size y r := fun W hW => planD.rd_more (planD.rd_below h' hW) hW.size
  have no : ∀ {P : Prop}, (x = y → P) → ¬ P → Hid (decide (x = y) = false) := fun f g => decide_eq_false (fun e => g (f e))
  have a1 : Below w.heap.size w (w.alloc (.cells #[.int .i64 x.prio, .int .i64 x.most, .int .i64 x.wait, .int .i64 x.tasks, .slice s.a s.n s.c] 72)) := (Below.refl _ _).alloc (Nat.le_refl _) _
  have a2 : Below (w.alloc (.cells #[.int .i64 x.prio, .int .i64 x.most, .int .i64 x.wait, .int .i64 x.tasks, .slice s.a s.n s.c] 72)).heap.size (w.alloc (.cells #[.int .i64 x.prio, .int .i64 x.most, .int .i64 x.wait, .int .i64 x.tasks, .slice s.a s.n s.c] 72)) ((w.alloc (.cells #[.int .i64 x.prio, .int .i64 x.most, .int .i64 x.wait, .int .i64 x.tasks, .slice s.a s.n s.c] 72)).alloc (.cells #[.int .i64 y.prio, .int .i64 y.most, .int .i64 y.wait, .int .i64 y.tasks, .slice r.a r.n r.c] 72)) := (Below.refl _ _).alloc (Nat.le_refl _) _
  have X := (DBox.new 72 [.int .i64 x.prio, .int .i64 x.most, .int .i64 x.wait, .int .i64 x.tasks, .slice s.a s.n s.c] w rfl).below a2
  have Y := DBox.new 72 [.int .i64 y.prio, .int .i64 y.most, .int .i64 y.wait, .int .i64 y.tasks, .slice r.a r.n r.c] (w.alloc (.cells #[.int .i64 x.prio, .int .i64 x.most, .int .i64 x.wait, .int .i64 x.tasks, .slice s.a s.n s.c] 72)) (b := w.heap.size + 1) (by simp)
  have B0 := bnext a1 a2
  clear a1 a2
  by_cases h0 : x.prio = y.prio
  case neg =>
    have t0 : (x.prio == y.prio) = false := beq_eq_false_iff_ne.2 h0
    have H := no (fun e => by rw [e]) h0
    clear h0 no hbx hby
    go_enter Try.func98, Try.ntmps98
    go_wp2
    go_ret
    exact ⟨ret_bool H.out.symm, B0⟩
  have t0 : (x.prio == y.prio) = true := by simp [h0]
  have H0 := Lib.hid h0
  clear h0
  by_cases h1 : x.most = y.most
  case neg =>
    have t1 : (x.most == y.most) = false := beq_eq_false_iff_ne.2 h1
    have H := no (fun e => by rw [e]) h1
    clear h1 no hbx hby
    go_enter Try.func98, Try.ntmps98
    go_wp2
    go_ret
    exact ⟨ret_bool H.out.symm, B0⟩
  have t1 : (x.most == y.most) = true := by simp [h1]
  have H1 := Lib.hid h1
  clear h1
  by_cases h2 : x.wait = y.wait
  case neg =>
    have t2 : (x.wait == y.wait) = false := beq_eq_false_iff_ne.2 h2
    have H := no (fun e => by rw [e]) h2
    clear h2 no hbx hby
    go_enter Try.func98, Try.ntmps98
    go_wp2
    go_ret
    exact ⟨ret_bool H.out.symm, B0⟩
  have t2 : (x.wait == y.wait) = true := by simp [h2]
  have H2 := Lib.hid h2
  clear h2
  by_cases h3 : x.tasks = y.tasks
  case neg =>
    have t3 : (x.tasks == y.tasks) = false := beq_eq_false_iff_ne.2 h3
    have H := no (fun e => by rw [e]) h3
    clear h3 no hbx hby
    go_enter Try.func98, Try.ntmps98
    go_wp2
    go_ret
    exact ⟨ret_bool H.out.symm, B0⟩
  have t3 : (x.tasks == y.tasks) = true := by simp [h3]
  have H3 := Lib.hid h3
  clear h3
  go_enter Try.func98, Try.ntmps98
  go_wp2_with fail
  generalize ((w.alloc (.cells #[.int .i64 x.prio, .int .i64 x.most, .int .i64 x.wait, .int .i64 x.tasks, .slice s.a s.n s.c] 72)).alloc (.cells #[.int .i64 y.prio, .int .i64 y.most, .int .i64 y.wait, .int .i64 y.tasks, .slice r.a r.n r.c] 72)) = w0 at *
  refine (equalEdge_own x.edges y.edges s r _ (Nat.le_trans (cntL_len cntEdge _) (by unfold cntPlan at hl; omega)) (Nat.le_trans (cntL_len cntEdge _) (by unfold cntPlan at hl'; omega)) (hbx _ B0) (hby _ B0)).mono ?_
  rintro e w1 ⟨rfl, b1⟩
  replace X := X.below b1
  replace Y := Y.below b1
  replace B0 := bnext B0 b1
  have u0 := X.cell 0 _ rfl
  have v0 := Y.cell 0 _ rfl
  have u1 := X.cell 1 _ rfl
  have v1 := Y.cell 1 _ rfl
  have u2 := X.cell 2 _ rfl
  have v2 := Y.cell 2 _ rfl
  have u3 := X.cell 3 _ rfl
  have v3 := Y.cell 3 _ rfl
  have u4 := X.cell 4 _ rfl
  have v4 := Y.cell 4 _ rfl
  have us := X.lt
  have vs := Y.lt
  by_cases h4 : x.edges = y.edges
  case neg =>
    have t4 : decide (x.edges = y.edges) = false := decide_eq_false h4
    have H := no (fun e => by rw [e]) h4
    rw [t4]
    clear h4 no hbx hby t4
    go_wp2
    go_ret
    exact ⟨ret_bool H.out.symm, B0⟩
  have t4 : decide (x.edges = y.edges) = true := decide_eq_true h4
  rw [t4]
  have H4 := Lib.hid h4
  clear h4 t4 b1
  have H : Hid (decide (x = y) = true) := decide_eq_true (by
    have e0 := H0.out ; have e1 := H1.out ; have e2 := H2.out ; have e3 := H3.out ; have e4 := H4.out
    cases x
    cases y
    simp only at e0 e1 e2 e3 e4
    subst e0 e1 e2 e3 e4
    rfl)
  clear no hbx hby
  go_wp2
  go_ret
  exact ⟨ret_bool H.out.symm, B0⟩

theorem sameRun_own (x y : Run) (s r : Sl × Sl) (w : World) (hl : cntRun x ≤ 2000000) (hl' : cntRun y ≤ 2000000) (h : runD.rd w w.heap.size x s) (h' : runD.rd w w.heap.size y r) :
    Calls Try.prog 76 #[runW x s, runW y r] w fun e w' => e = .returned (.bool (decide (x = y))) ∧ Below w.heap.size w w' := by
  have hbx : ∀ W, Below w.heap.size w W → runD.rd W W.heap.size x s := fun W hW => runD.rd_more (runD.rd_below h hW) hW.size
  have hby : ∀ W, Below w.heap.size w W → runD.rd W W.heap.size y r := fun W hW => runD.rd_more (runD.rd_below h' hW) hW.size
  have no : ∀ {P : Prop}, (x = y → P) → ¬ P → Hid (decide (x = y) = false) := fun f g => decide_eq_false (fun e => g (f e))
  have a1 : Below w.heap.size w (w.alloc (.cells #[.int .i64 x.id, .int .i64 x.plan.prio, .int .i64 x.plan.most, .int .i64 x.plan.wait, .int .i64 x.plan.tasks, .slice s.1.a s.1.n s.1.c, .int .i64 x.state, .slice s.2.a s.2.n s.2.c] 102)) := (Below.refl _ _).alloc (Nat.le_refl _) _
  have a2 : Below (w.alloc (.cells #[.int .i64 x.id, .int .i64 x.plan.prio, .int .i64 x.plan.most, .int .i64 x.plan.wait, .int .i64 x.plan.tasks, .slice s.1.a s.1.n s.1.c, .int .i64 x.state, .slice s.2.a s.2.n s.2.c] 102)).heap.size (w.alloc (.cells #[.int .i64 x.id, .int .i64 x.plan.prio, .int .i64 x.plan.most, .int .i64 x.plan.wait, .int .i64 x.plan.tasks, .slice s.1.a s.1.n s.1.c, .int .i64 x.state, .slice s.2.a s.2.n s.2.c] 102)) ((w.alloc (.cells #[.int .i64 x.id, .int .i64 x.plan.prio, .int .i64 x.plan.most, .int .i64 x.plan.wait, .int .i64 x.plan.tasks, .slice s.1.a s.1.n s.1.c, .int .i64 x.state, .slice s.2.a s.2.n s.2.c] 102)).alloc (.cells #[.int .i64 y.id, .int .i64 y.plan.prio, .int .i64 y.plan.most, .int .i64 y.plan.wait, .int .i64 y.plan.tasks, .slice r.1.a r.1.n r.1.c, .int .i64 y.state, .slice r.2.a r.2.n r.2.c] 102)) := (Below.refl _ _).alloc (Nat.le_refl _) _
  have X := (DBox.new 102 [.int .i64 x.id, .int .i64 x.plan.prio, .int .i64 x.plan.most, .int .i64 x.plan.wait, .int .i64 x.plan.tasks, .slice s.1.a s.1.n s.1.c, .int .i64 x.state, .slice s.2.a s.2.n s.2.c] w rfl).below a2
  have Y := DBox.new 102 [.int .i64 y.id, .int .i64 y.plan.prio, .int .i64 y.plan.most, .int .i64 y.plan.wait, .int .i64 y.plan.tasks, .slice r.1.a r.1.n r.1.c, .int .i64 y.state, .slice r.2.a r.2.n r.2.c] (w.alloc (.cells #[.int .i64 x.id, .int .i64 x.plan.prio, .int .i64 x.plan.most, .int .i64 x.plan.wait, .int .i64 x.plan.tasks, .slice s.1.a s.1.n s.1.c, .int .i64 x.state, .slice s.2.a s.2.n s.2.c] 102)) (b := w.heap.size + 1) (by simp)
  have B0 := bnext a1 a2
  clear a1 a2
  by_cases h0 : x.id = y.id
  case neg =>
    have t0 : (x.id == y.id) = false := beq_eq_false_iff_ne.2 h0
    have H := no (fun e => by rw [e]) h0
    clear h0 no hbx hby
    go_enter Try.func76, Try.ntmps76
    go_wp2
    go_ret
    exact ⟨ret_bool H.out.symm, B0⟩
  have t0 : (x.id == y.id) = true := by simp [h0]
  have H0 := Lib.hid h0
  clear h0
  go_enter Try.func76, Try.ntmps76
  go_wp2_with fail
  generalize ((w.alloc (.cells #[.int .i64 x.id, .int .i64 x.plan.prio, .int .i64 x.plan.most, .int .i64 x.plan.wait, .int .i64 x.plan.tasks, .slice s.1.a s.1.n s.1.c, .int .i64 x.state, .slice s.2.a s.2.n s.2.c] 102)).alloc (.cells #[.int .i64 y.id, .int .i64 y.plan.prio, .int .i64 y.plan.most, .int .i64 y.plan.wait, .int .i64 y.plan.tasks, .slice r.1.a r.1.n r.1.c, .int .i64 y.state, .slice r.2.a r.2.n r.2.c] 102)) = w0 at *
  refine (samePlan_own x.plan y.plan s.1 r.1 _ (by unfold cntRun at hl; omega) (by unfold cntRun at hl'; omega) (hbx _ B0).1 (hby _ B0).1).mono ?_
  rintro e w1 ⟨rfl, b1⟩
  replace X := X.below b1
  replace Y := Y.below b1
  replace B0 := bnext B0 b1
  have u0 := X.cell 0 _ rfl
  have v0 := Y.cell 0 _ rfl
  have u1 := X.cell 1 _ rfl
  have v1 := Y.cell 1 _ rfl
  have u2 := X.cell 2 _ rfl
  have v2 := Y.cell 2 _ rfl
  have u3 := X.cell 3 _ rfl
  have v3 := Y.cell 3 _ rfl
  have u4 := X.cell 4 _ rfl
  have v4 := Y.cell 4 _ rfl
  have u5 := X.cell 5 _ rfl
  have v5 := Y.cell 5 _ rfl
  have u6 := X.cell 6 _ rfl
  have v6 := Y.cell 6 _ rfl
  have u7 := X.cell 7 _ rfl
  have v7 := Y.cell 7 _ rfl
  have us := X.lt
  have vs := Y.lt
  by_cases h1 : x.plan = y.plan
  case neg =>
    have t1 : decide (x.plan = y.plan) = false := decide_eq_false h1
    have H := no (fun e => by rw [e]) h1
    rw [t1]
    clear h1 no hbx hby t1
    go_wp2
    go_ret
    exact ⟨ret_bool H.out.symm, B0⟩
  have t1 : decide (x.plan = y.plan) = true := decide_eq_true h1
  rw [t1]
  have H1 := Lib.hid h1
  clear h1 t1 b1
  by_cases h2 : x.state = y.state
  case neg =>
    have t2 : (x.state == y.state) = false := beq_eq_false_iff_ne.2 h2
    have H := no (fun e => by rw [e]) h2
    clear h2 no hbx hby
    go_wp2
    go_ret
    exact ⟨ret_bool H.out.symm, B0⟩
  have t2 : (x.state == y.state) = true := by simp [h2]
  have H2 := Lib.hid h2
  clear h2
  go_wp2_with fail
  refine (equalTask_own x.tasks y.tasks s.2 r.2 _ (Nat.le_trans (cntL_len cntTask _) (by unfold cntRun at hl; omega)) (Nat.le_trans (cntL_len cntTask _) (by unfold cntRun at hl'; omega)) (hbx _ B0).2 (hby _ B0).2).mono ?_
  rintro e w2 ⟨rfl, b2⟩
  replace X := X.below b2
  replace Y := Y.below b2
  replace B0 := bnext B0 b2
  have u0 := X.cell 0 _ rfl
  have v0 := Y.cell 0 _ rfl
  have u1 := X.cell 1 _ rfl
  have v1 := Y.cell 1 _ rfl
  have u2 := X.cell 2 _ rfl
  have v2 := Y.cell 2 _ rfl
  have u3 := X.cell 3 _ rfl
  have v3 := Y.cell 3 _ rfl
  have u4 := X.cell 4 _ rfl
  have v4 := Y.cell 4 _ rfl
  have u5 := X.cell 5 _ rfl
  have v5 := Y.cell 5 _ rfl
  have u6 := X.cell 6 _ rfl
  have v6 := Y.cell 6 _ rfl
  have u7 := X.cell 7 _ rfl
  have v7 := Y.cell 7 _ rfl
  have us := X.lt
  have vs := Y.lt
  by_cases h3 : x.tasks = y.tasks
  case neg =>
    have t3 : decide (x.tasks = y.tasks) = false := decide_eq_false h3
    have H := no (fun e => by rw [e]) h3
    rw [t3]
    clear h3 no hbx hby t3
    go_wp2
    go_ret
    exact ⟨ret_bool H.out.symm, B0⟩
  have t3 : decide (x.tasks = y.tasks) = true := decide_eq_true h3
  rw [t3]
  have H3 := Lib.hid h3
  clear h3 t3 b2
  have H : Hid (decide (x = y) = true) := decide_eq_true (by
    have e0 := H0.out ; have e1 := H1.out ; have e2 := H2.out ; have e3 := H3.out
    cases x
    cases y
    simp only at e0 e1 e2 e3
    subst e0 e1 e2 e3
    rfl)
  clear no hbx hby
  go_wp2
  go_ret
  exact ⟨ret_bool H.out.symm, B0⟩

theorem equalRuns_own (l l' : List (Run)) (s s' : Sl) (w : World) (hl : cntL cntRun l ≤ 2000000) (hl' : cntL cntRun l' ≤ 2000000) (h : RdL runD w w.heap.size s.v l) (h' : RdL runD w w.heap.size s'.v l') :
    Calls Try.prog 75 #[.slice s.a s.n s.c, .slice s'.a s'.n s'.c, .func (.func 76) #[] #[]] w fun e w' => e = .returned (.bool (decide (l = l'))) ∧ Below w.heap.size w w' := by
  obtain ⟨A, n, c⟩ := s
  obtain ⟨A', n', c'⟩ := s'
  obtain ⟨A1, e1, hv, -⟩ := h.form
  obtain ⟨A2, e2, hv', -⟩ := h'.form
  simp only [Sl.v, Value.slice.injEq] at hv hv'
  obtain ⟨rfl, rfl, rfl⟩ := hv
  obtain ⟨rfl, rfl, rfl⟩ := hv'
  have hll : l.length ≤ 2000000 := Nat.le_trans (cntL_len cntRun _) hl
  have hll' : l'.length ≤ 2000000 := Nat.le_trans (cntL_len cntRun _) hl'
  by_cases hne : l.length = l'.length
  · have hb0 : ((l.length : Int) != (l'.length : Int)) = false := by simp [hne]
    have Hne := Lib.hid hne
    clear hne
    go_enter Try.func75, Try.ntmps75
    go_wp2
    go_loopw [17] (fun i wr => ∃ k : Nat, k ≤ l.length ∧ i = .int .i64 k ∧ Hid (l.take k = l'.take k) ∧ Below w.heap.size w wr) (fun i _ => l.length - (intOf i).toNat)
    case atStart => exact ⟨0, Nat.zero_le _, rfl, rfl, Below.refl _ _⟩
    case round =>
      obtain ⟨k, hk, rfl, heq, hb⟩ := hrel
      by_cases hlt : k < l.length
      · have hlt' : k < l'.length := by rw [← Hne.out]; exact hlt
        obtain ⟨b, o, s, rfl, hbb, hr, c0, c1, c2, c3, c4, c5, c6, c7⟩ := (h.below hb).run hlt
        obtain ⟨b', o', s', rfl, hbb', hr', d0, d1, d2, d3, d4, d5, d6, d7⟩ := (h'.below hb).run hlt'
        have i1 : (k : Int) < (l.length : Int) := by omega
        have i2 : (k : Int) < (l'.length : Int) := by omega
        have m1 : cntRun l[k] ≤ 2000000 := by have := cntL_mem (cnt := cntRun) (List.getElem_mem hlt); omega
        have m2 : cntRun l'[k] ≤ 2000000 := by have := cntL_mem (cnt := cntRun) (List.getElem_mem hlt'); omega
        have hs := hb.size
        have hb1 : b < wr.heap.size := by omega
        have hb2 : b' < wr.heap.size := by omega
        have hx : ∀ W, Below wr.heap.size wr W → runD.rd W W.heap.size l[k] s := fun W hW => runD.rd_more (runD.rd_below (runD.rd_more hr hs) hW) hW.size
        have hy : ∀ W, Below wr.heap.size wr W → runD.rd W W.heap.size l'[k] s' := fun W hW => runD.rd_more (runD.rd_below (runD.rd_more hr' hs) hW) hW.size
        go_wp2_with fail
        refine (sameRun_own l[k] l'[k] s s' _ m1 m2 (hx _ (by repeat (first | exact Below.refl _ _ | refine Below.alloc ?_ (by simp <;> omega) _))) (hy _ (by repeat (first | exact Below.refl _ _ | refine Below.alloc ?_ (by simp <;> omega) _)))).mono ?_
        rintro e w1 ⟨rfl, b1⟩
        have B1 : Below wr.heap.size wr w1 := bnext (by repeat (first | exact Below.refl _ _ | refine Below.alloc ?_ (by simp <;> omega) _)) b1
        clear hx hy b1
        by_cases hxy : l[k] = l'[k]
        · have S : Hid (l.take (k + 1) = l'.take (k + 1)) := by
            show l.take (k + 1) = l'.take (k + 1)
            rw [take_snoc l k hlt, take_snoc l' k hlt', heq.out, hxy]
          rw [decide_eq_true hxy]
          clear hxy
          go_wp2
          exact ⟨⟨k + 1, by omega, by go_num, S, bnext hb B1⟩, by simp [intOf]; omega⟩
        · have H := Lib.hid (show decide (l = l') = false by
            simp only [decide_eq_false_iff_not]
            intro e
            subst e
            exact hxy rfl)
          rw [decide_eq_false hxy]
          clear hxy
          go_wp2
          go_ret
          exact ⟨ret_bool H.out.symm, bnext hb B1⟩
      · go_wp2
        go_ret
        refine ⟨ret_bool ?_, hb⟩
        have h1 := heq.out
        rw [List.take_of_length_le (by omega), List.take_of_length_le (by rw [← Hne.out]; omega)] at h1
        simp [h1]
  · have hb0 : ((l.length : Int) != (l'.length : Int)) = true := by simp; omega
    go_enter Try.func75, Try.ntmps75
    go_wp2
    go_ret
    refine ⟨ret_bool ?_, Below.refl _ _⟩
    simp only [Bool.false_eq, decide_eq_false_iff_not]
    intro e
    exact hne (by rw [e])

theorem equalShelves_own (l l' : List (List Entry)) (s s' : Sl) (w : World) (hl : cntL cntEntryS l ≤ 2000000) (hl' : cntL cntEntryS l' ≤ 2000000) (h : RdL (Dt.list entryD) w w.heap.size s.v l) (h' : RdL (Dt.list entryD) w w.heap.size s'.v l') :
    Calls Try.prog 73 #[.slice s.a s.n s.c, .slice s'.a s'.n s'.c, .func (.func 74) #[] #[]] w fun e w' => e = .returned (.bool (decide (l = l'))) ∧ Below w.heap.size w w' := by
  obtain ⟨A, n, c⟩ := s
  obtain ⟨A', n', c'⟩ := s'
  obtain ⟨A1, e1, hv, -⟩ := h.form
  obtain ⟨A2, e2, hv', -⟩ := h'.form
  simp only [Sl.v, Value.slice.injEq] at hv hv'
  obtain ⟨rfl, rfl, rfl⟩ := hv
  obtain ⟨rfl, rfl, rfl⟩ := hv'
  have hll : l.length ≤ 2000000 := Nat.le_trans (cntL_len cntEntryS _) hl
  have hll' : l'.length ≤ 2000000 := Nat.le_trans (cntL_len cntEntryS _) hl'
  by_cases hne : l.length = l'.length
  · have hb0 : ((l.length : Int) != (l'.length : Int)) = false := by simp [hne]
    have Hne := Lib.hid hne
    clear hne
    go_enter Try.func73, Try.ntmps73
    go_wp2
    go_loopw [17] (fun i wr => ∃ k : Nat, k ≤ l.length ∧ i = .int .i64 k ∧ Hid (l.take k = l'.take k) ∧ Below w.heap.size w wr) (fun i _ => l.length - (intOf i).toNat)
    case atStart => exact ⟨0, Nat.zero_le _, rfl, rfl, Below.refl _ _⟩
    case round =>
      obtain ⟨k, hk, rfl, heq, hb⟩ := hrel
      by_cases hlt : k < l.length
      · have hlt' : k < l'.length := by rw [← Hne.out]; exact hlt
        obtain ⟨b, o, s, rfl, hbb, hr, c0⟩ := (h.below hb).entryS hlt
        obtain ⟨b', o', s', rfl, hbb', hr', d0⟩ := (h'.below hb).entryS hlt'
        have i1 : (k : Int) < (l.length : Int) := by omega
        have i2 : (k : Int) < (l'.length : Int) := by omega
        have m1 : cntEntryS l[k] ≤ 2000000 := by have := cntL_mem (cnt := cntEntryS) (List.getElem_mem hlt); omega
        have m2 : cntEntryS l'[k] ≤ 2000000 := by have := cntL_mem (cnt := cntEntryS) (List.getElem_mem hlt'); omega
        have hs := hb.size
        have hb1 : b < wr.heap.size := by omega
        have hb2 : b' < wr.heap.size := by omega
        have hx : ∀ W, Below wr.heap.size wr W → (Dt.list entryD).rd W W.heap.size l[k] s := fun W hW => (Dt.list entryD).rd_more ((Dt.list entryD).rd_below ((Dt.list entryD).rd_more hr hs) hW) hW.size
        have hy : ∀ W, Below wr.heap.size wr W → (Dt.list entryD).rd W W.heap.size l'[k] s' := fun W hW => (Dt.list entryD).rd_more ((Dt.list entryD).rd_below ((Dt.list entryD).rd_more hr' hs) hW) hW.size
        go_wp2_with fail
        refine (equalEntry_own l[k] l'[k] s s' _ (Nat.le_trans (cntL_len cntEntry _) m1) (Nat.le_trans (cntL_len cntEntry _) m2) (hx _ (by repeat (first | exact Below.refl _ _ | refine Below.alloc ?_ (by simp <;> omega) _))) (hy _ (by repeat (first | exact Below.refl _ _ | refine Below.alloc ?_ (by simp <;> omega) _)))).mono ?_
        rintro e w1 ⟨rfl, b1⟩
        have B1 : Below wr.heap.size wr w1 := bnext (by repeat (first | exact Below.refl _ _ | refine Below.alloc ?_ (by simp <;> omega) _)) b1
        clear hx hy b1
        by_cases hxy : l[k] = l'[k]
        · have S : Hid (l.take (k + 1) = l'.take (k + 1)) := by
            show l.take (k + 1) = l'.take (k + 1)
            rw [take_snoc l k hlt, take_snoc l' k hlt', heq.out, hxy]
          rw [decide_eq_true hxy]
          clear hxy
          go_wp2
          exact ⟨⟨k + 1, by omega, by go_num, S, bnext hb B1⟩, by simp [intOf]; omega⟩
        · have H := Lib.hid (show decide (l = l') = false by
            simp only [decide_eq_false_iff_not]
            intro e
            subst e
            exact hxy rfl)
          rw [decide_eq_false hxy]
          clear hxy
          go_wp2
          go_ret
          exact ⟨ret_bool H.out.symm, bnext hb B1⟩
      · go_wp2
        go_ret
        refine ⟨ret_bool ?_, hb⟩
        have h1 := heq.out
        rw [List.take_of_length_le (by omega), List.take_of_length_le (by rw [← Hne.out]; omega)] at h1
        simp [h1]
  · have hb0 : ((l.length : Int) != (l'.length : Int)) = true := by simp; omega
    go_enter Try.func73, Try.ntmps73
    go_wp2
    go_ret
    refine ⟨ret_bool ?_, Below.refl _ _⟩
    simp only [Bool.false_eq, decide_eq_false_iff_not]
    intro e
    exact hne (by rw [e])

theorem sameYard_own (x y : Yard) (s r : Sl × Sl) (w : World) (hl : cntYard x ≤ 2000000) (hl' : cntYard y ≤ 2000000) (h : yardD.rd w w.heap.size x s) (h' : yardD.rd w w.heap.size y r) :
    Calls Try.prog 49 #[yardW x s, yardW y r] w fun e w' => e = .returned (.bool (decide (x = y))) ∧ Below w.heap.size w w' := by
  have hbx : ∀ W, Below w.heap.size w W → yardD.rd W W.heap.size x s := fun W hW => yardD.rd_more (yardD.rd_below h hW) hW.size
  have hby : ∀ W, Below w.heap.size w W → yardD.rd W W.heap.size y r := fun W hW => yardD.rd_more (yardD.rd_below h' hW) hW.size
  have no : ∀ {P : Prop}, (x = y → P) → ¬ P → Hid (decide (x = y) = false) := fun f g => decide_eq_false (fun e => g (f e))
  have a1 : Below w.heap.size w (w.alloc (.cells #[.int .i64 x.now, .int .i64 x.seq, .slice s.1.a s.1.n s.1.c, .slice s.2.a s.2.n s.2.c] 47)) := (Below.refl _ _).alloc (Nat.le_refl _) _
  have a2 : Below (w.alloc (.cells #[.int .i64 x.now, .int .i64 x.seq, .slice s.1.a s.1.n s.1.c, .slice s.2.a s.2.n s.2.c] 47)).heap.size (w.alloc (.cells #[.int .i64 x.now, .int .i64 x.seq, .slice s.1.a s.1.n s.1.c, .slice s.2.a s.2.n s.2.c] 47)) ((w.alloc (.cells #[.int .i64 x.now, .int .i64 x.seq, .slice s.1.a s.1.n s.1.c, .slice s.2.a s.2.n s.2.c] 47)).alloc (.cells #[.int .i64 y.now, .int .i64 y.seq, .slice r.1.a r.1.n r.1.c, .slice r.2.a r.2.n r.2.c] 47)) := (Below.refl _ _).alloc (Nat.le_refl _) _
  have X := (DBox.new 47 [.int .i64 x.now, .int .i64 x.seq, .slice s.1.a s.1.n s.1.c, .slice s.2.a s.2.n s.2.c] w rfl).below a2
  have Y := DBox.new 47 [.int .i64 y.now, .int .i64 y.seq, .slice r.1.a r.1.n r.1.c, .slice r.2.a r.2.n r.2.c] (w.alloc (.cells #[.int .i64 x.now, .int .i64 x.seq, .slice s.1.a s.1.n s.1.c, .slice s.2.a s.2.n s.2.c] 47)) (b := w.heap.size + 1) (by simp)
  have B0 := bnext a1 a2
  clear a1 a2
  by_cases h0 : x.now = y.now
  case neg =>
    have t0 : (x.now == y.now) = false := beq_eq_false_iff_ne.2 h0
    have H := no (fun e => by rw [e]) h0
    clear h0 no hbx hby
    go_enter Try.func49, Try.ntmps49
    go_wp2
    go_ret
    exact ⟨ret_bool H.out.symm, B0⟩
  have t0 : (x.now == y.now) = true := by simp [h0]
  have H0 := Lib.hid h0
  clear h0
  by_cases h1 : x.seq = y.seq
  case neg =>
    have t1 : (x.seq == y.seq) = false := beq_eq_false_iff_ne.2 h1
    have H := no (fun e => by rw [e]) h1
    clear h1 no hbx hby
    go_enter Try.func49, Try.ntmps49
    go_wp2
    go_ret
    exact ⟨ret_bool H.out.symm, B0⟩
  have t1 : (x.seq == y.seq) = true := by simp [h1]
  have H1 := Lib.hid h1
  clear h1
  go_enter Try.func49, Try.ntmps49
  go_wp2_with fail
  generalize ((w.alloc (.cells #[.int .i64 x.now, .int .i64 x.seq, .slice s.1.a s.1.n s.1.c, .slice s.2.a s.2.n s.2.c] 47)).alloc (.cells #[.int .i64 y.now, .int .i64 y.seq, .slice r.1.a r.1.n r.1.c, .slice r.2.a r.2.n r.2.c] 47)) = w0 at *
  refine (equalShelves_own x.shelf y.shelf s.1 r.1 _ (by unfold cntYard at hl; omega) (by unfold cntYard at hl'; omega) (hbx _ B0).1 (hby _ B0).1).mono ?_
  rintro e w1 ⟨rfl, b1⟩
  replace X := X.below b1
  replace Y := Y.below b1
  replace B0 := bnext B0 b1
  have u0 := X.cell 0 _ rfl
  have v0 := Y.cell 0 _ rfl
  have u1 := X.cell 1 _ rfl
  have v1 := Y.cell 1 _ rfl
  have u2 := X.cell 2 _ rfl
  have v2 := Y.cell 2 _ rfl
  have u3 := X.cell 3 _ rfl
  have v3 := Y.cell 3 _ rfl
  have us := X.lt
  have vs := Y.lt
  by_cases h2 : x.shelf = y.shelf
  case neg =>
    have t2 : decide (x.shelf = y.shelf) = false := decide_eq_false h2
    have H := no (fun e => by rw [e]) h2
    rw [t2]
    clear h2 no hbx hby t2
    go_wp2
    go_ret
    exact ⟨ret_bool H.out.symm, B0⟩
  have t2 : decide (x.shelf = y.shelf) = true := decide_eq_true h2
  rw [t2]
  have H2 := Lib.hid h2
  clear h2 t2 b1
  go_wp2_with fail
  refine (equalRuns_own x.runs y.runs s.2 r.2 _ (by unfold cntYard at hl; omega) (by unfold cntYard at hl'; omega) (hbx _ B0).2 (hby _ B0).2).mono ?_
  rintro e w2 ⟨rfl, b2⟩
  replace X := X.below b2
  replace Y := Y.below b2
  replace B0 := bnext B0 b2
  have u0 := X.cell 0 _ rfl
  have v0 := Y.cell 0 _ rfl
  have u1 := X.cell 1 _ rfl
  have v1 := Y.cell 1 _ rfl
  have u2 := X.cell 2 _ rfl
  have v2 := Y.cell 2 _ rfl
  have u3 := X.cell 3 _ rfl
  have v3 := Y.cell 3 _ rfl
  have us := X.lt
  have vs := Y.lt
  by_cases h3 : x.runs = y.runs
  case neg =>
    have t3 : decide (x.runs = y.runs) = false := decide_eq_false h3
    have H := no (fun e => by rw [e]) h3
    rw [t3]
    clear h3 no hbx hby t3
    go_wp2
    go_ret
    exact ⟨ret_bool H.out.symm, B0⟩
  have t3 : decide (x.runs = y.runs) = true := decide_eq_true h3
  rw [t3]
  have H3 := Lib.hid h3
  clear h3 t3 b2
  have H : Hid (decide (x = y) = true) := decide_eq_true (by
    have e0 := H0.out ; have e1 := H1.out ; have e2 := H2.out ; have e3 := H3.out
    cases x
    cases y
    simp only at e0 e1 e2 e3
    subst e0 e1 e2 e3
    rfl)
  clear no hbx hby
  go_wp2
  go_ret
  exact ⟨ret_bool H.out.symm, B0⟩

end Go.Proofs.Ytjobmbjadpldfaa
