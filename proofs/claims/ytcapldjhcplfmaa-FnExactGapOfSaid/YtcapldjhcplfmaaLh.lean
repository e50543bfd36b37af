/-
  LagOf and GapOf of the reference and of the program.
-/
import Derived.Test.YtcapldjhcplfmaaLg
import Derived.Test.YtcapldjhcplfmaaDb
namespace Go.Proofs.Ytcapldjhcplfmaa
open Go.RowKit
set_option maxRecDepth 100000
set_option maxHeartbeats 1000000
set_option linter.unusedVariables false
set_option linter.unusedSimpArgs false

theorem follower_box (T : TypeId) (f : Follower) (s : Sl × Sl) (w : World) : DBox w.heap.size [.int .i64 f.yard.now, .int .i64 f.yard.seq, .slice s.1.a s.1.n s.1.c, .slice s.2.a s.2.n s.2.c, .int .i64 f.seq] (w.alloc (.cells #[.int .i64 f.yard.now, .int .i64 f.yard.seq, .slice s.1.a s.1.n s.1.c, .slice s.2.a s.2.n s.2.c, .int .i64 f.seq] T)) := DBox.new T _ w rfl

theorem specLagOf_own (f : Follower) (s : Sl × Sl) (l : List Note) (r : Sl) (w : World) (hm0 : cntFollower f ≤ 2000000) (hm1 : cntL cntNote l ≤ 2000000) (h0 : followerD.rd w w.heap.size f s) (h1 : RdL noteD w w.heap.size r.v l) :
    Calls Try.prog 67 #[followerW f s, .slice r.a r.n r.c] w fun e w' => e = .returned (.int .i64 (lagOf f l)) ∧ Below w.heap.size w w' := by
  obtain ⟨A, n, c⟩ := r
  obtain ⟨A', c', hv, -⟩ := h1.form
  simp only [Sl.v, Value.slice.injEq] at hv
  obtain ⟨rfl, rfl, rfl⟩ := hv
  have hll : l.length ≤ 2000000 := Nat.le_trans (cntL_len _ _) hm1
  have D := follower_box 98 f s w
  have hb0 : Below w.heap.size w (w.alloc (.cells #[.int .i64 f.yard.now, .int .i64 f.yard.seq, .slice s.1.a s.1.n s.1.c, .slice s.2.a s.2.n s.2.c, .int .i64 f.seq] 98)) := (Below.refl _ _).alloc (Nat.le_refl _) _
  clear hm0 hm1
  go_enter Try.func67, Try.ntmps67
  go_wp2
  generalize (w.alloc (.cells #[.int .i64 f.yard.now, .int .i64 f.yard.seq, .slice s.1.a s.1.n s.1.c, .slice s.2.a s.2.n s.2.c, .int .i64 f.seq] 98)) = W at *
  have zW := D.lt
  go_loopw [5, 6] (fun n i wr => ∃ k : Nat, k ≤ l.length ∧ i = .int .i64 k ∧ n = .int .i64 (lagN f.seq (l.take k) : Nat) ∧ Below (w.heap.size + 1) W wr) (fun _ i _ => l.length - (intOf i).toNat)
  case atStart => exact ⟨0, Nat.zero_le _, rfl, by simp [lagN], Below.refl _ _⟩
  case round =>
    obtain ⟨k, hk, rfl, rfl, hb1⟩ := hrel
    have hn : lagN f.seq (l.take k) ≤ 2000000 := Nat.le_trans (lagN_le _ _) (by rw [List.length_take]; omega)
    have hb : Below w.heap.size w wr := hb0.trans (hb1.mono (by omega))
    by_cases hlt : k < l.length
    · obtain ⟨b, o, s', rfl, hbb, hr, c0, -⟩ := (h1.below hb).note hlt
      have dq : wr.cell? ⟨w.heap.size, 4, none⟩ = some (.int .i64 f.seq) := (hb1.cell (p := ⟨w.heap.size, 4, none⟩) (Nat.lt_succ_self _)).trans (D.cell 4 _ rfl)
      by_cases hq : f.seq < l[k].seq
      · have e := Lib.hid (lagN_yes hlt hq)
        go_wp2
        go_quiet (fail)
        go_wp2
        exact ⟨⟨k + 1, by omega, by go_num, by rw [e.out]; go_num, bdrewN hb1 _⟩, by simp [intOf]; omega⟩
      · have e := Lib.hid (lagN_no hlt hq)
        go_wp2
        go_quiet (fail)
        go_wp2
        exact ⟨⟨k + 1, by omega, by go_num, by rw [e.out], bdrewN hb1 _⟩, by simp [intOf]; omega⟩
    · go_wp2
      go_ret
      exact ⟨ret_int (by unfold lagOf; rw [List.take_of_length_le (by omega)]), hb⟩

theorem implLagOf_own (f : Follower) (s : Sl × Sl) (l : List Note) (r : Sl) (w : World) (hm0 : cntFollower f ≤ 2000000) (hm1 : cntL cntNote l ≤ 2000000) (h0 : followerD.rd w w.heap.size f s) (h1 : RdL noteD w w.heap.size r.v l) :
    Calls Try.prog 69 #[followerW f s, .slice r.a r.n r.c] w fun e w' => e = .returned (.int .i64 (lagOf f l)) ∧ Below w.heap.size w w' := by
  obtain ⟨A, n, c⟩ := r
  obtain ⟨A', c', hv, -⟩ := h1.form
  simp only [Sl.v, Value.slice.injEq] at hv
  obtain ⟨rfl, rfl, rfl⟩ := hv
  have hll : l.length ≤ 2000000 := Nat.le_trans (cntL_len _ _) hm1
  have D := follower_box 98 f s w
  have hb0 : Below w.heap.size w (w.alloc (.cells #[.int .i64 f.yard.now, .int .i64 f.yard.seq, .slice s.1.a s.1.n s.1.c, .slice s.2.a s.2.n s.2.c, .int .i64 f.seq] 98)) := (Below.refl _ _).alloc (Nat.le_refl _) _
  clear hm0 hm1
  go_enter Try.func69, Try.ntmps69
  go_wp2
  generalize (w.alloc (.cells #[.int .i64 f.yard.now, .int .i64 f.yard.seq, .slice s.1.a s.1.n s.1.c, .slice s.2.a s.2.n s.2.c, .int .i64 f.seq] 98)) = W at *
  go_loopw [5, 10] (fun n i wr => ∃ k : Nat, k ≤ l.length ∧ i = .int .i64 k ∧ n = .int .i64 (lagN f.seq (l.take k) : Nat) ∧ Below w.heap.size w wr ∧ DBox w.heap.size [.int .i64 f.yard.now, .int .i64 f.yard.seq, .slice s.1.a s.1.n s.1.c, .slice s.2.a s.2.n s.2.c, .int .i64 f.seq] wr) (fun _ i _ => l.length - (intOf i).toNat)
  case atStart => exact ⟨0, Nat.zero_le _, rfl, by simp [lagN], hb0, D⟩
  case round =>
    obtain ⟨k, hk, rfl, rfl, hb, D'⟩ := hrel
    have hn : lagN f.seq (l.take k) ≤ 2000000 := Nat.le_trans (lagN_le _ _) (by rw [List.length_take]; omega)
    by_cases hlt : k < l.length
    · obtain ⟨b, o, s', rfl, hbb, hr, c0, c1, c2, c3, c4, c5, c6, c7, c8, c9, c10, c11⟩ := (h1.below hb).note hlt
      have dq : wr.cell? ⟨w.heap.size, 4, none⟩ = some (.int .i64 f.seq) := D'.cell 4 _ rfl
      have hs := hb.size
      have dl := D'.lt
      by_cases hq : f.seq < l[k].seq
      · have e := Lib.hid (lagN_yes hlt hq)
        go_wp2
        exact ⟨⟨k + 1, by omega, by go_num, by rw [e.out]; go_num, hb.alloc hb.size _, D'.below ((Below.refl _ _).alloc (Nat.le_refl _) _)⟩, by simp [intOf]; omega⟩
      · have e := Lib.hid (lagN_no hlt hq)
        go_wp2
        exact ⟨⟨k + 1, by omega, by go_num, by rw [e.out], hb.alloc hb.size _, D'.below ((Below.refl _ _).alloc (Nat.le_refl _) _)⟩, by simp [intOf]; omega⟩
    · go_wp2
      go_ret
      exact ⟨ret_int (by unfold lagOf; rw [List.take_of_length_le (by omega)]), hb⟩

theorem specGapOf_own (f : Follower) (s : Sl × Sl) (l : List Note) (r : Sl) (w : World) (hm0 : cntFollower f ≤ 2000000) (hm1 : cntL cntNote l ≤ 2000000) (hw0 : wfFollower f) (hw1 : wfL wfNote l) (h0 : followerD.rd w w.heap.size f s) (h1 : RdL noteD w w.heap.size r.v l) :
    Calls Try.prog 71 #[followerW f s, .slice r.a r.n r.c] w fun e w' => e = .returned (.tuple #[.int .i64 (gapOf f l).1, .bool (gapOf f l).2]) ∧ Below w.heap.size w w' := by
  obtain ⟨A, n, c⟩ := r
  obtain ⟨A', c', hv, -⟩ := h1.form
  simp only [Sl.v, Value.slice.injEq] at hv
  obtain ⟨rfl, rfl, rfl⟩ := hv
  have hll : l.length ≤ 2000000 := Nat.le_trans (cntL_len _ _) hm1
  have D := follower_box 98 f s w
  have hb0 : Below w.heap.size w (w.alloc (.cells #[.int .i64 f.yard.now, .int .i64 f.yard.seq, .slice s.1.a s.1.n s.1.c, .slice s.2.a s.2.n s.2.c, .int .i64 f.seq] 98)) := (Below.refl _ _).alloc (Nat.le_refl _) _
  have hfw : -9223372036854775808 ≤ f.seq ∧ f.seq ≤ 9223372036854775807 := hw0.2
  have hnw : ∀ k (hk : k < l.length), -9223372036854775808 ≤ l[k].seq ∧ l[k].seq ≤ 9223372036854775807 := fun k hk => (hw1.2 _ (List.getElem_mem hk)).1
  clear hm0 hm1 hw0 hw1
  go_enter Try.func71, Try.ntmps71
  go_wp2
  generalize (w.alloc (.cells #[.int .i64 f.yard.now, .int .i64 f.yard.seq, .slice s.1.a s.1.n s.1.c, .slice s.2.a s.2.n s.2.c, .int .i64 f.seq] 98)) = W at *
  have zW := D.lt
  go_loopw [6, 7] (fun t i wr => ∃ (k : Nat) (m : Bool), k ≤ l.length ∧ i = .int .i64 k ∧ t = .bool m ∧ Hid (nextIn f.seq (l.take k) = false) ∧ Hid (moreIn f.seq (l.take k) = m) ∧ Below (w.heap.size + 1) W wr) (fun _ i _ => l.length - (intOf i).toNat)
  case atStart => exact ⟨0, false, Nat.zero_le _, rfl, rfl, rfl, rfl, Below.refl _ _⟩
  case round =>
    obtain ⟨k, m, hk, rfl, rfl, hno, hmo, hb1⟩ := hrel
    have hb : Below w.heap.size w wr := hb0.trans (hb1.mono (by omega))
    by_cases hlt : k < l.length
    · obtain ⟨b, o, s', rfl, hbb, hr, c0, -⟩ := (h1.below hb).note hlt
      have dq : wr.cell? ⟨w.heap.size, 4, none⟩ = some (.int .i64 f.seq) := (hb1.cell (p := ⟨w.heap.size, 4, none⟩) (Nat.lt_succ_self _)).trans (D.cell 4 _ rfl)
      have hn := hnw k hlt
      by_cases hq : f.seq < l[k].seq
      · have t0 : decide (f.seq < l[k].seq) = true := by simpa using hq
        by_cases he : l[k].seq = f.seq + 1
        · have e := Lib.hid (show gapOf f l = (0, false) from nextIn_yes hlt he)
          have t1 : (l[k].seq - 1 == f.seq) = true := by simp; omega
          clear he
          have ew : IntKind.i64.wrap (l[k].seq - 1) = l[k].seq - 1 := IntWalk.i64_in _ (by omega)
          go_wp2
          go_quiet (fail)
          go_wp2
          refine bodyPost_ret (v := .tuple #[.int .i64 (gapOf f l).1, .bool (gapOf f l).2]) ?_ rfl ⟨rfl, bdrewN hb _⟩
          rw [e.out]
          simp [results, Try.results71, go_sem]
        · have t1 : (l[k].seq - 1 == f.seq) = false := by simp; omega
          have ew : IntKind.i64.wrap (l[k].seq - 1) = l[k].seq - 1 := IntWalk.i64_in _ (by omega)
          have S1 := Lib.hid (nextIn_no hlt hno.out he)
          have S2 := Lib.hid (moreIn_yes hlt hq)
          clear he
          cases m with
          | false =>
            go_wp2
            go_quiet (fail)
            go_wp2
            go_quiet (fail)
            go_wp2
            exact ⟨⟨k + 1, true, by omega, by go_num, rfl, S1, S2, bdrewN hb1 _⟩, by simp [intOf]; omega⟩
          | true =>
            go_wp2
            go_quiet (fail)
            go_wp2
            go_quiet (fail)
            go_wp2
            exact ⟨⟨k + 1, true, by omega, by go_num, rfl, S1, S2, bdrewN hb1 _⟩, by simp [intOf]; omega⟩
      · have t0 : decide (f.seq < l[k].seq) = false := by simpa using hq
        have S1 := Lib.hid (nextIn_no hlt hno.out (by omega))
        have S2 := Lib.hid ((moreIn_no hlt hq).trans hmo.out)
        cases m with
        | false =>
          go_wp2
          go_quiet (fail)
          go_wp2
          go_quiet (fail)
          go_wp2
          exact ⟨⟨k + 1, false, by omega, by go_num, rfl, S1, S2, bdrewN hb1 _⟩, by simp [intOf]; omega⟩
        | true =>
          go_wp2
          go_quiet (fail)
          go_wp2
          go_quiet (fail)
          go_wp2
          exact ⟨⟨k + 1, true, by omega, by go_num, rfl, S1, S2, bdrewN hb1 _⟩, by simp [intOf]; omega⟩
    · have hk' : k = l.length := by omega
      subst hk'
      rw [List.take_length] at hno hmo
      have dq : wr.cell? ⟨w.heap.size, 4, none⟩ = some (.int .i64 f.seq) := (hb1.cell (p := ⟨w.heap.size, 4, none⟩) (Nat.lt_succ_self _)).trans (D.cell 4 _ rfl)
      cases m with
      | false =>
        have e := Lib.hid (show gapOf f l = (0, false) from gap_end_no hno.out hmo.out)
        go_wp2
        refine bodyPost_ret (v := .tuple #[.int .i64 (gapOf f l).1, .bool (gapOf f l).2]) ?_ rfl ⟨rfl, hb⟩
        rw [e.out]
        simp [results, Try.results71, go_sem]
      | true =>
        have e := Lib.hid (show gapOf f l = (f.seq + 1, true) from gap_end_yes hno.out hmo.out)
        obtain ⟨j, hj, hlt⟩ := moreIn_lt hmo.out
        have := hnw j hj
        have i1 : f.seq + 1 ≤ 9223372036854775807 := by omega
        clear this hlt hj
        go_wp2
        refine bodyPost_ret (v := .tuple #[.int .i64 (gapOf f l).1, .bool (gapOf f l).2]) ?_ rfl ⟨rfl, hb⟩
        rw [e.out]
        simp [results, Try.results71, go_sem]

theorem implGapOf_own (f : Follower) (s : Sl × Sl) (l : List Note) (r : Sl) (w : World) (hm0 : cntFollower f ≤ 2000000) (hm1 : cntL cntNote l ≤ 2000000) (hw0 : wfFollower f) (hw1 : wfL wfNote l) (h0 : followerD.rd w w.heap.size f s) (h1 : RdL noteD w w.heap.size r.v l) :
    Calls Try.prog 72 #[followerW f s, .slice r.a r.n r.c] w fun e w' => e = .returned (.tuple #[.int .i64 (gapOf f l).1, .bool (gapOf f l).2]) ∧ Below w.heap.size w w' := by
  obtain ⟨A, n, c⟩ := r
  obtain ⟨A', c', hv, -⟩ := h1.form
  simp only [Sl.v, Value.slice.injEq] at hv
  obtain ⟨rfl, rfl, rfl⟩ := hv
  have hll : l.length ≤ 2000000 := Nat.le_trans (cntL_len _ _) hm1
  have D := follower_box 98 f s w
  have hb0 : Below w.heap.size w (w.alloc (.cells #[.int .i64 f.yard.now, .int .i64 f.yard.seq, .slice s.1.a s.1.n s.1.c, .slice s.2.a s.2.n s.2.c, .int .i64 f.seq] 98)) := (Below.refl _ _).alloc (Nat.le_refl _) _
  have hfw : -9223372036854775808 ≤ f.seq ∧ f.seq ≤ 9223372036854775807 := hw0.2
  have hnw : ∀ k (hk : k < l.length), -9223372036854775808 ≤ l[k].seq ∧ l[k].seq ≤ 9223372036854775807 := fun k hk => (hw1.2 _ (List.getElem_mem hk)).1
  clear hm0 hm1 hw0 hw1
  go_enter Try.func72, Try.ntmps72
  go_wp2
  generalize (w.alloc (.cells #[.int .i64 f.yard.now, .int .i64 f.yard.seq, .slice s.1.a s.1.n s.1.c, .slice s.2.a s.2.n s.2.c, .int .i64 f.seq] 98)) = W at *
  have zW := D.lt
  go_loopw [6, 11] (fun t i wr => ∃ (k : Nat) (m : Bool), k ≤ l.length ∧ i = .int .i64 k ∧ t = .bool m ∧ Hid (nextIn f.seq (l.take k) = false) ∧ Hid (moreIn f.seq (l.take k) = m) ∧ Below (w.heap.size + 1) W wr) (fun _ i _ => l.length - (intOf i).toNat)
  case atStart => exact ⟨0, false, Nat.zero_le _, rfl, rfl, rfl, rfl, Below.refl _ _⟩
  case round =>
    obtain ⟨k, m, hk, rfl, rfl, hno, hmo, hb1⟩ := hrel
    have hb : Below w.heap.size w wr := hb0.trans (hb1.mono (by omega))
    have hs := hb1.size
    have dl : w.heap.size < wr.heap.size := by omega
    by_cases hlt : k < l.length
    · obtain ⟨b, o, s', rfl, hbb, hr, c0, c1, c2, c3, c4, c5, c6, c7, c8, c9, c10, c11⟩ := (h1.below hb).note hlt
      have dq : wr.cell? ⟨w.heap.size, 4, none⟩ = some (.int .i64 f.seq) := (hb1.cell (p := ⟨w.heap.size, 4, none⟩) (Nat.lt_succ_self _)).trans (D.cell 4 _ rfl)
      have hn := hnw k hlt
      have ha := fun T cs => hb1.alloc (o := .cells cs T) (by omega : w.heap.size + 1 ≤ wr.heap.size)
      have ha0 := fun T cs => hb.alloc (o := .cells cs T) hb.size
      by_cases hq : f.seq < l[k].seq
      · by_cases he : l[k].seq = f.seq + 1
        · have e := Lib.hid (show gapOf f l = (0, false) from nextIn_yes hlt he)
          have t1 : (l[k].seq - 1 == f.seq) = true := by simp; omega
          clear he
          have ew : IntKind.i64.wrap (l[k].seq - 1) = l[k].seq - 1 := IntWalk.i64_in _ (by omega)
          go_wp2
          refine bodyPost_ret (v := .tuple #[.int .i64 (gapOf f l).1, .bool (gapOf f l).2]) ?_ rfl ⟨rfl, ha0 _ _⟩
          rw [e.out]
          simp [results, Try.results72, go_sem]
        · have t1 : (l[k].seq - 1 == f.seq) = false := by simp; omega
          have ew : IntKind.i64.wrap (l[k].seq - 1) = l[k].seq - 1 := IntWalk.i64_in _ (by omega)
          have S1 := Lib.hid (nextIn_no hlt hno.out he)
          have S2 := Lib.hid (moreIn_yes hlt hq)
          clear he
          go_wp2
          exact ⟨⟨k + 1, true, by omega, by go_num, rfl, S1, S2, ha _ _⟩, by simp [intOf]; omega⟩
      · have S1 := Lib.hid (nextIn_no hlt hno.out (by omega))
        have S2 := Lib.hid ((moreIn_no hlt hq).trans hmo.out)
        go_wp2
        exact ⟨⟨k + 1, m, by omega, by go_num, rfl, S1, S2, ha _ _⟩, by simp [intOf]; omega⟩
    · have hk' : k = l.length := by omega
      subst hk'
      rw [List.take_length] at hno hmo
      have dq : wr.cell? ⟨w.heap.size, 4, none⟩ = some (.int .i64 f.seq) := (hb1.cell (p := ⟨w.heap.size, 4, none⟩) (Nat.lt_succ_self _)).trans (D.cell 4 _ rfl)
      cases m with
      | false =>
        have e := Lib.hid (show gapOf f l = (0, false) from gap_end_no hno.out hmo.out)
        go_wp2
        refine bodyPost_ret (v := .tuple #[.int .i64 (gapOf f l).1, .bool (gapOf f l).2]) ?_ rfl ⟨rfl, hb⟩
        rw [e.out]
        simp [results, Try.results72, go_sem]
      | true =>
        have e := Lib.hid (show gapOf f l = (f.seq + 1, true) from gap_end_yes hno.out hmo.out)
        obtain ⟨j, hj, hlt⟩ := moreIn_lt hmo.out
        have := hnw j hj
        have i1 : f.seq + 1 ≤ 9223372036854775807 := by omega
        clear this hlt hj
        go_wp2
        refine bodyPost_ret (v := .tuple #[.int .i64 (gapOf f l).1, .bool (gapOf f l).2]) ?_ rfl ⟨rfl, hb⟩
        rw [e.out]
        simp [results, Try.results72, go_sem]

end Go.Proofs.Ytcapldjhcplfmaa
