/-
  SegFor of the reference and of the program.
-/
import Derived.Test.YtcapldjhcplfmaaQs
namespace Go.Proofs.Ytcapldjhcplfmaa
open Go.RowKit
set_option maxRecDepth 100000
set_option maxHeartbeats 2000000
set_option linter.unusedVariables false
set_option linter.unusedSimpArgs false

theorem segFor_no {l : List Seg} {q : Int} (h : segsOk l = false) : segFor l q = -1 := by simp [segFor, h]
theorem segFor_found {l : List Seg} {q : Int} {k : Nat} (ho : segsOk l = true) (hk : k < l.length) (h : ∀ j (hj : j < l.length), j < k → hasNo q l[j] = false) (hp : hasNo q l[k] = true) : segFor l q = k := by
  unfold segFor
  rw [if_pos ho]
  exact idxOf_found hk (fun j hj => h j (by omega) hj) hp
theorem segFor_none {l : List Seg} {q : Int} (ho : segsOk l = true) (h : ∀ j (hj : j < l.length), hasNo q l[j] = false) : segFor l q = -1 := by
  unfold segFor
  rw [if_pos ho]
  exact idxOf_none h

theorem specSegFor_own (l : List Seg) (s : Sl) (q : Int) (w : World) (hl : cntL cntSeg l ≤ 2000000) (h : RdL segD w w.heap.size s.v l) :
    Calls Try.prog 22 #[.slice s.a s.n s.c, .int .i64 q] w fun e w' => e = .returned (.int .i64 (segFor l q)) ∧ Below w.heap.size w w' := by
  obtain ⟨A, n, c⟩ := s
  obtain ⟨A', c', hv, -⟩ := h.form
  simp only [Sl.v, Value.slice.injEq] at hv
  obtain ⟨rfl, rfl, rfl⟩ := hv
  have hll : l.length ≤ 2000000 := Nat.le_trans (cntL_len _ _) hl
  have hcc : ∀ k (hk : k < l.length), cntSeg l[k] ≤ 2000000 := fun k hk => by have := cntL_mem (cnt := cntSeg) (List.getElem_mem hk); omega
  have hC := specSegsOk_own l ⟨A, l.length, c⟩ w hl h
  cases hok : segsOk l
  case false =>
    have H := Lib.hid (segFor_no (q := q) hok)
    rw [hok] at hC
    go_enter Try.func22, Try.ntmps22
    go_wp2_with (go_at_call 18; refine hC.mono ?_; rintro e w1 ⟨rfl, b1⟩)
    go_ret
    exact ⟨ret_int H.out.symm, b1⟩
  rw [hok] at hC
  have Hok := Lib.hid hok
  obtain ⟨-, -, hfit⟩ := segsOk_get hok
  clear hok
  go_enter Try.func22, Try.ntmps22
  go_wp2_with (go_at_call 18; refine hC.mono ?_; rintro e w1 ⟨rfl, b1⟩)
  clear hC
  have h' := h.below b1
  go_loop [5] (fun i => ∃ (k : Nat), k ≤ l.length ∧ i = .int .i64 k ∧ Hid (∀ j (hj : j < l.length), j < k → hasNo q l[j] = false)) (fun i => l.length - (intOf i).toNat)
  case atStart => exact ⟨0, Nat.zero_le _, rfl, fun j hj h0 => absurd h0 (by omega)⟩
  case round =>
    obtain ⟨k, hk, rfl, hno⟩ := hrel
    by_cases hlt : k < l.length
    · obtain ⟨b, o, s', rfl, hbb, hr0, c0, c1⟩ := h'.seg hlt
      have hr : RdL noteD w1 w.heap.size s'.v l[k].notes := hr0
      obtain ⟨A2, n2, c2⟩ := s'
      obtain ⟨_, _, hv2, -⟩ := hr.form
      simp only [Sl.v, Value.slice.injEq] at hv2
      obtain ⟨rfl, rfl, rfl⟩ := hv2
      clear hr0
      have hnl : l[k].notes.length ≤ 2000000 := Nat.le_trans (cntL_len cntNote _) (hcc k hlt)
      have hf := Lib.hid (segFit_get hlt (hfit k hlt)).2
      go_wp2
      go_loop [6] (fun j => ∃ (i : Nat), i ≤ l[k].notes.length ∧ j = .int .i64 i ∧ Hid (∀ a (ha : a < l[k].notes.length), a < i → ¬ l[k].notes[a].seq = q)) (fun j => l[k].notes.length - (intOf j).toNat)
      case atStart => exact ⟨0, Nat.zero_le _, rfl, fun a ha h0 => absurd h0 (by omega)⟩
      case round =>
        obtain ⟨i, hi, rfl, hni⟩ := hrel
        by_cases hli : i < l[k].notes.length
        · obtain ⟨b2, o2, s2, rfl, hbb2, hr2, d0, -⟩ := hr.note hli
          by_cases e1 : l[k].notes[i].seq = q
          · have H := Lib.hid (segFor_found Hok.out hlt (fun j hj h0 => hno.out j hj h0) ((hasNo_iff hf.out q).2 ⟨i, hli, e1⟩))
            have t4 : (l[k].notes[i].seq == q) = true := by simp [e1]
            clear e1
            go_wp2
            go_ret
            exact ⟨ret_int H.out.symm, b1⟩
          · have t4 : (l[k].notes[i].seq == q) = false := by simp [e1]
            have S : Hid (∀ a (ha : a < l[k].notes.length), a < i + 1 → ¬ l[k].notes[a].seq = q) := by
              intro a ha h0
              by_cases e : a = i
              · subst e; exact e1
              · exact hni.out a ha (by omega)
            clear e1
            go_wp2
            exact ⟨⟨i + 1, by omega, by go_num, S⟩, by simp [intOf]; omega⟩
        · have S : Hid (∀ j (hj : j < l.length), j < k + 1 → hasNo q l[j] = false) := by
            intro j hj h0
            by_cases e : j = k
            · subst e
              rw [← Bool.not_eq_true, hasNo_iff hf.out]
              rintro ⟨a, ha, e⟩
              exact hni.out a ha (by omega) e
            · exact hno.out j hj (by omega)
          go_wp2
          exact ⟨⟨k + 1, by omega, by go_num, S⟩, by simp [intOf]; omega⟩
    · have H := Lib.hid (segFor_none Hok.out (fun j hj => hno.out j hj (by omega)))
      go_wp2
      go_ret
      exact ⟨ret_int H.out.symm, b1⟩

theorem implSegFor_own (l : List Seg) (s : Sl) (q : Int) (w : World) (hl : cntL cntSeg l ≤ 2000000) (h : RdL segD w w.heap.size s.v l) :
    Calls Try.prog 23 #[.slice s.a s.n s.c, .int .i64 q] w fun e w' => e = .returned (.int .i64 (segFor l q)) ∧ Below w.heap.size w w' := by
  obtain ⟨A, n, c⟩ := s
  obtain ⟨A', c', hv, -⟩ := h.form
  simp only [Sl.v, Value.slice.injEq] at hv
  obtain ⟨rfl, rfl, rfl⟩ := hv
  have hll : l.length ≤ 2000000 := Nat.le_trans (cntL_len _ _) hl
  have hcc : ∀ k (hk : k < l.length), cntSeg l[k] ≤ 2000000 := fun k hk => by have := cntL_mem (cnt := cntSeg) (List.getElem_mem hk); omega
  have hC := implSegsOk_own l ⟨A, l.length, c⟩ w hl h
  cases hok : segsOk l
  case false =>
    have H := Lib.hid (segFor_no (q := q) hok)
    rw [hok] at hC
    go_enter Try.func23, Try.ntmps23
    go_wp2_with (go_at_call 20; refine hC.mono ?_; rintro e w1 ⟨rfl, b1⟩)
    go_ret
    exact ⟨ret_int H.out.symm, b1⟩
  rw [hok] at hC
  have Hok := Lib.hid hok
  obtain ⟨-, -, hfit⟩ := segsOk_get hok
  clear hok
  go_enter Try.func23, Try.ntmps23
  go_wp2_with (go_at_call 20; refine hC.mono ?_; rintro e w0 ⟨rfl, b1⟩)
  clear hC
  go_loopw [12] (fun i wr => ∃ (k : Nat), k ≤ l.length ∧ i = .int .i64 k ∧ Hid (∀ j (hj : j < l.length), j < k → hasNo q l[j] = false) ∧ Below w.heap.size w wr) (fun i _ => l.length - (intOf i).toNat)
  case atStart => exact ⟨0, Nat.zero_le _, rfl, fun j hj h0 => absurd h0 (by omega), b1⟩
  case round =>
    obtain ⟨k, hk, rfl, hno, hb⟩ := hrel
    by_cases hlt : k < l.length
    · obtain ⟨b, o, s', rfl, hbb, hr0, c0, c1⟩ := (h.below hb).seg hlt
      have hr : RdL noteD wr w.heap.size s'.v l[k].notes := hr0
      obtain ⟨A2, n2, c2⟩ := s'
      obtain ⟨_, _, hv2, -⟩ := hr.form
      simp only [Sl.v, Value.slice.injEq] at hv2
      obtain ⟨rfl, rfl, rfl⟩ := hv2
      have hnl : l[k].notes.length ≤ 2000000 := Nat.le_trans (cntL_len cntNote _) (hcc k hlt)
      obtain ⟨hfi, hf⟩ := segFit_get hlt (hfit k hlt)
      have hin : 1 ≤ l[k].fr ∧ l[k].fr ≤ 1000000000 := by
        have := hfi
        simp only [inB, Bool.and_eq_true, decide_eq_true_eq] at this
        exact this
      have heo := Lib.hid (show endO l[k] = l[k].fr + l[k].notes.length from rfl)
      have hs := hb.size
      have hbw : b < wr.heap.size := by omega
      have hbb' : b < (wr.alloc (.cells #[.int .i64 l[k].fr, .slice A2 l[k].notes.length c2] 126)).heap.size := by simp; omega
      have hlc := later_cell (wr.alloc (.cells #[.int .i64 l[k].fr, .slice A2 l[k].notes.length c2] 126))
      have hnew : wr.heap.size < (wr.alloc (.cells #[.int .i64 l[k].fr, .slice A2 l[k].notes.length c2] 126)).heap.size := by simp
      have hba : Below w.heap.size w (wr.alloc (.cells #[.int .i64 l[k].fr, .slice A2 l[k].notes.length c2] 126)) := hb.alloc hb.size _
      have hxp : ∀ W, Below (wr.alloc (.cells #[.int .i64 l[k].fr, .slice A2 l[k].notes.length c2] 126)).heap.size (wr.alloc (.cells #[.int .i64 l[k].fr, .slice A2 l[k].notes.length c2] 126)) W → segD.rd W W.heap.size l[k] ⟨A2, l[k].notes.length, c2⟩ := fun W hW => segD.rd_more (segD.rd_below hr0 (Below.mono (bnext ((Below.refl _ _).alloc (Nat.le_refl _) _) hW) hb.size)) (Nat.le_trans (by simp; omega) hW.size)
      have e0 : -9223372036854775808 ≤ endO l[k] - 1 ∧ endO l[k] - 1 ≤ 9223372036854775807 := by rw [heo.out]; omega
      have ew : IntKind.i64.wrap (endO l[k] - 1) = endO l[k] - 1 := IntWalk.i64_in _ (by omega)
      by_cases hz : 0 < l[k].notes.length
      · have hzi : (0 : Int) < (l[k].notes.length : Int) := by omega
        have t3 : decide ((0 : Int) < (l[k].notes.length : Int)) = true := by simp; omega
        cases t5 : inB q l[k].fr (endO l[k] - 1)
        · have S : Hid (∀ j (hj : j < l.length), j < k + 1 → hasNo q l[j] = false) := by
            intro j hj h0
            by_cases e : j = k
            · subst e; unfold hasNo; rw [t5]; simp
            · exact hno.out j hj (by omega)
          go_wp2
          refine wp_region_pure (by kernel_rfl) (by kernel_rfl) ?_
          repeat (go_big_quiet_step ((first
            | (go_at_call 83; exact pure_same (fun u => within_any _ _ _ u.1))
            | (go_at_call 84; rename_i x; have h1 := endOf_own l[k] ⟨A2, l[k].notes.length, c2⟩ x.1 hfi hf (hcc _ hlt) (hxp x.1 x.2); exact pure_of h1))))
          refine wpQuiet_nil ?_
          rintro w1 ⟨u1, e1⟩
          have hb1 := u1.2
          rw [← e1] at hb1
          clear e1 u1 hlc
          go_wp2
          exact ⟨⟨k + 1, by omega, by go_num, S, bnext hba hb1⟩, by simp [intOf]; omega⟩
        · have H := Lib.hid (segFor_found Hok.out hlt (fun j hj h0 => hno.out j hj h0) (show hasNo q l[k] = true by unfold hasNo; rw [t5]; simp [hz]))
          go_wp2
          refine wp_region_pure (by kernel_rfl) (by kernel_rfl) ?_
          repeat (go_big_quiet_step ((first
            | (go_at_call 83; exact pure_same (fun u => within_any _ _ _ u.1))
            | (go_at_call 84; rename_i x; have h1 := endOf_own l[k] ⟨A2, l[k].notes.length, c2⟩ x.1 hfi hf (hcc _ hlt) (hxp x.1 x.2); exact pure_of h1))))
          refine wpQuiet_nil ?_
          rintro w1 ⟨u1, e1⟩
          have hb1 := u1.2
          rw [← e1] at hb1
          clear e1 u1 hlc
          go_wp2
          go_ret
          exact ⟨ret_int H.out.symm, bnext hba hb1⟩
      · have t3 : decide ((0 : Int) < (l[k].notes.length : Int)) = false := decide_eq_false (by omega)
        have S : Hid (∀ j (hj : j < l.length), j < k + 1 → hasNo q l[j] = false) := by
          intro j hj h0
          by_cases e : j = k
          · subst e; unfold hasNo; simp [hz]
          · exact hno.out j hj (by omega)
        go_wp2
        refine wp_region_pure (by kernel_rfl) (by kernel_rfl) ?_
        repeat (go_big_quiet_step ((go_at_call 83; exact pure_same (fun u => within_any _ _ _ u.1))))
        refine wpQuiet_nil ?_
        rintro w1 ⟨u1, e1⟩
        have hb1 := u1.2
        rw [← e1] at hb1
        clear e1 u1 hlc
        go_wp2
        exact ⟨⟨k + 1, by omega, by go_num, S, bnext hba hb1⟩, by simp [intOf]; omega⟩
    · have H := Lib.hid (segFor_none Hok.out (fun j hj => hno.out j hj (by omega)))
      go_wp2
      go_ret
      exact ⟨ret_int H.out.symm, hb⟩
end Go.Proofs.Ytcapldjhcplfmaa
