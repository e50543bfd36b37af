/-
  SegsOk of the reference and of the program.
-/
import Derived.Test.YtcapldjhcplfmaaCs
namespace Go.Proofs.Ytcapldjhcplfmaa
open Go.RowKit
set_option maxRecDepth 100000
set_option maxHeartbeats 2000000
set_option linter.unusedVariables false
set_option linter.unusedSimpArgs false

theorem endOf_own (x : Seg) (s : Sl) (w : World) (hi : inB x.fr 1 1000000000 = true) (hf : notesFit x = true) (hl : cntSeg x ≤ 2000000) (h : segD.rd w w.heap.size x s) :
    Calls Try.prog 84 #[segW x s] w fun e w' => e = .returned (.int .i64 (endO x)) ∧ Below w.heap.size w w' := by
  have hr : RdL noteD w w.heap.size s.v x.notes := h
  obtain ⟨A, n, c⟩ := s
  obtain ⟨_, _, hv, -⟩ := hr.form
  simp only [Sl.v, Value.slice.injEq] at hv
  obtain ⟨rfl, rfl, rfl⟩ := hv
  have hll : x.notes.length ≤ 2000000 := Nat.le_trans (cntL_len cntNote _) hl
  by_cases h0 : x.notes.length = 0
  · have e := Lib.hid (show endO x = x.fr by simp [endO, h0])
    have t0 : ((x.notes.length : Int) == 0) = true := by simp [h0]
    clear h0 hr h
    go_enter Try.func84, Try.ntmps84
    go_wp2
    go_ret
    exact ⟨ret_int e.out.symm, by repeat (first | exact Below.refl _ _ | refine Below.alloc ?_ (by simp <;> omega) _)⟩
  · have hp : 0 < x.notes.length := by omega
    have t0 : ((x.notes.length : Int) == 0) = false := by rw [beq_eq_false_iff_ne]; omega
    obtain ⟨b, o, s', rfl, hbb, hr', c0, -⟩ := hr.note (k := x.notes.length - 1) (by omega)
    have hg := notesFit_get hf (j := x.notes.length - 1) (by omega)
    have e := Lib.hid (show endO x = x.notes[x.notes.length - 1].seq + 1 by have := hg.1; unfold endO; omega)
    have hb1 : x.notes[x.notes.length - 1].seq ≤ 1000000000 := by rw [hg.1]; exact hg.2
    have hb2 : -9223372036854775808 ≤ x.notes[x.notes.length - 1].seq + 1 ∧ x.notes[x.notes.length - 1].seq + 1 ≤ 9223372036854775807 := by
      simp only [inB, Bool.and_eq_true, decide_eq_true_eq] at hi
      rw [hg.1]
      have := hg.2
      omega
    have hpi : (0 : Int) < (x.notes.length : Int) := by omega
    clear h0 hg
    go_enter Try.func84, Try.ntmps84
    go_wp2
    go_ret
    exact ⟨ret_int e.out.symm, by repeat (first | exact Below.refl _ _ | refine Below.alloc ?_ (by simp <;> omega) _)⟩

theorem specSegsOk_own (l : List Seg) (s : Sl) (w : World) (hl : cntL cntSeg l ≤ 2000000) (h : RdL segD w w.heap.size s.v l) :
    Calls Try.prog 18 #[.slice s.a s.n s.c] w fun e w' => e = .returned (.bool (segsOk l)) ∧ Below w.heap.size w w' := by
  obtain ⟨A, n, c⟩ := s
  obtain ⟨A', c', hv, -⟩ := h.form
  simp only [Sl.v, Value.slice.injEq] at hv
  obtain ⟨rfl, rfl, rfl⟩ := hv
  have hll : l.length ≤ 2000000 := Nat.le_trans (cntL_len _ _) hl
  have hcc : ∀ k (hk : k < l.length), cntSeg l[k] ≤ 2000000 := fun k hk => by have := cntL_mem (cnt := cntSeg) (List.getElem_mem hk); omega
  clear hl
  by_cases h60 : l.length ≤ 60
  case neg =>
    have H := Lib.hid (segsOk_len h60)
    go_enter Try.func18, Try.ntmps18
    go_wp2
    go_ret
    exact ⟨ret_bool H.out.symm, Below.refl _ _⟩
  go_enter Try.func18, Try.ntmps18
  go_wp2
  go_loop [3, 4, 5] (fun t q i => ∃ (k : Nat) (m : Int), k ≤ l.length ∧ i = .int .i64 k ∧ t = .int .i64 (totN (l.take k) : Nat) ∧ q = .int .i64 m ∧ Hid (totN (l.take k) ≤ 400) ∧ Hid (0 < k → m = endO (segAt l (k - 1))) ∧ Hid (∀ j, j < k → segFit l j = true)) (fun _ _ i => l.length - (intOf i).toNat)
  case atStart => exact ⟨0, 0, Nat.zero_le _, rfl, rfl, rfl, by show totN [] ≤ 400; simp [totN], fun h0 => absurd h0 (by omega), fun j hj => absurd hj (by omega)⟩
  case round =>
    obtain ⟨k, m, hk, rfl, rfl, rfl, ht, hq, hok⟩ := hrel
    by_cases hlt : k < l.length
    · obtain ⟨b, o, s', rfl, hbb, hr0, c0, c1⟩ := h.seg hlt
      have hr : RdL noteD w w.heap.size s'.v l[k].notes := hr0
      obtain ⟨A2, n2, c2⟩ := s'
      obtain ⟨_, _, hv2, -⟩ := hr.form
      simp only [Sl.v, Value.slice.injEq] at hv2
      obtain ⟨rfl, rfl, rfl⟩ := hv2
      have hnl : l[k].notes.length ≤ 2000000 := Nat.le_trans (cntL_len cntNote _) (hcc k hlt)
      have hts := Lib.hid (totN_take_succ l k hlt)
      have ht0 := ht.out
      clear hr0
      by_cases h4 : totN (l.take k) + l[k].notes.length ≤ 400
      case neg =>
        have H := Lib.hid (segsOk_tot (l := l) (by have := totN_take_le l (k + 1); have := hts.out; omega))
        go_wp2
        go_ret
        exact ⟨ret_bool H.out.symm, Below.refl _ _⟩
      cases t1 : inB l[k].fr 1 1000000000
      case false =>
        have H := Lib.hid (segsOk_fit hlt (segFit_in hlt t1))
        go_wp2_with (go_at_call 81; refine (l01In_any _ _ _ _).mono ?_; rintro e w' ⟨rfl, rfl⟩)
        go_ret
        exact ⟨ret_bool H.out.symm, Below.refl _ _⟩
      have hcont : (0 < k → l[k].fr = endO (segAt l (k - 1))) → True := fun _ => trivial
      have hin : 1 ≤ l[k].fr ∧ l[k].fr ≤ 1000000000 := by
        simp only [inB, Bool.and_eq_true, decide_eq_true_eq] at t1
        exact t1
      by_cases hk0 : k = 0
      · have t3 : decide ((0 : Int) < (k : Int)) = false := by simp; omega
        have hst : Hid (0 < k → l[k].fr = endO (segAt l (k - 1))) := fun h0 => absurd hk0 (by omega)
        have HQ : ¬ (0 < k) := by omega
        clear hk0
        go_wp2_with (go_at_call 81; refine (l01In_any _ _ _ _).mono ?_; rintro e w' ⟨rfl, rfl⟩)
        clear HQ
        go_loop [4, 6] (fun q j => ∃ (i : Nat), i ≤ l[k].notes.length ∧ j = .int .i64 i ∧ q = .int .i64 (l[k].fr + i) ∧ Hid (∀ a (ha : a < l[k].notes.length), a < i → l[k].notes[a].seq = l[k].fr + a ∧ l[k].fr + a ≤ 1000000000)) (fun _ j => l[k].notes.length - (intOf j).toNat)
        case atStart => exact ⟨0, Nat.zero_le _, rfl, by simp, fun a ha h0 => absurd h0 (by omega)⟩
        case round =>
          obtain ⟨i, hi, rfl, rfl, hfit⟩ := hrel
          by_cases hli : i < l[k].notes.length
          · obtain ⟨b2, o2, s2, rfl, hbb2, hr2, d0, -⟩ := hr.note hli
            by_cases e1 : l[k].notes[i].seq = l[k].fr + i
            case neg =>
              have H := Lib.hid (segsOk_fit hlt (segFit_notes hlt (notesFit_false hli (fun hh => e1 hh.1))))
              have t4 : (l[k].notes[i].seq != l[k].fr + (i : Int)) = true := by rw [bne_iff_ne]; exact e1
              clear e1
              go_wp2
              go_ret
              exact ⟨ret_bool H.out.symm, Below.refl _ _⟩
            have t4 : (l[k].notes[i].seq != l[k].fr + (i : Int)) = false := by simp [e1]
            by_cases e2 : l[k].fr + (i : Int) ≤ 1000000000
            case neg =>
              have H := Lib.hid (segsOk_fit hlt (segFit_notes hlt (notesFit_false hli (fun hh => e2 hh.2))))
              clear e1
              go_wp2
              go_ret
              exact ⟨ret_bool H.out.symm, Below.refl _ _⟩
            have S : Hid (∀ a (ha : a < l[k].notes.length), a < i + 1 → l[k].notes[a].seq = l[k].fr + a ∧ l[k].fr + a ≤ 1000000000) := by
              intro a ha h0
              by_cases e : a = i
              · subst e; exact ⟨e1, e2⟩
              · exact hfit.out a ha (by omega)
            clear e1
            go_wp2
            exact ⟨⟨i + 1, by omega, by go_num, by first | (push_cast; go_num) | (congr 1; push_cast; omega), S⟩, by simp [intOf]; omega⟩
          · have hi' : i = l[k].notes.length := by omega
            subst hi'
            have S : Hid (∀ j, j < k + 1 → segFit l j = true) := by
              intro j hj
              by_cases e : j = k
              · subst e; exact segFit_yes hlt t1 hst.out (notesFit_all fun a ha => hfit.out a ha ha)
              · exact hok.out j (by omega)
            go_wp2
            exact ⟨⟨k + 1, l[k].fr + l[k].notes.length, by omega, by go_num, by rw [hts.out]; first | (push_cast; go_num) | (congr 1; push_cast; omega), rfl, by show totN _ ≤ 400; rw [hts.out]; exact h4, fun _ => by rw [show k + 1 - 1 = k from rfl, segAt_get hlt]; rfl, S⟩, by simp [intOf]; omega⟩
      · have hki : (0 : Int) < (k : Int) := by omega
        by_cases he : l[k].fr = m
        · have t2 : (l[k].fr != m) = false := by simp [he]
          have hst : Hid (0 < k → l[k].fr = endO (segAt l (k - 1))) := fun h0 => he.trans (hq.out h0)
          have HQ : 0 < k := by omega
          clear he hk0
          go_wp2_with (go_at_call 81; refine (l01In_any _ _ _ _).mono ?_; rintro e w' ⟨rfl, rfl⟩)
          clear HQ
          go_loop [4, 6] (fun q j => ∃ (i : Nat), i ≤ l[k].notes.length ∧ j = .int .i64 i ∧ q = .int .i64 (l[k].fr + i) ∧ Hid (∀ a (ha : a < l[k].notes.length), a < i → l[k].notes[a].seq = l[k].fr + a ∧ l[k].fr + a ≤ 1000000000)) (fun _ j => l[k].notes.length - (intOf j).toNat)
          case atStart => exact ⟨0, Nat.zero_le _, rfl, by simp, fun a ha h0 => absurd h0 (by omega)⟩
          case round =>
            obtain ⟨i, hi, rfl, rfl, hfit⟩ := hrel
            by_cases hli : i < l[k].notes.length
            · obtain ⟨b2, o2, s2, rfl, hbb2, hr2, d0, -⟩ := hr.note hli
              by_cases e1 : l[k].notes[i].seq = l[k].fr + i
              case neg =>
                have H := Lib.hid (segsOk_fit hlt (segFit_notes hlt (notesFit_false hli (fun hh => e1 hh.1))))
                have t4 : (l[k].notes[i].seq != l[k].fr + (i : Int)) = true := by rw [bne_iff_ne]; exact e1
                clear e1
                go_wp2
                go_ret
                exact ⟨ret_bool H.out.symm, Below.refl _ _⟩
              have t4 : (l[k].notes[i].seq != l[k].fr + (i : Int)) = false := by simp [e1]
              by_cases e2 : l[k].fr + (i : Int) ≤ 1000000000
              case neg =>
                have H := Lib.hid (segsOk_fit hlt (segFit_notes hlt (notesFit_false hli (fun hh => e2 hh.2))))
                clear e1
                go_wp2
                go_ret
                exact ⟨ret_bool H.out.symm, Below.refl _ _⟩
              have S : Hid (∀ a (ha : a < l[k].notes.length), a < i + 1 → l[k].notes[a].seq = l[k].fr + a ∧ l[k].fr + a ≤ 1000000000) := by
                intro a ha h0
                by_cases e : a = i
                · subst e; exact ⟨e1, e2⟩
                · exact hfit.out a ha (by omega)
              clear e1
              go_wp2
              exact ⟨⟨i + 1, by omega, by go_num, by first | (push_cast; go_num) | (congr 1; push_cast; omega), S⟩, by simp [intOf]; omega⟩
            · have hi' : i = l[k].notes.length := by omega
              subst hi'
              have S : Hid (∀ j, j < k + 1 → segFit l j = true) := by
                intro j hj
                by_cases e : j = k
                · subst e; exact segFit_yes hlt t1 hst.out (notesFit_all fun a ha => hfit.out a ha ha)
                · exact hok.out j (by omega)
              go_wp2
              exact ⟨⟨k + 1, l[k].fr + l[k].notes.length, by omega, by go_num, by rw [hts.out]; first | (push_cast; go_num) | (congr 1; push_cast; omega), rfl, by show totN _ ≤ 400; rw [hts.out]; exact h4, fun _ => by rw [show k + 1 - 1 = k from rfl, segAt_get hlt]; rfl, S⟩, by simp [intOf]; omega⟩
        · have t2 : (l[k].fr != m) = true := by rw [bne_iff_ne]; exact he
          have H : Hid (segsOk l = false) := by
            have hq' := hq.out (by omega)
            rw [segAt_get (show k - 1 < l.length by omega)] at hq'
            obtain ⟨k', rfl⟩ : ∃ k', k = k' + 1 := ⟨k - 1, by omega⟩
            exact segsOk_fit hlt (segFit_step hlt (fun hh => he (hh.trans hq'.symm)))
          clear he
          have HQ : 0 < k := by omega
          go_wp2_with (go_at_call 81; refine (l01In_any _ _ _ _).mono ?_; rintro e w' ⟨rfl, rfl⟩)
          go_ret
          exact ⟨ret_bool H.out.symm, Below.refl _ _⟩
    · have H := Lib.hid (segsOk_all h60 (by have := ht.out; rwa [List.take_of_length_le (by omega)] at this) (fun j hj => hok.out j (by omega)))
      go_wp2
      go_ret
      exact ⟨ret_bool H.out.symm, Below.refl _ _⟩
theorem implSegsOk_own (l : List Seg) (s : Sl) (w : World) (hl : cntL cntSeg l ≤ 2000000) (h : RdL segD w w.heap.size s.v l) :
    Calls Try.prog 20 #[.slice s.a s.n s.c] w fun e w' => e = .returned (.bool (segsOk l)) ∧ Below w.heap.size w w' := by
  obtain ⟨A, n, c⟩ := s
  obtain ⟨A', c', hv, -⟩ := h.form
  simp only [Sl.v, Value.slice.injEq] at hv
  obtain ⟨rfl, rfl, rfl⟩ := hv
  have hll : l.length ≤ 2000000 := Nat.le_trans (cntL_len _ _) hl
  have hcc : ∀ k (hk : k < l.length), cntSeg l[k] ≤ 2000000 := fun k hk => by have := cntL_mem (cnt := cntSeg) (List.getElem_mem hk); omega
  by_cases h60 : l.length ≤ 60
  case neg =>
    have H := Lib.hid (segsOk_len h60)
    go_enter Try.func20, Try.ntmps20
    go_wp2
    go_ret
    exact ⟨ret_bool H.out.symm, Below.refl _ _⟩
  by_cases h400 : totN l ≤ 400
  case neg =>
    have H := Lib.hid (segsOk_tot h400)
    go_enter Try.func20, Try.ntmps20
    go_wp2_with (go_at_call 47; refine (implNotesOf_own l ⟨A, l.length, c⟩ w hl h).mono ?_; rintro e w1 ⟨⟨A1, n1, c1⟩, F1, rfl, o1, nn1, b1⟩; obtain ⟨_, _, hv1, -⟩ := OwL.form o1; simp only [Sl.v, Value.slice.injEq, notesOf_len] at hv1; obtain ⟨rfl, rfl, rfl⟩ := hv1)
    go_ret
    exact ⟨ret_bool H.out.symm, b1⟩
  go_enter Try.func20, Try.ntmps20
  go_wp2_with (go_at_call 47; refine (implNotesOf_own l ⟨A, l.length, c⟩ w hl h).mono ?_; rintro e w0 ⟨⟨A1, n1, c1⟩, F1, rfl, o1, nn1, b1⟩; obtain ⟨_, _, hv1, -⟩ := OwL.form o1; simp only [Sl.v, Value.slice.injEq, notesOf_len] at hv1; obtain ⟨rfl, rfl, rfl⟩ := hv1)
  clear o1 nn1
  go_loopw [19] (fun i wr => ∃ k : Nat, k ≤ l.length ∧ i = .int .i64 k ∧ Hid (∀ j, j < k → segFit l j = true) ∧ Below w.heap.size w wr) (fun i _ => l.length - (intOf i).toNat)
  case atStart => exact ⟨0, Nat.zero_le _, rfl, fun j hj => absurd hj (by omega), b1⟩
  case round =>
    obtain ⟨k, hk, rfl, hok, hb⟩ := hrel
    by_cases hlt : k < l.length
    · obtain ⟨b, o, s', rfl, hbb, hr0, c0, c1⟩ := (h.below hb).seg hlt
      have hr00 : RdL noteD wr w.heap.size s'.v l[k].notes := hr0
      have hr : RdL noteD w w.heap.size s'.v l[k].notes := by
        obtain ⟨b9, o9, s9, he9, _, hr9, _, e9⟩ := h.seg hlt
        simp only [Option.some.injEq, Addr.mk.injEq, and_true] at he9
        obtain ⟨rfl, rfl⟩ := he9
        have e8 := (hb.cell (p := ⟨b, o + k * 2 + 1, none⟩) hbb).symm.trans c1
        rw [e9] at e8
        simp only [Option.some.injEq, Value.slice.injEq] at e8
        obtain ⟨a9, n9, c9⟩ := s9
        obtain ⟨a8, n8, c8⟩ := s'
        simp only at e8
        obtain ⟨rfl, rfl, rfl⟩ := e8
        exact hr9
      obtain ⟨A2, n2, c2⟩ := s'
      obtain ⟨_, _, hv2, -⟩ := hr.form
      simp only [Sl.v, Value.slice.injEq] at hv2
      obtain ⟨rfl, rfl, rfl⟩ := hv2
      clear hr0 hr00
      have hnl : l[k].notes.length ≤ 2000000 := Nat.le_trans (cntL_len cntNote _) (hcc k hlt)
      have hs := hb.size
      have hbw : b < wr.heap.size := by omega
      have hbb' : b < (wr.alloc (.cells #[.int .i64 l[k].fr, .slice A2 l[k].notes.length c2] 126)).heap.size := by simp; omega
      have hlc := later_cell (wr.alloc (.cells #[.int .i64 l[k].fr, .slice A2 l[k].notes.length c2] 126))
      have hnew : wr.heap.size < (wr.alloc (.cells #[.int .i64 l[k].fr, .slice A2 l[k].notes.length c2] 126)).heap.size := by simp
      have hba : Below w.heap.size w (wr.alloc (.cells #[.int .i64 l[k].fr, .slice A2 l[k].notes.length c2] 126)) := hb.alloc hb.size _
      cases t1 : inB l[k].fr 1 1000000000
      case false =>
        have H := Lib.hid (segsOk_fit hlt (segFit_in hlt t1))
        go_wp2
        refine wp_region_pure (by kernel_rfl) (by kernel_rfl) ?_
        repeat (go_big_quiet_step ((go_at_call 83; exact pure_same (fun u => within_any _ _ _ u.1))))
        refine wpQuiet_nil ?_
        rintro w1 ⟨u1, e1⟩
        have hb1 := u1.2
        rw [← e1] at hb1
        clear e1 u1
        clear hlc
        go_wp2
        go_ret
        exact ⟨ret_bool H.out.symm, bnext hba hb1⟩
      have hin : 1 ≤ l[k].fr ∧ l[k].fr ≤ 1000000000 := by
        simp only [inB, Bool.and_eq_true, decide_eq_true_eq] at t1
        exact t1
      by_cases hk0 : k = 0
      · have t3 : decide ((0 : Int) < (k : Int)) = false := by simp; omega
        have hst : Hid (0 < k → l[k].fr = endO (segAt l (k - 1))) := fun h0 => absurd hk0 (by omega)
        have HQ : ¬ (0 < k) := by omega
        clear hk0
        go_wp2
        refine wp_region_pure (by kernel_rfl) (by kernel_rfl) ?_
        repeat (go_big_quiet_step ((go_at_call 83; exact pure_same (fun u => within_any _ _ _ u.1))))
        refine wpQuiet_nil ?_
        rintro w1 ⟨u1, e1⟩
        have hb1 := u1.2
        rw [← e1] at hb1
        clear e1 u1
        clear hlc
        have kb : w1.cell? ⟨wr.heap.size, 1, none⟩ = some (.slice A2 l[k].notes.length c2) := (hb1.cell (p := ⟨wr.heap.size, 1, none⟩) hnew).trans (by simp [go_sem])
        have hbw1 := bnext hba hb1
        go_wp2
        clear kb
        go_loopw [5, 48] (fun q j wj => ∃ (i : Nat), i ≤ l[k].notes.length ∧ j = .int .i64 i ∧ q = .int .i64 (l[k].fr + i) ∧ Hid (∀ a (ha : a < l[k].notes.length), a < i → l[k].notes[a].seq = l[k].fr + a ∧ l[k].fr + a ≤ 1000000000) ∧ Below w.heap.size w wj) (fun _ j _ => l[k].notes.length - (intOf j).toNat)
        case atStart => exact ⟨0, Nat.zero_le _, rfl, by simp, fun a ha h0 => absurd h0 (by omega), hbw1⟩
        case round =>
          rename_i wj _
          obtain ⟨i, hi, rfl, rfl, hfit, hbj⟩ := hrel
          by_cases hli : i < l[k].notes.length
          · obtain ⟨b2, o2, s2, rfl, hbb2, hr2, d0, d1, d2, d3, d4, d5, d6, d7, d8, d9, d10, d11⟩ := (hr.below hbj).note hli
            have hsj := hbj.size
            have hbj' := fun T cs => hbj.alloc hbj.size (.cells cs T)
            by_cases e1 : l[k].notes[i].seq = l[k].fr + i
            case neg =>
              have H := Lib.hid (segsOk_fit hlt (segFit_notes hlt (notesFit_false hli (fun hh => e1 hh.1))))
              have t4 : (l[k].notes[i].seq != l[k].fr + (i : Int)) = true := by rw [bne_iff_ne]; exact e1
              clear e1
              go_wp2
              go_ret
              exact ⟨ret_bool H.out.symm, hbj' _ _⟩
            have t4 : (l[k].notes[i].seq != l[k].fr + (i : Int)) = false := by simp [e1]
            by_cases e2 : l[k].notes[i].seq ≤ 1000000000
            case neg =>
              have H := Lib.hid (segsOk_fit hlt (segFit_notes hlt (notesFit_false hli (fun hh => e2 (by rw [hh.1]; exact hh.2)))))
              clear e1
              go_wp2
              go_ret
              exact ⟨ret_bool H.out.symm, hbj' _ _⟩
            have e3 : l[k].fr + (i : Int) ≤ 1000000000 := by rw [← e1]; exact e2
            have S : Hid (∀ a (ha : a < l[k].notes.length), a < i + 1 → l[k].notes[a].seq = l[k].fr + a ∧ l[k].fr + a ≤ 1000000000) := by
              intro a ha h0
              by_cases e : a = i
              · subst e; exact ⟨e1, e3⟩
              · exact hfit.out a ha (by omega)
            clear e1
            go_wp2
            exact ⟨⟨i + 1, by omega, by go_num, by first | (push_cast; go_num) | (congr 1; push_cast; omega), S, hbj' _ _⟩, by simp [intOf]; omega⟩
          · have hi' : i = l[k].notes.length := by omega
            subst hi'
            have S : Hid (∀ j, j < k + 1 → segFit l j = true) := by
              intro j hj
              by_cases e : j = k
              · subst e; exact segFit_yes hlt t1 hst.out (notesFit_all fun a ha => hfit.out a ha ha)
              · exact hok.out j (by omega)
            go_wp2
            exact ⟨⟨k + 1, by omega, by go_num, S, hbj⟩, by simp [intOf]; omega⟩
      · have HQ : 0 < k := by omega
        have hki : (0 : Int) < (k : Int) := by omega
        have t3 : decide ((0 : Int) < (k : Int)) = true := by simp; omega
        have hpk : k - 1 < l.length := by omega
        obtain ⟨bp, op, sp, hep, _, hrp, p0, p1⟩ := (h.below hb).seg hpk
        simp only [Option.some.injEq, Addr.mk.injEq, and_true] at hep
        obtain ⟨rfl, rfl⟩ := hep
        obtain ⟨hpi, hpf⟩ := segFit_get hpk (hok.out (k - 1) (by omega))
        have hxp : ∀ W, Below (wr.alloc (.cells #[.int .i64 l[k].fr, .slice A2 l[k].notes.length c2] 126)).heap.size (wr.alloc (.cells #[.int .i64 l[k].fr, .slice A2 l[k].notes.length c2] 126)) W → segD.rd W W.heap.size l[k-1] sp := fun W hW => segD.rd_more (segD.rd_below hrp (Below.mono (bnext ((Below.refl _ _).alloc (Nat.le_refl _) _) hW) hb.size)) (Nat.le_trans (by simp; omega) hW.size)
        have hqe : segAt l (k - 1) = l[k-1] := segAt_get hpk
        by_cases he : l[k].fr = endO l[k-1]
        · have t2 : (l[k].fr != endO l[k-1]) = false := by simp [he]
          have hst : Hid (0 < k → l[k].fr = endO (segAt l (k - 1))) := fun h0 => by rw [hqe]; exact he
          clear he hk0 hqe
          go_wp2
          refine wp_region_pure (by kernel_rfl) (by kernel_rfl) ?_
          repeat (go_big_quiet_step ((first
            | (go_at_call 83; exact pure_same (fun u => within_any _ _ _ u.1))
            | (go_at_call 84; rename_i x; have h1 := endOf_own l[k-1] sp x.1 hpi hpf (hcc _ hpk) (hxp x.1 x.2); exact pure_of h1))))
          refine wpQuiet_nil ?_
          rintro w1 ⟨u1, e1⟩
          have hb1 := u1.2
          rw [← e1] at hb1
          clear e1 u1
          clear hlc
          have kb : w1.cell? ⟨wr.heap.size, 1, none⟩ = some (.slice A2 l[k].notes.length c2) := (hb1.cell (p := ⟨wr.heap.size, 1, none⟩) hnew).trans (by simp [go_sem])
          have hbw1 := bnext hba hb1
          go_wp2
          clear kb
          go_loopw [5, 48] (fun q j wj => ∃ (i : Nat), i ≤ l[k].notes.length ∧ j = .int .i64 i ∧ q = .int .i64 (l[k].fr + i) ∧ Hid (∀ a (ha : a < l[k].notes.length), a < i → l[k].notes[a].seq = l[k].fr + a ∧ l[k].fr + a ≤ 1000000000) ∧ Below w.heap.size w wj) (fun _ j _ => l[k].notes.length - (intOf j).toNat)
          case atStart => exact ⟨0, Nat.zero_le _, rfl, by simp, fun a ha h0 => absurd h0 (by omega), hbw1⟩
          case round =>
            rename_i wj _
            obtain ⟨i, hi, rfl, rfl, hfit, hbj⟩ := hrel
            by_cases hli : i < l[k].notes.length
            · obtain ⟨b2, o2, s2, rfl, hbb2, hr2, d0, d1, d2, d3, d4, d5, d6, d7, d8, d9, d10, d11⟩ := (hr.below hbj).note hli
              have hsj := hbj.size
              have hbj' := fun T cs => hbj.alloc hbj.size (.cells cs T)
              by_cases e1 : l[k].notes[i].seq = l[k].fr + i
              case neg =>
                have H := Lib.hid (segsOk_fit hlt (segFit_notes hlt (notesFit_false hli (fun hh => e1 hh.1))))
                have t4 : (l[k].notes[i].seq != l[k].fr + (i : Int)) = true := by rw [bne_iff_ne]; exact e1
                clear e1
                go_wp2
                go_ret
                exact ⟨ret_bool H.out.symm, hbj' _ _⟩
              have t4 : (l[k].notes[i].seq != l[k].fr + (i : Int)) = false := by simp [e1]
              by_cases e2 : l[k].notes[i].seq ≤ 1000000000
              case neg =>
                have H := Lib.hid (segsOk_fit hlt (segFit_notes hlt (notesFit_false hli (fun hh => e2 (by rw [hh.1]; exact hh.2)))))
                clear e1
                go_wp2
                go_ret
                exact ⟨ret_bool H.out.symm, hbj' _ _⟩
              have e3 : l[k].fr + (i : Int) ≤ 1000000000 := by rw [← e1]; exact e2
              have S : Hid (∀ a (ha : a < l[k].notes.length), a < i + 1 → l[k].notes[a].seq = l[k].fr + a ∧ l[k].fr + a ≤ 1000000000) := by
                intro a ha h0
                by_cases e : a = i
                · subst e; exact ⟨e1, e3⟩
                · exact hfit.out a ha (by omega)
              clear e1
              go_wp2
              exact ⟨⟨i + 1, by omega, by go_num, by first | (push_cast; go_num) | (congr 1; push_cast; omega), S, hbj' _ _⟩, by simp [intOf]; omega⟩
            · have hi' : i = l[k].notes.length := by omega
              subst hi'
              have S : Hid (∀ j, j < k + 1 → segFit l j = true) := by
                intro j hj
                by_cases e : j = k
                · subst e; exact segFit_yes hlt t1 hst.out (notesFit_all fun a ha => hfit.out a ha ha)
                · exact hok.out j (by omega)
              go_wp2
              exact ⟨⟨k + 1, by omega, by go_num, S, hbj⟩, by simp [intOf]; omega⟩
        · have t2 : (l[k].fr != endO l[k-1]) = true := by rw [bne_iff_ne]; exact he
          have H : Hid (segsOk l = false) := by
            obtain ⟨k', rfl⟩ : ∃ k', k = k' + 1 := ⟨k - 1, by omega⟩
            exact segsOk_fit hlt (segFit_step hlt he)
          clear he hk0 hqe
          go_wp2
          refine wp_region_pure (by kernel_rfl) (by kernel_rfl) ?_
          repeat (go_big_quiet_step ((first
            | (go_at_call 83; exact pure_same (fun u => within_any _ _ _ u.1))
            | (go_at_call 84; rename_i x; have h1 := endOf_own l[k-1] sp x.1 hpi hpf (hcc _ hpk) (hxp x.1 x.2); exact pure_of h1))))
          refine wpQuiet_nil ?_
          rintro w1 ⟨u1, e1⟩
          have hb1 := u1.2
          rw [← e1] at hb1
          clear e1 u1
          clear hlc
          go_wp2
          go_ret
          exact ⟨ret_bool H.out.symm, bnext hba hb1⟩
    · have H := Lib.hid (segsOk_all h60 h400 (fun j hj => hok.out j (by omega)))
      go_wp2
      go_ret
      exact ⟨ret_bool H.out.symm, hb⟩
end Go.Proofs.Ytcapldjhcplfmaa
