/-
  SegsOk of the reference and of the program. Runs that are right: the program's walk and the reference's. The slots that a yard takes: the program's walk and the reference's. Deeds at a yard: the plain words for shelves; an element of a slice of slices laid anew. Copies of yards, of the program and of the reference. Written by program (yy.py). DeedOk of the reference, its parts. DropTo of the reference and of the program.
-/
import Derived.Test.YtonlnjdempbfoaaZParts3
section
namespace Go.Proofs.Ytonlnjdempbfoaa
open Go.RowKit
set_option maxRecDepth 100000
set_option maxHeartbeats 2000000
set_option linter.unusedVariables false
set_option linter.unusedSimpArgs false
theorem endOf_own (x : Seg) (s : Sl) (w : World) (hi : inB x.fr 1 1000000000 = true) (hf : notesFit x = true) (hl : cntSeg x ≤ 2000000) (h : segD.rd w w.heap.size x s) :
  Calls Try.prog 23 #[segW x s] w fun e w' => e = .returned (.int .i64 (endO x)) ∧ Below w.heap.size w w' := by
 have hr : RdL noteD w w.heap.size s.v x.notes := h
 obtain ⟨A, n, c⟩ := s
 obtain ⟨_, _, hv, -⟩ := hr.form
 simp only [Sl.v, Value.slice.injEq] at hv
 obtain ⟨rfl, rfl, rfl⟩ := hv
 have hll : x.notes.length ≤ 2000000 := Nat.le_trans (cntL_len cntNote _) hl
 by_cases h0 : x.notes.length = 0
 ·have e := Lib.hid (show endO x = x.fr by simp [endO, h0])
  have t0 : ((x.notes.length : Int) == 0) = true := by simp [h0]
  clear h0 hr h
  go_enter Try.func23, Try.ntmps23
  go_wp2
  go_ret
  exact ⟨ret_int e.out.symm, by repeat (first | exact Below.refl _ _ | refine Below.alloc ?_ (by simp <;> omega) _)⟩
 ·have hp : 0 < x.notes.length := by omega
  have t0 : ((x.notes.length : Int) == 0) = false := by rw [beq_eq_false_iff_ne]; omega
  obtain ⟨b, o, s', rfl, hbb, hr', c0, -⟩ := hr.note (k := x.notes.length - 1) (by omega)
  have hg := notesFit_get hf (j := x.notes.length - 1) (by omega)
  have e := Lib.hid (show endO x = x.notes[x.notes.length - 1].seq + 1 by have := hg.1; unfold endO; omega)
  have hb1 : x.notes[x.notes.length - 1].seq ≤ 1000000000 := by rw [hg.1]; exact hg.2
  have hb2 : -9223372036854775808 ≤ x.notes[x.notes.length - 1].seq + 1 ∧ x.notes[x.notes.length - 1].seq + 1 ≤ 9223372036854775807 := by
   simp only [inB, Bool.and_eq_true, decide_eq_true_eq] at hi
   rw [hg.1]
   have := hg.2
   omega
  have hpi : (0 : Int) < (x.notes.length : Int) := by omega
  clear h0 hg
  go_enter Try.func23, Try.ntmps23
  go_wp2
  go_ret
  exact ⟨ret_int e.out.symm, by repeat (first | exact Below.refl _ _ | refine Below.alloc ?_ (by simp <;> omega) _)⟩
theorem specSegsOk_own (l : List Seg) (s : Sl) (w : World) (hl : cntL cntSeg l ≤ 2000000) (h : RdL segD w w.heap.size s.v l) :
  Calls Try.prog 29 #[.slice s.a s.n s.c] w fun e w' => e = .returned (.bool (segsOk l)) ∧ Below w.heap.size w w' := by
 obtain ⟨A, n, c⟩ := s
 obtain ⟨A', c', hv, -⟩ := h.form
 simp only [Sl.v, Value.slice.injEq] at hv
 obtain ⟨rfl, rfl, rfl⟩ := hv
 have hll : l.length ≤ 2000000 := Nat.le_trans (cntL_len _ _) hl
 have hcc : ∀ k (hk : k < l.length), cntSeg l[k] ≤ 2000000 := fun k hk => by have := cntL_mem (cnt := cntSeg) (List.getElem_mem hk); omega
 clear hl
 by_cases h60 : l.length ≤ 60
 case neg =>
  have H := Lib.hid (segsOk_len h60)
  go_enter Try.func29, Try.ntmps29
  go_wp2
  go_ret
  exact ⟨ret_bool H.out.symm, Below.refl _ _⟩
 go_enter Try.func29, Try.ntmps29
 go_wp2
 go_loop [3, 4, 5] (fun t q i => ∃ (k : Nat) (m : Int), k ≤ l.length ∧ i = .int .i64 k ∧ t = .int .i64 (totN (l.take k) : Nat) ∧ q = .int .i64 m ∧ Hid (totN (l.take k) ≤ 400) ∧ Hid (0 < k → m = endO (segAt l (k - 1))) ∧ Hid (∀ j, j < k → segFit l j = true)) (fun _ _ i => l.length - (intOf i).toNat)
 case atStart => exact ⟨0, 0, Nat.zero_le _, rfl, rfl, rfl, by show totN [] ≤ 400; simp [totN], fun h0 => absurd h0 (by omega), fun j hj => absurd hj (by omega)⟩
 case round =>
  obtain ⟨k, m, hk, rfl, rfl, rfl, ht, hq, hok⟩ := hrel
  by_cases hlt : k < l.length
  ·obtain ⟨b, o, s', rfl, hbb, hr0, c0, c1⟩ := h.seg hlt
   have hr : RdL noteD w w.heap.size s'.v l[k].notes := hr0
   obtain ⟨A2, n2, c2⟩ := s'
   obtain ⟨_, _, hv2, -⟩ := hr.form
   simp only [Sl.v, Value.slice.injEq] at hv2
   obtain ⟨rfl, rfl, rfl⟩ := hv2
   have hnl : l[k].notes.length ≤ 2000000 := Nat.le_trans (cntL_len cntNote _) (hcc k hlt)
   have hts := Lib.hid (totN_take_succ l k hlt)
   have ht0 := ht.out
   clear hr0
   by_cases h4 : totN (l.take k) + l[k].notes.length ≤ 400
   case neg =>
    have H := Lib.hid (segsOk_tot (l := l) (by have := totN_take_le l (k + 1); have := hts.out; omega))
    go_wp2
    go_ret
    exact ⟨ret_bool H.out.symm, Below.refl _ _⟩
   cases t1 : inB l[k].fr 1 1000000000
   case false =>
    have H := Lib.hid (segsOk_fit hlt (segFit_in hlt t1))
    go_wp2_with (go_at_call 30; refine (l01In_any _ _ _ _).mono ?_; rintro e w' ⟨rfl, rfl⟩)
    go_ret
    exact ⟨ret_bool H.out.symm, Below.refl _ _⟩
   have hcont : (0 < k → l[k].fr = endO (segAt l (k - 1))) → True := fun _ => trivial
   have hin : 1 ≤ l[k].fr ∧ l[k].fr ≤ 1000000000 := by
    simp only [inB, Bool.and_eq_true, decide_eq_true_eq] at t1
    exact t1
   by_cases hk0 : k = 0
   ·have t3 : decide ((0 : Int) < (k : Int)) = false := by simp; omega
    have hst : Hid (0 < k → l[k].fr = endO (segAt l (k - 1))) := fun h0 => absurd hk0 (by omega)
    have HQ : ¬ (0 < k) := by omega
    clear hk0
    go_wp2_with (go_at_call 30; refine (l01In_any _ _ _ _).mono ?_; rintro e w' ⟨rfl, rfl⟩)
    clear HQ
    go_loop [4, 6] (fun q j => ∃ (i : Nat), i ≤ l[k].notes.length ∧ j = .int .i64 i ∧ q = .int .i64 (l[k].fr + i) ∧ Hid (∀ a (ha : a < l[k].notes.length), a < i → l[k].notes[a].seq = l[k].fr + a ∧ l[k].fr + a ≤ 1000000000)) (fun _ j => l[k].notes.length - (intOf j).toNat)
    case atStart => exact ⟨0, Nat.zero_le _, rfl, by simp, fun a ha h0 => absurd h0 (by omega)⟩
    case round =>
     obtain ⟨i, hi, rfl, rfl, hfit⟩ := hrel
     by_cases hli : i < l[k].notes.length
     ·obtain ⟨b2, o2, s2, rfl, hbb2, hr2, d0, -⟩ := hr.note hli
      by_cases e1 : l[k].notes[i].seq = l[k].fr + i
      case neg =>
       have H := Lib.hid (segsOk_fit hlt (segFit_notes hlt (notesFit_false hli (fun hh => e1 hh.1))))
       have t4 : (l[k].notes[i].seq != l[k].fr + (i : Int)) = true := by rw [bne_iff_ne]; exact e1
       clear e1
       go_wp2
       go_ret
       exact ⟨ret_bool H.out.symm, Below.refl _ _⟩
      have t4 : (l[k].notes[i].seq != l[k].fr + (i : Int)) = false := by simp [e1]
      by_cases e2 : l[k].fr + (i : Int) ≤ 1000000000
      case neg =>
       have H := Lib.hid (segsOk_fit hlt (segFit_notes hlt (notesFit_false hli (fun hh => e2 hh.2))))
       clear e1
       go_wp2
       go_ret
       exact ⟨ret_bool H.out.symm, Below.refl _ _⟩
      have S : Hid (∀ a (ha : a < l[k].notes.length), a < i + 1 → l[k].notes[a].seq = l[k].fr + a ∧ l[k].fr + a ≤ 1000000000) := by
       intro a ha h0
       by_cases e : a = i
       ·subst e; exact ⟨e1, e2⟩
       ·exact hfit.out a ha (by omega)
      clear e1
      go_wp2
      exact ⟨⟨i + 1, by omega, by go_num, by first | (push_cast; go_num) | (congr 1; push_cast; omega), S⟩, by simp [intOf]; omega⟩
     ·have hi' : i = l[k].notes.length := by omega
      subst hi'
      have S : Hid (∀ j, j < k + 1 → segFit l j = true) := by
       intro j hj
       by_cases e : j = k
       ·subst e; exact segFit_yes hlt t1 hst.out (notesFit_all fun a ha => hfit.out a ha ha)
       ·exact hok.out j (by omega)
      go_wp2
      exact ⟨⟨k + 1, l[k].fr + l[k].notes.length, by omega, by go_num, by rw [hts.out]; first | (push_cast; go_num) | (congr 1; push_cast; omega), rfl, by show totN _ ≤ 400; rw [hts.out]; exact h4, fun _ => by rw [show k + 1 - 1 = k from rfl, segAt_get hlt]; rfl, S⟩, by simp [intOf]; omega⟩
   ·have hki : (0 : Int) < (k : Int) := by omega
    by_cases he : l[k].fr = m
    ·have t2 : (l[k].fr != m) = false := by simp [he]
     have hst : Hid (0 < k → l[k].fr = endO (segAt l (k - 1))) := fun h0 => he.trans (hq.out h0)
     have HQ : 0 < k := by omega
     clear he hk0
     go_wp2_with (go_at_call 30; refine (l01In_any _ _ _ _).mono ?_; rintro e w' ⟨rfl, rfl⟩)
     clear HQ
     go_loop [4, 6] (fun q j => ∃ (i : Nat), i ≤ l[k].notes.length ∧ j = .int .i64 i ∧ q = .int .i64 (l[k].fr + i) ∧ Hid (∀ a (ha : a < l[k].notes.length), a < i → l[k].notes[a].seq = l[k].fr + a ∧ l[k].fr + a ≤ 1000000000)) (fun _ j => l[k].notes.length - (intOf j).toNat)
     case atStart => exact ⟨0, Nat.zero_le _, rfl, by simp, fun a ha h0 => absurd h0 (by omega)⟩
     case round =>
      obtain ⟨i, hi, rfl, rfl, hfit⟩ := hrel
      by_cases hli : i < l[k].notes.length
      ·obtain ⟨b2, o2, s2, rfl, hbb2, hr2, d0, -⟩ := hr.note hli
       by_cases e1 : l[k].notes[i].seq = l[k].fr + i
       case neg =>
        have H := Lib.hid (segsOk_fit hlt (segFit_notes hlt (notesFit_false hli (fun hh => e1 hh.1))))
        have t4 : (l[k].notes[i].seq != l[k].fr + (i : Int)) = true := by rw [bne_iff_ne]; exact e1
        clear e1
        go_wp2
        go_ret
        exact ⟨ret_bool H.out.symm, Below.refl _ _⟩
       have t4 : (l[k].notes[i].seq != l[k].fr + (i : Int)) = false := by simp [e1]
       by_cases e2 : l[k].fr + (i : Int) ≤ 1000000000
       case neg =>
        have H := Lib.hid (segsOk_fit hlt (segFit_notes hlt (notesFit_false hli (fun hh => e2 hh.2))))
        clear e1
        go_wp2
        go_ret
        exact ⟨ret_bool H.out.symm, Below.refl _ _⟩
       have S : Hid (∀ a (ha : a < l[k].notes.length), a < i + 1 → l[k].notes[a].seq = l[k].fr + a ∧ l[k].fr + a ≤ 1000000000) := by
        intro a ha h0
        by_cases e : a = i
        ·subst e; exact ⟨e1, e2⟩
        ·exact hfit.out a ha (by omega)
       clear e1
       go_wp2
       exact ⟨⟨i + 1, by omega, by go_num, by first | (push_cast; go_num) | (congr 1; push_cast; omega), S⟩, by simp [intOf]; omega⟩
      ·have hi' : i = l[k].notes.length := by omega
       subst hi'
       have S : Hid (∀ j, j < k + 1 → segFit l j = true) := by
        intro j hj
        by_cases e : j = k
        ·subst e; exact segFit_yes hlt t1 hst.out (notesFit_all fun a ha => hfit.out a ha ha)
        ·exact hok.out j (by omega)
       go_wp2
       exact ⟨⟨k + 1, l[k].fr + l[k].notes.length, by omega, by go_num, by rw [hts.out]; first | (push_cast; go_num) | (congr 1; push_cast; omega), rfl, by show totN _ ≤ 400; rw [hts.out]; exact h4, fun _ => by rw [show k + 1 - 1 = k from rfl, segAt_get hlt]; rfl, S⟩, by simp [intOf]; omega⟩
    ·have t2 : (l[k].fr != m) = true := by rw [bne_iff_ne]; exact he
     have H : Hid (segsOk l = false) := by
      have hq' := hq.out (by omega)
      rw [segAt_get (show k - 1 < l.length by omega)] at hq'
      obtain ⟨k', rfl⟩ : ∃ k', k = k' + 1 := ⟨k - 1, by omega⟩
      exact segsOk_fit hlt (segFit_step hlt (fun hh => he (hh.trans hq'.symm)))
     clear he
     have HQ : 0 < k := by omega
     go_wp2_with (go_at_call 30; refine (l01In_any _ _ _ _).mono ?_; rintro e w' ⟨rfl, rfl⟩)
     go_ret
     exact ⟨ret_bool H.out.symm, Below.refl _ _⟩
  ·have H := Lib.hid (segsOk_all h60 (by have := ht.out; rwa [List.take_of_length_le (by omega)] at this) (fun j hj => hok.out j (by omega)))
   go_wp2
   go_ret
   exact ⟨ret_bool H.out.symm, Below.refl _ _⟩
theorem implSegsOk_own (l : List Seg) (s : Sl) (w : World) (hl : cntL cntSeg l ≤ 2000000) (h : RdL segD w w.heap.size s.v l) :
  Calls Try.prog 8 #[.slice s.a s.n s.c] w fun e w' => e = .returned (.bool (segsOk l)) ∧ Below w.heap.size w w' := by
 obtain ⟨A, n, c⟩ := s
 obtain ⟨A', c', hv, -⟩ := h.form
 simp only [Sl.v, Value.slice.injEq] at hv
 obtain ⟨rfl, rfl, rfl⟩ := hv
 have hll : l.length ≤ 2000000 := Nat.le_trans (cntL_len _ _) hl
 have hcc : ∀ k (hk : k < l.length), cntSeg l[k] ≤ 2000000 := fun k hk => by have := cntL_mem (cnt := cntSeg) (List.getElem_mem hk); omega
 by_cases h60 : l.length ≤ 60
 case neg =>
  have H := Lib.hid (segsOk_len h60)
  go_enter Try.func8, Try.ntmps8
  go_wp2
  go_ret
  exact ⟨ret_bool H.out.symm, Below.refl _ _⟩
 by_cases h400 : totN l ≤ 400
 case neg =>
  have H := Lib.hid (segsOk_tot h400)
  go_enter Try.func8, Try.ntmps8
  go_wp2_with (go_at_call 10; refine (implNotesOf_own l ⟨A, l.length, c⟩ w hl h).mono ?_; rintro e w1 ⟨⟨A1, n1, c1⟩, F1, rfl, o1, nn1, b1⟩; obtain ⟨_, _, hv1, -⟩ := OwL.form o1; simp only [Sl.v, Value.slice.injEq, notesOf_len] at hv1; obtain ⟨rfl, rfl, rfl⟩ := hv1)
  go_ret
  exact ⟨ret_bool H.out.symm, b1⟩
 go_enter Try.func8, Try.ntmps8
 go_wp2_with (go_at_call 10; refine (implNotesOf_own l ⟨A, l.length, c⟩ w hl h).mono ?_; rintro e w0 ⟨⟨A1, n1, c1⟩, F1, rfl, o1, nn1, b1⟩; obtain ⟨_, _, hv1, -⟩ := OwL.form o1; simp only [Sl.v, Value.slice.injEq, notesOf_len] at hv1; obtain ⟨rfl, rfl, rfl⟩ := hv1)
 clear o1 nn1
 go_loopw [19] (fun i wr => ∃ k : Nat, k ≤ l.length ∧ i = .int .i64 k ∧ Hid (∀ j, j < k → segFit l j = true) ∧ Below w.heap.size w wr) (fun i _ => l.length - (intOf i).toNat)
 case atStart => exact ⟨0, Nat.zero_le _, rfl, fun j hj => absurd hj (by omega), b1⟩
 case round =>
  obtain ⟨k, hk, rfl, hok, hb⟩ := hrel
  by_cases hlt : k < l.length
  ·obtain ⟨b, o, s', rfl, hbb, hr0, c0, c1⟩ := (h.below hb).seg hlt
   have hr00 : RdL noteD wr w.heap.size s'.v l[k].notes := hr0
   have hr : RdL noteD w w.heap.size s'.v l[k].notes := by
    obtain ⟨b9, o9, s9, he9, _, hr9, _, e9⟩ := h.seg hlt
    simp only [Option.some.injEq, Addr.mk.injEq, and_true] at he9
    obtain ⟨rfl, rfl⟩ := he9
    have e8 := (hb.cell (p := ⟨b, o + k * 2 + 1, none⟩) hbb).symm.trans c1
    rw [e9] at e8
    simp only [Option.some.injEq, Value.slice.injEq] at e8
    obtain ⟨a9, n9, c9⟩ := s9
    obtain ⟨a8, n8, c8⟩ := s'
    simp only at e8
    obtain ⟨rfl, rfl, rfl⟩ := e8
    exact hr9
   obtain ⟨A2, n2, c2⟩ := s'
   obtain ⟨_, _, hv2, -⟩ := hr.form
   simp only [Sl.v, Value.slice.injEq] at hv2
   obtain ⟨rfl, rfl, rfl⟩ := hv2
   clear hr0 hr00
   have hnl : l[k].notes.length ≤ 2000000 := Nat.le_trans (cntL_len cntNote _) (hcc k hlt)
   have hs := hb.size
   have hbw : b < wr.heap.size := by omega
   have hbb' : b < (wr.alloc (.cells #[.int .i64 l[k].fr, .slice A2 l[k].notes.length c2] 51)).heap.size := by simp; omega
   have hlc := later_cell (wr.alloc (.cells #[.int .i64 l[k].fr, .slice A2 l[k].notes.length c2] 51))
   have hnew : wr.heap.size < (wr.alloc (.cells #[.int .i64 l[k].fr, .slice A2 l[k].notes.length c2] 51)).heap.size := by simp
   have hba : Below w.heap.size w (wr.alloc (.cells #[.int .i64 l[k].fr, .slice A2 l[k].notes.length c2] 51)) := hb.alloc hb.size _
   cases t1 : inB l[k].fr 1 1000000000
   case false =>
    have H := Lib.hid (segsOk_fit hlt (segFit_in hlt t1))
    go_wp2
    refine wp_region_pure (by kernel_rfl) (by kernel_rfl) ?_
    repeat (go_big_quiet_step ((go_at_call 21; exact pure_same (fun u => within_any _ _ _ u.1))))
    refine wpQuiet_nil ?_
    rintro w1 ⟨u1, e1⟩
    have hb1 := u1.2
    rw [← e1] at hb1
    clear e1 u1
    clear hlc
    go_wp2
    go_ret
    exact ⟨ret_bool H.out.symm, bnext hba hb1⟩
   have hin : 1 ≤ l[k].fr ∧ l[k].fr ≤ 1000000000 := by
    simp only [inB, Bool.and_eq_true, decide_eq_true_eq] at t1
    exact t1
   by_cases hk0 : k = 0
   ·have t3 : decide ((0 : Int) < (k : Int)) = false := by simp; omega
    have hst : Hid (0 < k → l[k].fr = endO (segAt l (k - 1))) := fun h0 => absurd hk0 (by omega)
    have HQ : ¬ (0 < k) := by omega
    clear hk0
    go_wp2
    refine wp_region_pure (by kernel_rfl) (by kernel_rfl) ?_
    repeat (go_big_quiet_step ((go_at_call 21; exact pure_same (fun u => within_any _ _ _ u.1))))
    refine wpQuiet_nil ?_
    rintro w1 ⟨u1, e1⟩
    have hb1 := u1.2
    rw [← e1] at hb1
    clear e1 u1
    clear hlc
    have kb : w1.cell? ⟨wr.heap.size, 1, none⟩ = some (.slice A2 l[k].notes.length c2) := (hb1.cell (p := ⟨wr.heap.size, 1, none⟩) hnew).trans (by simp [go_sem])
    have hbw1 := bnext hba hb1
    go_wp2
    clear kb
    go_loopw [5, 48] (fun q j wj => ∃ (i : Nat), i ≤ l[k].notes.length ∧ j = .int .i64 i ∧ q = .int .i64 (l[k].fr + i) ∧ Hid (∀ a (ha : a < l[k].notes.length), a < i → l[k].notes[a].seq = l[k].fr + a ∧ l[k].fr + a ≤ 1000000000) ∧ Below w.heap.size w wj) (fun _ j _ => l[k].notes.length - (intOf j).toNat)
    case atStart => exact ⟨0, Nat.zero_le _, rfl, by simp, fun a ha h0 => absurd h0 (by omega), hbw1⟩
    case round =>
     rename_i wj _
     obtain ⟨i, hi, rfl, rfl, hfit, hbj⟩ := hrel
     by_cases hli : i < l[k].notes.length
     ·obtain ⟨b2, o2, s2, rfl, hbb2, hr2, d0, d1, d2, d3, d4, d5, d6, d7, d8, d9, d10, d11⟩ := (hr.below hbj).note hli
      have hsj := hbj.size
      have hbj' := fun T cs => hbj.alloc hbj.size (.cells cs T)
      by_cases e1 : l[k].notes[i].seq = l[k].fr + i
      case neg =>
       have H := Lib.hid (segsOk_fit hlt (segFit_notes hlt (notesFit_false hli (fun hh => e1 hh.1))))
       have t4 : (l[k].notes[i].seq != l[k].fr + (i : Int)) = true := by rw [bne_iff_ne]; exact e1
       clear e1
       go_wp2
       go_ret
       exact ⟨ret_bool H.out.symm, hbj' _ _⟩
      have t4 : (l[k].notes[i].seq != l[k].fr + (i : Int)) = false := by simp [e1]
      by_cases e2 : l[k].notes[i].seq ≤ 1000000000
      case neg =>
       have H := Lib.hid (segsOk_fit hlt (segFit_notes hlt (notesFit_false hli (fun hh => e2 (by rw [hh.1]; exact hh.2)))))
       clear e1
       go_wp2
       go_ret
       exact ⟨ret_bool H.out.symm, hbj' _ _⟩
      have e3 : l[k].fr + (i : Int) ≤ 1000000000 := by rw [← e1]; exact e2
      have S : Hid (∀ a (ha : a < l[k].notes.length), a < i + 1 → l[k].notes[a].seq = l[k].fr + a ∧ l[k].fr + a ≤ 1000000000) := by
       intro a ha h0
       by_cases e : a = i
       ·subst e; exact ⟨e1, e3⟩
       ·exact hfit.out a ha (by omega)
      clear e1
      go_wp2
      exact ⟨⟨i + 1, by omega, by go_num, by first | (push_cast; go_num) | (congr 1; push_cast; omega), S, hbj' _ _⟩, by simp [intOf]; omega⟩
     ·have hi' : i = l[k].notes.length := by omega
      subst hi'
      have S : Hid (∀ j, j < k + 1 → segFit l j = true) := by
       intro j hj
       by_cases e : j = k
       ·subst e; exact segFit_yes hlt t1 hst.out (notesFit_all fun a ha => hfit.out a ha ha)
       ·exact hok.out j (by omega)
      go_wp2
      exact ⟨⟨k + 1, by omega, by go_num, S, hbj⟩, by simp [intOf]; omega⟩
   ·have HQ : 0 < k := by omega
    have hki : (0 : Int) < (k : Int) := by omega
    have t3 : decide ((0 : Int) < (k : Int)) = true := by simp; omega
    have hpk : k - 1 < l.length := by omega
    obtain ⟨bp, op, sp, hep, _, hrp, p0, p1⟩ := (h.below hb).seg hpk
    simp only [Option.some.injEq, Addr.mk.injEq, and_true] at hep
    obtain ⟨rfl, rfl⟩ := hep
    obtain ⟨hpi, hpf⟩ := segFit_get hpk (hok.out (k - 1) (by omega))
    have hxp : ∀ W, Below (wr.alloc (.cells #[.int .i64 l[k].fr, .slice A2 l[k].notes.length c2] 51)).heap.size (wr.alloc (.cells #[.int .i64 l[k].fr, .slice A2 l[k].notes.length c2] 51)) W → segD.rd W W.heap.size l[k-1] sp := fun W hW => segD.rd_more (segD.rd_below hrp (Below.mono (bnext ((Below.refl _ _).alloc (Nat.le_refl _) _) hW) hb.size)) (Nat.le_trans (by simp; omega) hW.size)
    have hqe : segAt l (k - 1) = l[k-1] := segAt_get hpk
    by_cases he : l[k].fr = endO l[k-1]
    ·have t2 : (l[k].fr != endO l[k-1]) = false := by simp [he]
     have hst : Hid (0 < k → l[k].fr = endO (segAt l (k - 1))) := fun h0 => by rw [hqe]; exact he
     clear he hk0 hqe
     go_wp2
     refine wp_region_pure (by kernel_rfl) (by kernel_rfl) ?_
     repeat (go_big_quiet_step ((first
      | (go_at_call 21; exact pure_same (fun u => within_any _ _ _ u.1))
      | (go_at_call 23; rename_i x; have h1 := endOf_own l[k-1] sp x.1 hpi hpf (hcc _ hpk) (hxp x.1 x.2); exact pure_of h1))))
     refine wpQuiet_nil ?_
     rintro w1 ⟨u1, e1⟩
     have hb1 := u1.2
     rw [← e1] at hb1
     clear e1 u1
     clear hlc
     have kb : w1.cell? ⟨wr.heap.size, 1, none⟩ = some (.slice A2 l[k].notes.length c2) := (hb1.cell (p := ⟨wr.heap.size, 1, none⟩) hnew).trans (by simp [go_sem])
     have hbw1 := bnext hba hb1
     go_wp2
     clear kb
     go_loopw [5, 48] (fun q j wj => ∃ (i : Nat), i ≤ l[k].notes.length ∧ j = .int .i64 i ∧ q = .int .i64 (l[k].fr + i) ∧ Hid (∀ a (ha : a < l[k].notes.length), a < i → l[k].notes[a].seq = l[k].fr + a ∧ l[k].fr + a ≤ 1000000000) ∧ Below w.heap.size w wj) (fun _ j _ => l[k].notes.length - (intOf j).toNat)
     case atStart => exact ⟨0, Nat.zero_le _, rfl, by simp, fun a ha h0 => absurd h0 (by omega), hbw1⟩
     case round =>
      rename_i wj _
      obtain ⟨i, hi, rfl, rfl, hfit, hbj⟩ := hrel
      by_cases hli : i < l[k].notes.length
      ·obtain ⟨b2, o2, s2, rfl, hbb2, hr2, d0, d1, d2, d3, d4, d5, d6, d7, d8, d9, d10, d11⟩ := (hr.below hbj).note hli
       have hsj := hbj.size
       have hbj' := fun T cs => hbj.alloc hbj.size (.cells cs T)
       by_cases e1 : l[k].notes[i].seq = l[k].fr + i
       case neg =>
        have H := Lib.hid (segsOk_fit hlt (segFit_notes hlt (notesFit_false hli (fun hh => e1 hh.1))))
        have t4 : (l[k].notes[i].seq != l[k].fr + (i : Int)) = true := by rw [bne_iff_ne]; exact e1
        clear e1
        go_wp2
        go_ret
        exact ⟨ret_bool H.out.symm, hbj' _ _⟩
       have t4 : (l[k].notes[i].seq != l[k].fr + (i : Int)) = false := by simp [e1]
       by_cases e2 : l[k].notes[i].seq ≤ 1000000000
       case neg =>
        have H := Lib.hid (segsOk_fit hlt (segFit_notes hlt (notesFit_false hli (fun hh => e2 (by rw [hh.1]; exact hh.2)))))
        clear e1
        go_wp2
        go_ret
        exact ⟨ret_bool H.out.symm, hbj' _ _⟩
       have e3 : l[k].fr + (i : Int) ≤ 1000000000 := by rw [← e1]; exact e2
       have S : Hid (∀ a (ha : a < l[k].notes.length), a < i + 1 → l[k].notes[a].seq = l[k].fr + a ∧ l[k].fr + a ≤ 1000000000) := by
        intro a ha h0
        by_cases e : a = i
        ·subst e; exact ⟨e1, e3⟩
        ·exact hfit.out a ha (by omega)
       clear e1
       go_wp2
       exact ⟨⟨i + 1, by omega, by go_num, by first | (push_cast; go_num) | (congr 1; push_cast; omega), S, hbj' _ _⟩, by simp [intOf]; omega⟩
      ·have hi' : i = l[k].notes.length := by omega
       subst hi'
       have S : Hid (∀ j, j < k + 1 → segFit l j = true) := by
        intro j hj
        by_cases e : j = k
        ·subst e; exact segFit_yes hlt t1 hst.out (notesFit_all fun a ha => hfit.out a ha ha)
        ·exact hok.out j (by omega)
       go_wp2
       exact ⟨⟨k + 1, by omega, by go_num, S, hbj⟩, by simp [intOf]; omega⟩
    ·have t2 : (l[k].fr != endO l[k-1]) = true := by rw [bne_iff_ne]; exact he
     have H : Hid (segsOk l = false) := by
      obtain ⟨k', rfl⟩ : ∃ k', k = k' + 1 := ⟨k - 1, by omega⟩
      exact segsOk_fit hlt (segFit_step hlt he)
     clear he hk0 hqe
     go_wp2
     refine wp_region_pure (by kernel_rfl) (by kernel_rfl) ?_
     repeat (go_big_quiet_step ((first
      | (go_at_call 21; exact pure_same (fun u => within_any _ _ _ u.1))
      | (go_at_call 23; rename_i x; have h1 := endOf_own l[k-1] sp x.1 hpi hpf (hcc _ hpk) (hxp x.1 x.2); exact pure_of h1))))
     refine wpQuiet_nil ?_
     rintro w1 ⟨u1, e1⟩
     have hb1 := u1.2
     rw [← e1] at hb1
     clear e1 u1
     clear hlc
     go_wp2
     go_ret
     exact ⟨ret_bool H.out.symm, bnext hba hb1⟩
  ·have H := Lib.hid (segsOk_all h60 h400 (fun j hj => hok.out j (by omega)))
   go_wp2
   go_ret
   exact ⟨ret_bool H.out.symm, hb⟩
end Go.Proofs.Ytonlnjdempbfoaa
end
section
namespace Go.Proofs.Ytonlnjdempbfoaa
open Go.RowKit
set_option maxRecDepth 100000
set_option maxHeartbeats 2000000
set_option linter.unusedVariables false
set_option linter.unusedSimpArgs false
theorem runP_fin {r : Run} (h1 : inB r.id 1 9999 = true) (h2 : planFault r.plan = 0) (h3 : (r.tasks.length : Int) = r.plan.tasks) (h4 : ∀ t, t < r.tasks.length → taskP r t) :
  tf (runP r) = decide (r.state = stL r.tasks ∧ r.state ≠ 0) := by
 rw [Bool.eq_iff_iff, tf_iff, decide_eq_true_eq]
 unfold runP
 exact ⟨fun h => h.2.2.2.2, fun h => ⟨inB_iff.1 h1, h2, h3, h4, h⟩⟩
theorem specRunOk_any (r : Run) (s : Sl × Sl) (w : World) (hl : cntRun r ≤ 2000000) (h : runD.rd w w.heap.size r s) :
  Calls Try.prog 80 #[runW r s] w fun e w' => e = .returned (.bool (tf (runP r))) ∧ Below w.heap.size w w' := by
 have HR := Lib.hid (show ∀ W, Below w.heap.size w W → runD.rd W W.heap.size r s from fun W hW => runD.rd_more (runD.rd_below h hW) hW.size)
 obtain ⟨⟨A1, n1, c1⟩, ⟨A2, n2, c2⟩⟩ := s
 obtain rfl : n2 = r.tasks.length := RdL.at1 (s := ⟨A2, n2, c2⟩) h.2
 have h1 : Rd edgeE w w.heap.size (.slice A1 n1 c1) r.plan.edges := edge_rd h.1
 have h2 : RdL taskD w w.heap.size (.slice A2 r.tasks.length c2) r.tasks := h.2
 have hl1 : r.plan.edges.length ≤ 2000000 := Nat.le_trans (cntL_len cntEdge _) (by unfold cntRun cntPlan at hl; omega)
 have hl2 : r.tasks.length ≤ 2000000 := Nat.le_trans (cntL_len cntTask _) (by unfold cntRun at hl; omega)
 clear h hl
 have X := DBox.new 98 [.int .i64 r.id, .int .i64 r.plan.prio, .int .i64 r.plan.most, .int .i64 r.plan.wait, .int .i64 r.plan.tasks, .slice A1 n1 c1, .int .i64 r.state, .slice A2 r.tasks.length c2] w (b := w.heap.size) rfl
 have B0 : Below w.heap.size w (w.alloc (.cells #[.int .i64 r.id, .int .i64 r.plan.prio, .int .i64 r.plan.most, .int .i64 r.plan.wait, .int .i64 r.plan.tasks, .slice A1 n1 c1, .int .i64 r.state, .slice A2 r.tasks.length c2] 98)) := by repeat (first | exact Below.refl _ _ | refine Below.alloc ?_ (by simp <;> omega) _)
 have C1 := specPlanFault_any r.plan (.slice A1 n1 c1) (w.alloc (.cells #[.int .i64 r.id, .int .i64 r.plan.prio, .int .i64 r.plan.most, .int .i64 r.plan.wait, .int .i64 r.plan.tasks, .slice A1 n1 c1, .int .i64 r.state, .slice A2 r.tasks.length c2] 98)) hl1 ((h1.below B0).more B0.size)
 have X_l := X.lt
 cases a1 : inB r.id 1 9999
 case false =>
  have H := Lib.hid (show tf (runP r) = false from tf_false (fun h => by have := inB_iff.2 h.1; rw [a1] at this; cases this))
  go_enter Try.func80, Try.ntmps80
  go_wp2_with (go_at_call 30; refine (l01In_any _ _ _ _).mono ?_; rintro e w' ⟨rfl, rfl⟩)
  go_ret
  exact ⟨ret_bool H.out.symm, B0⟩
 by_cases e2 : planFault r.plan = 0
 case neg =>
  have a2 : (planFault r.plan != 0) = true := by simp [e2]
  have H := Lib.hid (show tf (runP r) = false from tf_false (fun h => e2 h.2.1))
  clear e2
  go_enter Try.func80, Try.ntmps80
  go_wp2_with (first | (go_at_call 30; refine (l01In_any _ _ _ _).mono ?_; rintro e w' ⟨rfl, rfl⟩) | (go_at_call 63; refine C1.mono ?_; rintro e w1 ⟨rfl, b1⟩; have q1 := fun j => (bcell b1).1 w.heap.size j X_l))
  go_ret
  exact ⟨ret_bool H.out.symm, bnext B0 b1⟩
 have E2 := Lib.hid e2
 rw [e2] at C1
 clear e2
 by_cases e3 : (r.tasks.length : Int) = r.plan.tasks
 case neg =>
  have a3 : ((r.tasks.length : Int) != r.plan.tasks) = true := by simp [e3]
  have H := Lib.hid (show tf (runP r) = false from tf_false (fun h => e3 h.2.2.1))
  clear e3
  go_enter Try.func80, Try.ntmps80
  go_wp2_with (first | (go_at_call 30; refine (l01In_any _ _ _ _).mono ?_; rintro e w' ⟨rfl, rfl⟩) | (go_at_call 63; refine C1.mono ?_; rintro e w1 ⟨rfl, b1⟩; have q1 := fun j => (bcell b1).1 w.heap.size j X_l))
  go_ret
  exact ⟨ret_bool H.out.symm, bnext B0 b1⟩
 have a3 : ((r.tasks.length : Int) != r.plan.tasks) = false := by simp [e3]
 have E3 := Lib.hid e3
 clear e3
 go_enter Try.func80, Try.ntmps80
 go_wp2_with (first | (go_at_call 30; refine (l01In_any _ _ _ _).mono ?_; rintro e w' ⟨rfl, rfl⟩) | (go_at_call 63; refine C1.mono ?_; rintro e w1 ⟨rfl, b1⟩; have q1 := fun j => (bcell b1).1 w.heap.size j X_l))
 clear q1
 replace X := X.below b1
 replace B0 := bnext B0 b1
 clear X_l C1 b1 a3
 have A1_ := Lib.hid a1
 clear a1
 obtain ⟨X_0, X_1, X_2, X_3, X_4, X_5, X_6, X_7, X_l⟩ := X.g8
 go_loop [3] (fun i => ∃ k : Nat, k ≤ r.tasks.length ∧ i = .int .i64 k ∧ Hid (∀ t (ht : t < r.tasks.length), t < k → 1 ≤ r.tasks[t].state ∧ r.tasks[t].state ≤ 6)) (fun i => r.tasks.length - (intOf i).toNat)
 case atStart => exact ⟨0, Nat.zero_le _, rfl, fun t _ ht => absurd ht (by omega)⟩
 case round =>
  obtain ⟨k, hk, rfl, hok⟩ := hrel
  by_cases hlt : k < r.tasks.length
  ·have hltI : (k : Int) < (r.tasks.length : Int) := by omega
   obtain ⟨b, o, _, rfl, hbb, _, d0, d1, d2, d3⟩ := (h2.below B0).task hlt
   cases tk : inB r.tasks[k].state 1 6
   ·have H := Lib.hid (show tf (runP r) = false from tf_false (fun h => by
     have h3 := (h.2.2.2.1 k hlt).1
     rw [taskAt_get hlt] at h3
     have := inB_iff.2 h3
     rw [tk] at this
     cases this))
    go_wp2_with (go_at_call 30; refine (l01In_any _ _ _ _).mono ?_; rintro e w' ⟨rfl, rfl⟩)
    go_ret
    exact ⟨ret_bool H.out.symm, B0⟩
   ·have S : Hid (∀ t (ht : t < r.tasks.length), t < k + 1 → 1 ≤ r.tasks[t].state ∧ r.tasks[t].state ≤ 6) := by
     intro t ht htk
     by_cases e : t = k
     ·subst e; exact inB_iff.1 tk
     ·exact hok.out t ht (by omega)
    go_wp2_with (go_at_call 30; refine (l01In_any _ _ _ _).mono ?_; rintro e w' ⟨rfl, rfl⟩)
    exact ⟨⟨k + 1, by omega, by go_num, S⟩, by simp [intOf]; omega⟩
  ·have hltI : ¬ (k : Int) < (r.tasks.length : Int) := by omega
   have hk' : k = r.tasks.length := by omega
   subst hk'
   have HT := hok
   go_wp2
   clear X_0 X_1 X_2 X_3 X_4 X_5 X_6 X_7 X_l hok hlt hk hltI
   go_loopw [4] (fun i wr => ∃ k : Nat, k ≤ r.tasks.length ∧ i = .int .i64 k ∧ Hid (∀ t, t < k → taskP r t) ∧ Below w1.heap.size w1 wr) (fun i _ => r.tasks.length - (intOf i).toNat)
   case atStart => exact ⟨0, Nat.zero_le _, rfl, fun t ht => absurd ht (by omega), Below.refl _ _⟩
   case round =>
    obtain ⟨k, hk, rfl, hok, hb⟩ := hrel
    replace X := X.below hb
    replace B0 := bnext B0 hb
    obtain ⟨X_0, X_1, X_2, X_3, X_4, X_5, X_6, X_7, X_l⟩ := X.g8
    by_cases hlt : k < r.tasks.length
    ·have hltI : (k : Int) < (r.tasks.length : Int) := by omega
     have C := specTask_any r (⟨A1, n1, c1⟩, ⟨A2, r.tasks.length, c2⟩) k wr E2.out E3.out hlt (HT.out k hlt hlt) (HR.out _ B0)
     by_cases tk : taskP r k
     ·have S : Hid (∀ t, t < k + 1 → taskP r t) := by
       intro t ht
       by_cases e : t = k
       ·subst e; exact tk
       ·exact hok.out t (by omega)
      rw [tf_true tk] at C
      clear tk
      go_wp2_with fail
      refine C.mono ?_
      rintro e w2 ⟨rfl, b2⟩
      go_wp2
      exact ⟨⟨k + 1, by omega, by go_num, S, bnext hb b2⟩, by simp [intOf]; omega⟩
     ·have H := Lib.hid (show tf (runP r) = false from tf_false (fun h => tk (h.2.2.2.1 k hlt)))
      rw [tf_false tk] at C
      clear tk
      go_wp2_with fail
      refine C.mono ?_
      rintro e w2 ⟨rfl, b2⟩
      go_wp2
      go_ret
      exact ⟨ret_bool H.out.symm, bnext B0 b2⟩
    ·have hltI : ¬ (k : Int) < (r.tasks.length : Int) := by omega
     have hk' : k = r.tasks.length := by omega
     subst hk'
     have HF := Lib.hid (runP_fin A1_.out E2.out E3.out hok.out)
     have hlc := later_cell wr
     have C := fun u : Later wr => specState_any r (⟨A1, n1, c1⟩, ⟨A2, r.tasks.length, c2⟩) u.1 hl2 (fun x hx => by
      obtain ⟨t, ht, rfl⟩ := List.getElem_of_mem hx
      exact HT.out t ht ht) (HR.out _ (bnext B0 u.2))
     have C2 := Lib.hid C
     clear C
     generalize stL r.tasks = S at *
     have HG : Hid (tf (runP r) = ((r.state == S) && (r.state != 0))) := by
      show tf (runP r) = _
      rw [HF.out, Bool.eq_iff_iff]
      simp
     clear HF
     cases q1 : (r.state == S) <;> cases q2 : (r.state != 0)
     all_goals
      rw [q1, q2] at HG
      go_wp2
      refine wp_region_pure (by kernel_rfl) (by kernel_rfl) ?_
      repeat (go_big_quiet_step ((go_at_call 93; (with_reducible exact pure_at C2.out))))
      refine wpQuiet_nil ?_
      rintro _ ⟨⟨w2, b2⟩, rfl⟩
      clear hlc
      go_wp2
      go_ret
      exact ⟨ret_bool HG.out.symm, bnext B0 b2⟩
end Go.Proofs.Ytonlnjdempbfoaa
end
section
namespace Go.Proofs.Ytonlnjdempbfoaa
open Go.RowKit
set_option maxRecDepth 100000
set_option maxHeartbeats 2000000
set_option linter.unusedVariables false
set_option linter.unusedSimpArgs false
theorem slotsR_bound {y : Yard} (hl : cntYard y ≤ 2000000) (k : Nat) : slotsR (y.runs.take k) + y.runs.length ≤ 2000000 ∧ slotsR (y.runs.take k) + (entriesOf y).length ≤ 2000000 := by
 have h1 := slotsR_le (y.runs.take k)
 have h2 : ((y.runs.take k).map fun r => r.tasks.length).sum ≤ (y.runs.map fun r => r.tasks.length).sum := by
  conv => rhs; rw [← List.take_append_drop k y.runs, List.map_append, List.sum_append]
  omega
 have h3 : (y.runs.map fun r => r.tasks.length).sum + y.runs.length ≤ cntL cntRun y.runs := by
  unfold cntL
  have : ∀ l : List Run, (l.map fun r => r.tasks.length).sum ≤ (l.map cntRun).sum := by
   intro l
   induction l with
   | nil => simp
   | cons r l ih =>
    simp only [List.map_cons, List.sum_cons]
    have : r.tasks.length ≤ cntRun r := by unfold cntRun; have := cntL_len cntTask r.tasks; omega
    omega
  have := this y.runs
  omega
 have h4 := flat_take_le y.shelf y.shelf.length
 rw [List.take_length] at h4
 unfold cntYard at hl
 unfold entriesOf
 omega
theorem slots_le {y : Yard} (hl : cntYard y ≤ 2000000) : slotsOf y ≤ 2000000 := by
 have h1 := (slotsR_bound hl y.runs.length).2
 rw [List.take_length] at h1
 have h2 := staleN_le y (entriesOf y)
 unfold slotsOf
 omega
theorem specSlots_any (y : Yard) (s : Sl × Sl) (w : World) (hl : cntYard y ≤ 2000000) (h : yardD.rd w w.heap.size y s) :
  Calls Try.prog 83 #[yardW y s] w fun e w' => e = .returned (.int .i64 (slotsOf y : Nat)) ∧ Below w.heap.size w w' := by
 have HR := Lib.hid (show ∀ W, Below w.heap.size w W → yardD.rd W W.heap.size y s from fun W hW => yardD.rd_more (yardD.rd_below h hW) hW.size)
 obtain ⟨⟨A1, n1, c1⟩, ⟨A2, n2, c2⟩⟩ := s
 obtain rfl : n1 = y.shelf.length := RdL.at1 (s := ⟨A1, n1, c1⟩) h.1
 obtain rfl : n2 = y.runs.length := RdL.at1 (s := ⟨A2, n2, c2⟩) h.2
 have h1 : RdL (Dt.list entryD) w w.heap.size (.slice A1 y.shelf.length c1) y.shelf := h.1
 have h2 : RdL runD w w.heap.size (.slice A2 y.runs.length c2) y.runs := h.2
 have hll : y.runs.length ≤ 2000000 := Nat.le_trans (cntL_len cntRun _) (by unfold cntYard at hl; omega)
 have hls : y.shelf.length ≤ 2000000 := Nat.le_trans (cntL_len cntEntryS _) (by unfold cntYard at hl; omega)
 have HE := Lib.hid (show ∀ k (hk : k < y.shelf.length), y.shelf[k].length ≤ 2000000 from fun k hk => by
  have := cntL_mem (cnt := cntEntryS) (List.getElem_mem hk)
  have h2 : y.shelf[k].length ≤ cntEntryS y.shelf[k] := cntL_len cntEntry _
  unfold cntYard at hl
  omega)
 have HB := Lib.hid (slotsR_bound hl)
 have HD := Lib.hid (show slotsOf y = slotsR y.runs + staleN y y.shelf.flatten from rfl)
 have HW := Lib.hid (show ∀ k, slotsR y.runs + staleN y (y.shelf.take k).flatten ≤ 4000000 from fun k => by
  have h3 := (slotsR_bound hl y.runs.length).2
  rw [List.take_length] at h3
  have h4 := flat_take_le y.shelf k
  have h5 := staleN_le y (y.shelf.take k).flatten
  unfold cntYard at hl
  omega)
 clear h
 have X := DBox.new 61 [.int .i64 y.now, .int .i64 y.seq, .slice A1 y.shelf.length c1, .slice A2 y.runs.length c2] w (b := w.heap.size) rfl
 have B0 : Below w.heap.size w (w.alloc (.cells #[.int .i64 y.now, .int .i64 y.seq, .slice A1 y.shelf.length c1, .slice A2 y.runs.length c2] 61)) := by repeat (first | exact Below.refl _ _ | refine Below.alloc ?_ (by simp <;> omega) _)
 go_enter Try.func83, Try.ntmps83
 go_wp2
 generalize (w.alloc (.cells #[.int .i64 y.now, .int .i64 y.seq, .slice A1 y.shelf.length c1, .slice A2 y.runs.length c2] 61)) = W at *
 obtain ⟨X_0, X_1, X_2, X_3, X_l⟩ := X.g4
 go_loop [3, 4] (fun n i => ∃ k : Nat, k ≤ y.runs.length ∧ i = .int .i64 k ∧ n = .int .i64 (slotsR (y.runs.take k) : Nat)) (fun _ i => y.runs.length - (intOf i).toNat)
 case atStart => exact ⟨0, Nat.zero_le _, rfl, rfl⟩
 case round =>
  obtain ⟨k, hk, rfl, rfl⟩ := hrel
  have hbd := (HB.out k).1
  by_cases hlt : k < y.runs.length
  ·have hltI : (k : Int) < (y.runs.length : Int) := by omega
   obtain ⟨b, o, ⟨s1, ⟨At, nt, ct⟩⟩, rfl, hbb, hrr, c0_, c1_, c2_, c3_, c4_, c5_, c6_, c7_⟩ := (h2.below B0).run hlt
   obtain rfl : nt = y.runs[k].tasks.length := RdL.at1 (s := ⟨At, nt, ct⟩) hrr.2
   have hrt := cnt_run_tasks hl hlt
   by_cases q : y.runs[k].state = 1
   ·have S := Lib.hid (slotsR_yes hlt q)
    have q' : (y.runs[k].state == 1) = true := beq_iff_eq.2 q
    clear q
    go_wp2
    exact ⟨⟨k + 1, by omega, by go_num, by rw [S.out]; go_num⟩, by simp [intOf]; omega⟩
   ·have S := Lib.hid (slotsR_no hlt q)
    have q' : (y.runs[k].state == 1) = false := beq_eq_false_iff_ne.2 q
    clear q
    go_wp2
    exact ⟨⟨k + 1, by omega, by go_num, by rw [S.out]⟩, by simp [intOf]; omega⟩
  ·have hltI : ¬ (k : Int) < (y.runs.length : Int) := by omega
   have hk' : k = y.runs.length := by omega
   subst hk'
   have HS := Lib.hid (show slotsR (y.runs.take y.runs.length) = slotsR y.runs by rw [List.take_length])
   go_wp2
   clear X_0 X_1 X_2 X_3 X_l hbd hlt hk hltI
   go_loopw [3, 5] (fun n i wr => ∃ k : Nat, k ≤ y.shelf.length ∧ i = .int .i64 k ∧ n = .int .i64 (slotsR y.runs + staleN y (y.shelf.take k).flatten : Nat) ∧ Below W.heap.size W wr) (fun _ i _ => y.shelf.length - (intOf i).toNat)
   case atStart => exact ⟨0, Nat.zero_le _, rfl, by simp [staleN], Below.refl _ _⟩
   case round =>
    obtain ⟨k, hk, rfl, rfl, hb⟩ := hrel
    have hwk := HW.out k
    by_cases hlt : k < y.shelf.length
    ·have hltI : (k : Int) < (y.shelf.length : Int) := by omega
     have hez := HE.out k hlt
     have hfl := Lib.hid (flat_take_succ y.shelf k hlt)
     have hwk1 := HW.out (k + 1)
     rw [hfl.out, staleN_append] at hwk1
     have HWj := Lib.hid (show ∀ j, staleN y (y.shelf[k].take j) ≤ y.shelf[k].length from fun j => Nat.le_trans (staleN_le _ _) (by rw [List.length_take]; omega))
     have X1 := X.below hb
     have hx0 : wr.cell? ⟨w.heap.size, 2, none⟩ = some (.slice A1 y.shelf.length c1) := X1.cell 2 _ rfl
     have hx1 := X1.lt
     go_wp2
     clear hx0 hx1 X1
     go_loopw [3, 6] (fun n i wq => ∃ j : Nat, j ≤ y.shelf[k].length ∧ i = .int .i64 j ∧ n = .int .i64 (slotsR y.runs + staleN y (y.shelf.take k).flatten + staleN y (y.shelf[k].take j) : Nat) ∧ Below W.heap.size W wq) (fun _ i _ => y.shelf[k].length - (intOf i).toNat)
     case atStart => exact ⟨0, Nat.zero_le _, rfl, by simp [staleN], hb⟩
     case round =>
      clear hb
      obtain ⟨j, hj, rfl, rfl, hb⟩ := hrel
      have hsj := HWj.out j
      have X := X.below hb
      obtain ⟨X_0, X_1, X_2, X_3, X_l⟩ := X.g4
      obtain ⟨b, o, ⟨As, ns, cs⟩, hA1, hbb, hr, d0⟩ := (h1.below (bnext B0 hb)).entryS hlt
      obtain rfl : ns = y.shelf[k].length := RdL.at1 (s := ⟨As, ns, cs⟩) hr
      subst hA1
      have hs1 : b < wr.heap.size := Nat.lt_of_lt_of_le hbb (bnext B0 hb).size
      by_cases hjt : j < y.shelf[k].length
      ·have hjI : (j : Int) < (y.shelf[k].length : Int) := by omega
       obtain ⟨b2, o2, _, hAs, hbb2, _, f0, f1, f2, f3⟩ := RdL.entry hr hjt
       subst hAs
       have hs2 : b2 < wr.heap.size := Nat.lt_of_lt_of_le hbb2 (bnext B0 hb).size
       have hlc := later_cell wr
       have C := Lib.hid (show ∀ u : Later wr, _ from fun u => specFresh_any y (⟨some ⟨b, o, none⟩, y.shelf.length, c1⟩, ⟨A2, y.runs.length, c2⟩) y.shelf[k][j] u.1 hl (HR.out _ (bnext (bnext B0 hb) u.2)))
       have HY := Lib.hid (staleN_yes (y := y) hjt)
       have HN := Lib.hid (staleN_no (y := y) hjt)
       cases q : freshB y y.shelf[k][j]
       ·have S := Lib.hid (HY.out q)
        rw [q] at C
        go_wp2
        refine wp_region_pure (by kernel_rfl) (by kernel_rfl) ?_
        repeat (go_big_quiet_step ((go_at_call 89; (with_reducible exact pure_at C.out))))
        refine wpQuiet_nil ?_
        rintro _ ⟨⟨w3, b3⟩, rfl⟩
        clear hlc
        go_wp2
        exact ⟨⟨j + 1, by omega, by go_num, by rw [S.out]; go_num, bnext hb b3⟩, by simp [intOf]; omega⟩
       ·have S := Lib.hid (HN.out q)
        rw [q] at C
        go_wp2
        refine wp_region_pure (by kernel_rfl) (by kernel_rfl) ?_
        repeat (go_big_quiet_step ((go_at_call 89; (with_reducible exact pure_at C.out))))
        refine wpQuiet_nil ?_
        rintro _ ⟨⟨w3, b3⟩, rfl⟩
        clear hlc
        go_wp2
        exact ⟨⟨j + 1, by omega, by go_num, by rw [S.out]; go_num, bnext hb b3⟩, by simp [intOf]; omega⟩
      ·have hjI : ¬ (j : Int) < (y.shelf[k].length : Int) := by omega
       have hj' : j = y.shelf[k].length := by omega
       subst hj'
       have S := Lib.hid (show slotsR y.runs + staleN y (y.shelf.take (k + 1)).flatten = slotsR y.runs + staleN y (y.shelf.take k).flatten + staleN y (y.shelf[k].take y.shelf[k].length) by rw [hfl.out, staleN_append, List.take_length]; omega)
       go_wp2
       exact ⟨⟨k + 1, by omega, by go_num, by rw [S.out], hb⟩, by simp [intOf]; omega⟩
    ·have hltI : ¬ (k : Int) < (y.shelf.length : Int) := by omega
     have hk' : k = y.shelf.length := by omega
     subst hk'
     have X1 := X.below hb
     have hx0 : wr.cell? ⟨w.heap.size, 2, none⟩ = some (.slice A1 y.shelf.length c1) := X1.cell 2 _ rfl
     have hx1 := X1.lt
     go_wp2
     go_ret
     exact ⟨ret_int (by have := HD.out; omega), bnext B0 hb⟩
end Go.Proofs.Ytonlnjdempbfoaa
end
section
namespace Go.Proofs.Ytonlnjdempbfoaa
open Go.RowKit
set_option maxRecDepth 100000
set_option linter.unusedVariables false
set_option linter.unusedSimpArgs false
/-- an entry is put on a shelf, ahead of the first that is not ahead of it -/
def putE (l : List Entry) (e : Entry) : List Entry := l.takeWhile (fun x => aheadE x e) ++ e :: l.dropWhile (fun x => aheadE x e)
theorem take_ahead {α : Type} {p : α → Bool} : ∀ {l : List α} {k : Nat}, k ≤ l.length → (∀ j (hj : j < l.length), j < k → p l[j] = true) → (∀ h : k < l.length, p l[k] = false) → l.takeWhile p = l.take k ∧ l.dropWhile p = l.drop k
 | [], k, hk, _, _ => by
  obtain rfl : k = 0 := by simpa using hk
  exact ⟨rfl, rfl⟩
 | x :: l, 0, _, _, h => by
  have := h (by simp)
  simp only [List.getElem_cons_zero] at this
  simp [List.takeWhile_cons, List.dropWhile_cons, this]
 | x :: l, k + 1, hk, ha, h => by
  have h0 := ha 0 (by simp) (by omega)
  simp only [List.getElem_cons_zero] at h0
  obtain ⟨i1, i2⟩ := take_ahead (p := p) (l := l) (k := k) (by simpa using hk) (fun j hj hjk => by have := ha (j + 1) (by simpa using hj) (by omega); simpa using this) (fun hkl => by have := h (by simpa using hkl); simpa using this)
  simp [List.takeWhile_cons, List.dropWhile_cons, h0, i1, i2]
theorem putE_at {l : List Entry} {e : Entry} {k : Nat} (hk : k ≤ l.length) (ha : ∀ j (hj : j < l.length), j < k → aheadE l[j] e = true) (h : ∀ h : k < l.length, aheadE l[k] e = false) : putE l e = l.take k ++ [e] ++ l.drop k := by
 unfold putE
 obtain ⟨h1, h2⟩ := take_ahead (p := fun x => aheadE x e) hk ha h
 rw [h1, h2, List.append_assoc]
 rfl
theorem putE_len (l : List Entry) (e : Entry) : (putE l e).length = l.length + 1 := by
 unfold putE
 rw [List.length_append, List.length_cons]
 have : (l.takeWhile (fun x => aheadE x e) ++ l.dropWhile (fun x => aheadE x e)).length = l.length := by rw [List.takeWhile_append_dropWhile]
 rw [List.length_append] at this
 omega
/-- two shelves are laid together -/
def mergedE (a b : List Entry) : List Entry := if 80 < a.length + b.length then a else b.foldl putE a
theorem foldl_putE_len (b : List Entry) : ∀ a : List Entry, (b.foldl putE a).length = a.length + b.length := by
 induction b with
 | nil => intro a; rfl
 | cons x b ih => intro a; rw [List.foldl_cons, ih, putE_len, List.length_cons]; omega
theorem mergedE_len (a b : List Entry) : (mergedE a b).length ≤ a.length + b.length := by
 unfold mergedE
 split
 ·omega
 ·rw [foldl_putE_len]; omega
def halfN (l : List Entry) : Nat := (l.length + 1) / 2
theorem halfN_le (l : List Entry) : halfN l ≤ l.length := by unfold halfN; omega
/-- the shelf of a run -/
def shelfNo (id : Int) : Nat := if (varText id).length = 0 then 0 else (sumOf (varText id) % 4).toNat
theorem shelfNo_lt (id : Int) : shelfNo id < 4 := by
 unfold shelfNo
 split
 ·decide
 ·have := Int.emod_lt_of_pos (sumOf (varText id)) (show (0 : Int) < 4 by decide)
  have := Int.emod_nonneg (sumOf (varText id)) (show (4 : Int) ≠ 0 by decide)
  omega
/-- one element of a slice of one's own is laid anew, with another datum and other slices in it -/
theorem OwL.swap {α : Type} {d : Dt α} {w : World} {F Fy : List Nat} {b o n c : Nat} {l : List α} (h : OwL d w F (.slice (some ⟨b, o, none⟩) n c) l) {j : Nat} (hj : j < l.length) {y : α} {s : d.S} (hy : d.ow w Fy y s) (hd : ∀ x ∈ Fy, x ∉ F) :
  ∃ F', OwL d (wSeq w b (o + j * d.enc.sz) (d.enc.cells (y, s))) F' (.slice (some ⟨b, o, none⟩) n c) (l.set j y) ∧ (∀ x ∈ F', x ∈ F ∨ x ∈ Fy) ∧ b ∈ F ∧ b ∈ F' := by
 obtain ⟨rs, H, G, hm, hh, ho, rfl, hn⟩ := h
 have hjr : j < rs.length := by rw [← hm, List.length_map] at hj; exact hj
 obtain ⟨b', o', hA, rfl, hbl, hf⟩ := hh.at_ (by omega)
 simp only [Option.some.injEq, Addr.mk.injEq, and_true] at hA
 obtain ⟨rfl, rfl⟩ := hA
 obtain ⟨F1, F2, rfl, h1, h2⟩ := ho.split j (by omega)
 rw [List.drop_eq_getElem_cons hjr] at h2
 obtain ⟨Fx, F3, rfl, h3, h4⟩ := h2.head
 have hbn : b ∉ F1 ++ (Fx ++ F3) := by
  have := hn
  simp only [List.singleton_append, List.nodup_cons] at this
  exact this.1
 have hnG : (F1 ++ (Fx ++ F3)).Nodup := by
  have := hn
  simp only [List.singleton_append, List.nodup_cons] at this
  exact this.2
 have hby : b ∉ Fy := fun hx => hd b hx (by simp)
 have hc := wSeq_chg (d.enc.cells (y, s)) w b (o + j * d.enc.sz)
 have hp := Rd.part hh.rd j hjr (y, s) 0 (d.enc.cells (y, s)) (by rw [d.enc.len]; omega) (fun i hi => by rw [Nat.zero_add]; exact List.getElem?_eq_getElem hi) (fun i hi ho => by rw [d.enc.len] at ho; omega)
 rw [Nat.add_zero] at hp
 have hz := wSeq_size (d.enc.cells (y, s)) w b (o + j * d.enc.sz)
 have hset : rs.set j (y, s) = rs.take j ++ ((y, s) :: rs.drop (j + 1)) := by rw [List.set_eq_take_append_cons_drop, if_pos hjr]
 refine ⟨[b] ++ (F1 ++ (Fy ++ F3)), ⟨rs.set j (y, s), [b], F1 ++ (Fy ++ F3), ?_, ⟨?_, ?_, fun g hg i => ?_⟩, ?_, rfl, ?_⟩, ?_, by simp, by simp⟩
 ·rw [List.map_set, hm]
 ·rw [hz]; exact hp
 ·have := hh.2.1
  rw [List.length_set]
  exact this
 ·rw [wSeq_frozen]; simp only [List.mem_singleton] at hg; subst hg; exact hf i
 ·rw [hset]
  refine (h1.chg hc (fun x hx hxb => ?_)).append (.cons (d.ow_chg hy hc (fun x hx hxb => ?_)) (h4.chg hc (fun x hx hxb => ?_)))
  ·simp only [List.mem_singleton] at hxb; subst hxb; exact hbn (List.mem_append_left _ hx)
  ·simp only [List.mem_singleton] at hxb; subst hxb; exact hby hx
  ·simp only [List.mem_singleton] at hxb; subst hxb; exact hbn (List.mem_append_right _ (List.mem_append_right _ hx))
 ·have hyN := d.ow_nodup hy
  rw [List.singleton_append, List.nodup_cons]
  refine ⟨fun hx => ?_, ?_⟩
  ·simp only [List.mem_append] at hx
   rcases hx with hx | hx | hx
   ·exact hbn (by simp [hx])
   ·exact hby hx
   ·exact hbn (by simp [hx])
  ·rw [List.nodup_append] at hnG ⊢
   obtain ⟨n1, n2, n3⟩ := hnG
   rw [List.nodup_append] at n2
   obtain ⟨m1, m2, m3⟩ := n2
   refine ⟨n1, ?_, fun a ha c hc => ?_⟩
   ·rw [List.nodup_append]
    exact ⟨hyN, m2, fun a ha c hc e => hd a ha (by subst e; simp [hc])⟩
   ·rcases List.mem_append.1 hc with hc | hc
    ·exact fun e => hd c hc (by subst e; simp [ha])
    ·exact n3 a ha c (List.mem_append_right _ hc)
 ·intro x hx
  simp only [List.mem_append, List.mem_singleton] at hx ⊢
  rcases hx with hx | hx | hx | hx
  ·exact .inl (.inl hx)
  ·exact .inl (.inr (.inl hx))
  ·exact .inr hx
  ·exact .inl (.inr (.inr (.inr hx)))
end Go.Proofs.Ytonlnjdempbfoaa
end
section
namespace Go.Proofs.Ytonlnjdempbfoaa
open Go.RowKit
set_option maxRecDepth 100000
set_option maxHeartbeats 4000000
set_option linter.unusedVariables false
set_option linter.unusedSimpArgs false
theorem OwL.grown {α : Type} {d : Dt α} {w w' : World} {F : List Nat} {v : Value} {l : List α} {row : Option Nat} (h : OwL d w F v l) (hg : w.grownBy w' row) (hd : ∀ b ∈ F, row ≠ some b) : OwL d w' F v l :=
 h.keep hg.size fun b hb => hg.block b (h.lt b hb) (fun e => hd b hb e.symm)
/-- a copy of a yard, and that one may append to its runs -/
def CopyYPost (y : Yard) (w : World) (e : Ending) (w' : World) : Prop :=
 ∃ (s1 s2 : Sl) (F1 : List Nat) (base : Nat), e = .returned (yardW y (s1, s2)) ∧ OwL (Dt.list entryD) w' F1 s1.v y.shelf ∧ (∀ b ∈ F1, w.heap.size ≤ b ∧ b < base) ∧ w.heap.size + 1 < base ∧ base ≤ w'.heap.size ∧ Bls runD 98 w' base s2.v y.runs ∧ Below w.heap.size w w'
theorem CopyYPost.own {y : Yard} {w w' : World} {e : Ending} (h : CopyYPost y w e w') : OwnPost yardD yardW y w e w' := by
 obtain ⟨s1, s2, F1, base, rfl, h1, h2, h3, _, ⟨rs, hm, hB⟩, h4⟩ := h
 obtain ⟨F2, h5, h6⟩ := hB.owl hm
 refine ⟨(s1, s2), F1 ++ F2, rfl, ⟨F1, F2, rfl, ?_, h1, h5⟩, fun b hb => ?_, h4⟩
 ·rw [List.nodup_append]
  refine ⟨h1.nodup, h5.nodup, fun u hu u' hu' e => ?_⟩
  have := h2 u hu
  have := h6 u' hu'
  omega
 ·rcases List.mem_append.1 hb with hb | hb
  ·exact (h2 b hb).1
  ·have := h6 b hb; omega
theorem Bls.below {α : Type} {d : Dt α} {E : TypeId} {w w' : World} {base : Nat} {v : Value} {l : List α} (h : Bls d E w base v l) (hb : Below w.heap.size w w') : Bls d E w' base v l := by
 obtain ⟨rs, hm, hB⟩ := h
 exact ⟨rs, hm, hB.below hb⟩
theorem Bls.setOther {α : Type} {d : Dt α} {E : TypeId} {w : World} {base : Nat} {v : Value} {l : List α} (h : Bls d E w base v l) {a : Addr} (ha : a.block < base) (u : Value) : Bls d E (w.setCell a u) base v l := by
 obtain ⟨rs, hm, hB⟩ := h
 exact ⟨rs, hm, hB.setOther ha u⟩
theorem specCopyYard_bls (y : Yard) (s : Sl × Sl) (w : World) (hl : cntYard y ≤ 2000000) (h : yardD.rd w w.heap.size y s) :
  Calls Try.prog 46 #[yardW y s] w (CopyYPost y w) := by
 obtain ⟨⟨A1, n1, c1⟩, ⟨A2, n2, c2⟩⟩ := s
 obtain rfl : n1 = y.shelf.length := RdL.at1 (s := ⟨A1, n1, c1⟩) h.1
 obtain rfl : n2 = y.runs.length := RdL.at1 (s := ⟨A2, n2, c2⟩) h.2
 have h1 : RdL (Dt.list entryD) w w.heap.size (.slice A1 y.shelf.length c1) y.shelf := h.1
 have h2 : RdL runD w w.heap.size (.slice A2 y.runs.length c2) y.runs := h.2
 have hll : y.runs.length ≤ 2000000 := Nat.le_trans (cntL_len cntRun _) (by unfold cntYard at hl; omega)
 have hls : y.shelf.length ≤ 2000000 := Nat.le_trans (cntL_len cntEntryS _) (by unfold cntYard at hl; omega)
 have HE := Lib.hid (show ∀ k (hk : k < y.shelf.length), y.shelf[k].length ≤ 2000000 from fun k hk => by
  have := cntL_mem (cnt := cntEntryS) (List.getElem_mem hk)
  have h2 : y.shelf[k].length ≤ cntEntryS y.shelf[k] := cntL_len cntEntry _
  unfold cntYard at hl
  omega)
 have HC := Lib.hid (show ∀ k (hk : k < y.runs.length), cntRun y.runs[k] ≤ 2000000 from fun k hk => by
  have := cntL_mem (cnt := cntRun) (List.getElem_mem hk)
  unfold cntYard at hl
  omega)
 clear h
 have X := ((DBox.new 61 [.int .i64 y.now, .int .i64 y.seq, .slice A1 y.shelf.length c1, .slice A2 y.runs.length c2] w (b := w.heap.size) rfl).below ((Below.refl _ _).alloc (Nat.le_refl _) (.cells #[.int .i64 0, .int .i64 0, .slice none 0 0, .slice none 0 0] 61))).below ((Below.refl _ _).alloc (Nat.le_refl _) (.cells #[.int .i64 y.now, .int .i64 y.seq, .slice none 0 0, .slice none 0 0] 61))
 have Z := (DBox.new 61 [.int .i64 0, .int .i64 0, .slice none 0 0, .slice none 0 0] (w.alloc (.cells #[.int .i64 y.now, .int .i64 y.seq, .slice A1 y.shelf.length c1, .slice A2 y.runs.length c2] 61)) (b := w.heap.size + 1) (by simp)).below ((Below.refl _ _).alloc (Nat.le_refl _) (.cells #[.int .i64 y.now, .int .i64 y.seq, .slice none 0 0, .slice none 0 0] 61))
 have O := DBox.new 61 [.int .i64 y.now, .int .i64 y.seq, .slice none 0 0, .slice none 0 0] ((w.alloc (.cells #[.int .i64 y.now, .int .i64 y.seq, .slice A1 y.shelf.length c1, .slice A2 y.runs.length c2] 61)).alloc (.cells #[.int .i64 0, .int .i64 0, .slice none 0 0, .slice none 0 0] 61)) (b := w.heap.size + 1 + 1) (by simp)
 have B0 : Below w.heap.size w (((w.alloc (.cells #[.int .i64 y.now, .int .i64 y.seq, .slice A1 y.shelf.length c1, .slice A2 y.runs.length c2] 61)).alloc (.cells #[.int .i64 0, .int .i64 0, .slice none 0 0, .slice none 0 0] 61)).alloc (.cells #[.int .i64 y.now, .int .i64 y.seq, .slice none 0 0, .slice none 0 0] 61)) := by repeat (first | exact Below.refl _ _ | refine Below.alloc ?_ (by simp <;> omega) _)
 obtain ⟨i0, hi0, hz0, hz1, hz2⟩ := info_parts entryS_infoD
 obtain ⟨e0, he0, ez0, ez1, ez2⟩ := info_parts entE_info
 obtain ⟨j0, hj0, jz0, jz1, jz2⟩ := info_parts run_infoD
 go_enter Try.func46, Try.ntmps46
 go_wp2
 generalize (((w.alloc (.cells #[.int .i64 y.now, .int .i64 y.seq, .slice A1 y.shelf.length c1, .slice A2 y.runs.length c2] 61)).alloc (.cells #[.int .i64 0, .int .i64 0, .slice none 0 0, .slice none 0 0] 61)).alloc (.cells #[.int .i64 y.now, .int .i64 y.seq, .slice none 0 0, .slice none 0 0] 61)) = W at *
 have hW3 : w.heap.size + 3 ≤ W.heap.size := O.lt
 go_loopw [4] (fun i wr => ∃ (k : Nat) (v : Value), k ≤ y.shelf.length ∧ i = .int .i64 k ∧ Hid (Bls (Dt.list entryD) 77 wr (w.heap.size + 3) v (y.shelf.take k)) ∧ DBox w.heap.size [.int .i64 y.now, .int .i64 y.seq, .slice A1 y.shelf.length c1, .slice A2 y.runs.length c2] wr ∧ DBox (w.heap.size + 1) [.int .i64 0, .int .i64 0, .slice none 0 0, .slice none 0 0] wr ∧ DBox (w.heap.size + 1 + 1) [.int .i64 y.now, .int .i64 y.seq, v, .slice none 0 0] wr ∧ Below w.heap.size w wr ∧ w.heap.size + 3 ≤ wr.heap.size) (fun i _ => y.shelf.length - (intOf i).toNat)
 case atStart => exact ⟨0, _, Nat.zero_le _, rfl, ⟨[], rfl, Bld.nil _ _ _ _⟩, X, Z, O, B0, hW3⟩
 case round =>
  clear X Z O B0 hW3
  obtain ⟨k, v, hk, rfl, hB0, X, Z, O, hb, hsz⟩ := hrel
  obtain ⟨X_0, X_1, X_2, X_3, X_l⟩ := X.g4
  obtain ⟨O_0, O_1, O_2, O_3, O_l⟩ := O.g4
  have O_f := O.free
  by_cases hlt : k < y.shelf.length
  ·have hltI : (k : Int) < (y.shelf.length : Int) := by omega
   obtain ⟨b, o, ⟨As, ns, cs⟩, hA1, hbb, hr, d0⟩ := (h1.below hb).entryS hlt
   obtain rfl : ns = y.shelf[k].length := RdL.at1 (s := ⟨As, ns, cs⟩) hr
   subst hA1
   have hs1 : b < wr.heap.size := Nat.lt_of_lt_of_le hbb hb.size
   have hez := HE.out k hlt
   obtain ⟨rs, hm, hB⟩ := hB0.out
   have hrl : rs.length = k := by have := congrArg List.length hm; simpa [Nat.min_eq_left hk] using this
   have hrl' : rs.length ≤ 2000000 := by omega
   have Hrl := Lib.hid hrl
   clear hrl
   have hO := hB.ow
   have hne : v.ownBlock ≠ some (w.heap.size + 1 + 1) := fun e => by have := hO.within _ e; omega
   have hrr := Lib.hid (show ∀ W, Below wr.heap.size wr W → RdL entryD W W.heap.size (Sl.v ⟨As, y.shelf[k].length, cs⟩) y.shelf[k] from fun W hW => RdL.more (RdL.below (RdL.more hr hb.size) hW) hW.size)
   go_wp2
   refine wp_region_last (fun w' => w'.cell? ⟨w.heap.size + 1 + 1, 2, none⟩ = some v ∧ w'.cell? ⟨w.heap.size, 2, none⟩ = some (.slice (some ⟨b, o, none⟩) y.shelf.length c1) ∧ w'.cell? ⟨b, o + k, none⟩ = some (.slice As y.shelf[k].length cs)) 12 (by kernel_rfl) ?_ (fun hHeld => ?_)
   ·exact ⟨by simpa [go_sem] using O_2, by simpa [go_sem] using X_2, by simpa [go_sem] using d0⟩
   refine aT 0 hHeld ?_
   try simp only [pS]
   refine aT 1 hHeld ?_
   try simp only [pS]
   refine aT 3 hHeld ?_
   try simp only [pS]
   refine aT 4 hHeld ?_
   try simp only [pS]
   refine aT 5 hHeld ?_
   try simp only [pS]
   refine aT 6 hHeld ?_
   try simp only [pS]
   refine aT 7 hHeld ?_
   try simp only [pS]
   refine oT 2 (fun K hK => ?_)
   go_simp
   refine hK.out _ _ (fun _ => ?_) ?_
   ·(refine ⟨?_, ?_, ?_⟩ <;> first | assumption | go_keep)
   clear hK K
   try simp only [pS]
   refine oT 8 (fun K hK => ?_)
   (refine step_push_all _ entE (by decide) (by rfl) (.tmp 20) (.tmp 25) (by rfl) Try.underlying77 he0 ez0 ez1 ez2 (by rfl) (v := .slice (some ⟨wr.heap.size, 0, none⟩) 0 0) (l := []) (by rfl) (Ow.empty entE 116 wr.drew (g := wr.heap.size) (by simp)) (by rfl) (ent_rd (hrr.out _ ((Below.refl wr.heap.size wr).drew.alloc (by simp) _))) (by simp) (by omega) (by decide) (by simp) ?_; intro v2 w2 o2' g2 f2; rw [List.nil_append] at o2'; have B12 : Below wr.heap.size wr w2 := (((Below.refl wr.heap.size wr).drew.alloc (by simp) _).grown g2 (by simp) (fun g hg => by simp [Value.ownBlock] at hg; omega)); obtain ⟨s2, F2, rfl, o2, n2⟩ := entry_ow o2'; have O2 := O.below B12; have X2 := X.below B12; have k0 : w2.cell? ⟨w.heap.size + 1 + 1, 2, none⟩ = some v := O2.cell 2 _ rfl; have k1 : w2.cell? ⟨w.heap.size, 2, none⟩ = some (.slice (some ⟨b, o, none⟩) y.shelf.length c1) := X2.cell 2 _ rfl; have k2 : w2.cell? ⟨b, o + k, none⟩ = some (.slice As y.shelf[k].length cs) := (B12.cell (p := ⟨b, o + k, none⟩) hs1).trans d0; have z2 := B12.size; have d2f := O2.free; have d2l := O2.lt)
   refine hK.out _ _ (fun _ => ?_) ?_
   ·exact ⟨k0, k1, k2⟩
   clear hK K
   try simp only [pS]
   refine oT 9 (fun K hK => ?_)
   go_simp
   refine hK.out _ _ (fun _ => ?_) ?_
   ·(refine ⟨?_, ?_, ?_⟩ <;> first | assumption | go_keep)
   clear hK K
   try simp only [pS]
   refine oT 10 (fun K hK => ?_)
   (refine step_push_all _ (Dt.list entryD).enc (by decide) (by rfl) (.tmp 19) (.tmp 27) (by rfl) Try.underlying58 hi0 hz0 hz1 hz2 (by rfl) (v := v) (l := rs) (by rfl) (hO.below (B12.alloc (by omega) _)) (by rfl) (Rd.one (Dt.list entryD).enc _ _ (y.shelf[k], s2) (by simp) rfl 1 (Nat.le_refl _) (Nat.lt_succ_self _)) (by omega) (by simp) (by decide) (by (try simp only [World.size_alloc]); omega) ?_; intro v5 w5 o5 g5 f5; obtain ⟨A5, c5, rfl, -⟩ := id (Rd.of_own o5); simp only [List.length_append, List.length_singleton] at o5 f5; have ha5 := (Below.refl w2.heap.size w2).alloc (Nat.le_refl _) (.cells #[.slice s2.a s2.n s2.c] 77); have O5 := (O2.below ha5).off g5 (fun e => hne e.symm); have m0 : w5.cell? ⟨w.heap.size + 1 + 1, 2, none⟩ = some v := O5.cell 2 _ rfl; have X5 := (X2.below ha5).off g5 (fun e => by have := hO.within _ e.symm; omega); have m1 : w5.cell? ⟨w.heap.size, 2, none⟩ = some (.slice (some ⟨b, o, none⟩) y.shelf.length c1) := X5.cell 2 _ rfl; have m2 : w5.cell? ⟨b, o + k, none⟩ = some (.slice As y.shelf[k].length cs) := (g5.cell_far ⟨b, o + k, none⟩ (by simp; omega) (fun e => by have : _ ≤ b ∧ b < _ := hO.within _ e.symm; omega)).trans ((ha5.cell (p := ⟨b, o + k, none⟩) (by show b < _; omega)).trans k2); have fO := O5.free; have lO := O5.lt)
   refine hK.out _ _ (fun _ => ?_) ?_
   ·exact ⟨m0, m1, m2⟩
   clear hK K
   try simp only [pS]
   refine oT 11 (fun K hK => ?_)
   go_simp
   refine hK.out _ _ (fun _ => ?_) ?_
   ·exact ⟨m0, m1, m2⟩
   clear hK K
   try simp only [pS]
   refine oT 12 (fun K hK => ?_)
   go_simp
   refine hK.out _ _ (fun hne => absurd rfl hne) ?_
   clear hK K
   try simp only [pS]
   refine wpAnyL_done (by kernel_rfl) ?_ _
   go_wp2
   have Z5 := ((Z.below B12).below ha5).off g5 (fun e => by have := hO.within _ e.symm; omega)
   have hP := Bld.push1 (d := Dt.list entryD) hB B12 o2 (fun b hb' => by have := n2 b hb'; omega) hsz ha5 o5 g5 f5
   have W5 := ((hb.trans (B12.mono hb.size)).alloc (by omega) (.cells #[.slice s2.a s2.n s2.c] 77)).grown g5 (by (try simp only [World.size_alloc]); omega) (fun g hg => by have := hO.within g hg; omega)
   have S : Hid (Bls (Dt.list entryD) 77 (w5.setCell ⟨w.heap.size + 1 + 1, 2, none⟩ (.slice A5 (rs.length + 1) c5)) (w.heap.size + 3) (.slice A5 (rs.length + 1) c5) (y.shelf.take (k + 1))) := ⟨rs ++ [(y.shelf[k], s2)], by rw [List.map_append, hm, take_snoc y.shelf k hlt]; rfl, hP.setOther (a := ⟨w.heap.size + 1 + 1, 2, none⟩) (by show w.heap.size + 1 + 1 < _; omega) _⟩
   have g5s := g5.size
   simp only [World.size_alloc] at g5s
   have SX := X5.setOther (a := ⟨w.heap.size + 1 + 1, 2, none⟩) (by show w.heap.size ≠ w.heap.size + 1 + 1; omega) (.slice A5 (rs.length + 1) c5)
   have SZ := Z5.setOther (a := ⟨w.heap.size + 1 + 1, 2, none⟩) (by show w.heap.size + 1 ≠ w.heap.size + 1 + 1; omega) (.slice A5 (rs.length + 1) c5)
   have SO : DBox (w.heap.size + 1 + 1) [.int .i64 y.now, .int .i64 y.seq, .slice A5 (rs.length + 1) c5, .slice none 0 0] (w5.setCell ⟨w.heap.size + 1 + 1, 2, none⟩ (.slice A5 (rs.length + 1) c5)) := O5.set 2 (by simp) _
   have SW : Below w.heap.size w (w5.setCell ⟨w.heap.size + 1 + 1, 2, none⟩ (.slice A5 (rs.length + 1) c5)) := W5.setCell (by show w.heap.size ≤ w.heap.size + 1 + 1; omega) _
   have SS : w.heap.size + 3 ≤ (w5.setCell ⟨w.heap.size + 1 + 1, 2, none⟩ (.slice A5 (rs.length + 1) c5)).heap.size := by simp [World.setCell]; omega
   first
    | exact ⟨⟨k + 1, by omega, by simp, .slice A5 (rs.length + 1) c5, S, SX, SZ, SO, SW, by simpa using SS⟩, by simp [intOf]; omega⟩
    | exact ⟨⟨k + 1, .slice A5 (rs.length + 1) c5, by omega, by go_num, S, SX, SZ, SO, SW, SS⟩, by simp [intOf]; omega⟩
    | (refine ⟨?_, by simp [intOf]; omega⟩; (repeat apply Exists.intro); first | exact ⟨⟨k + 1, .slice A5 (rs.length + 1) c5, by omega, by go_num, S, SX, SZ, SO, SW, SS⟩, rfl⟩ | exact ⟨⟨k + 1, .slice A5 (rs.length + 1) c5, by omega, by go_num, S, SX, SZ, SO, SW, SS⟩, rfl, rfl⟩ | exact ⟨⟨k + 1, .slice A5 (rs.length + 1) c5, by omega, by go_num, S, SX, SZ, SO, SW, SS⟩, rfl, rfl, rfl⟩ | exact ⟨⟨k + 1, .slice A5 (rs.length + 1) c5, by omega, by go_num, S, SX, SZ, SO, SW, SS⟩, rfl, rfl, rfl, rfl⟩ | exact ⟨⟨k + 1, .slice A5 (rs.length + 1) c5, by omega, by go_num, S, SX, SZ, SO, SW, SS⟩, rfl, rfl, rfl, rfl, rfl⟩ | exact ⟨⟨k + 1, .slice A5 (rs.length + 1) c5, by omega, by go_num, S, SX, SZ, SO, SW, SS⟩, rfl, rfl, rfl, rfl, rfl, rfl⟩ | exact ⟨⟨k + 1, .slice A5 (rs.length + 1) c5, by omega, by go_num, S, SX, SZ, SO, SW, SS⟩, rfl, rfl, rfl, rfl, rfl, rfl, rfl⟩ | exact ⟨⟨k + 1, .slice A5 (rs.length + 1) c5, by omega, by go_num, S, SX, SZ, SO, SW, SS⟩, rfl, rfl, rfl, rfl, rfl, rfl, rfl, rfl⟩ | exact ⟨⟨k + 1, .slice A5 (rs.length + 1) c5, by omega, by go_num, S, SX, SZ, SO, SW, SS⟩, rfl, rfl, rfl, rfl, rfl, rfl, rfl, rfl, rfl⟩ | exact ⟨⟨k + 1, .slice A5 (rs.length + 1) c5, by omega, by go_num, S, SX, SZ, SO, SW, SS⟩, rfl, rfl, rfl, rfl, rfl, rfl, rfl, rfl, rfl, rfl⟩ | exact ⟨⟨k + 1, .slice A5 (rs.length + 1) c5, by omega, by go_num, S, SX, SZ, SO, SW, SS⟩, rfl, rfl, rfl, rfl, rfl, rfl, rfl, rfl, rfl, rfl, rfl⟩ | exact ⟨⟨k + 1, .slice A5 (rs.length + 1) c5, by omega, by go_num, S, SX, SZ, SO, SW, SS⟩, rfl, rfl, rfl, rfl, rfl, rfl, rfl, rfl, rfl, rfl, rfl, rfl⟩ | exact ⟨⟨k + 1, .slice A5 (rs.length + 1) c5, by omega, by go_num, S, SX, SZ, SO, SW, SS⟩, rfl, rfl, rfl, rfl, rfl, rfl, rfl, rfl, rfl, rfl, rfl, rfl, rfl⟩)
  ·have hltI : ¬ (k : Int) < (y.shelf.length : Int) := by omega
   have hk' : k = y.shelf.length := by omega
   obtain ⟨F1, ⟨⟨A9, n9, c9⟩, rfl, OS⟩, nS⟩ : ∃ F1, (∃ s : Sl, v = .slice s.a s.n s.c ∧ OwL (Dt.list entryD) wr F1 s.v y.shelf) ∧ ∀ b ∈ F1, w.heap.size + 3 ≤ b := by
    obtain ⟨rs, hm, hB⟩ := hB0.out
    rw [hk', List.take_length] at hm
    obtain ⟨F, h1, h2⟩ := hB.owl hm
    obtain ⟨A, c, rfl, _⟩ := h1.form
    exact ⟨F, ⟨⟨A, y.shelf.length, c⟩, rfl, h1⟩, h2⟩
   go_wp2
   clear X_0 X_1 X_2 X_3 X_l O_0 O_1 O_2 O_3 O_l O_f hlt hltI hk' hk hB0
   obtain ⟨ws, hws⟩ : ∃ ws, ws = wr := ⟨_, rfl⟩
   rw [← hws] at hb X Z O OS hsz ⊢
   clear hws
   have lS : ∀ b ∈ F1, b < ws.heap.size := OS.lt
   have hsw3 : w.heap.size + 3 ≤ ws.heap.size := hsz
   go_loopw [5] (fun i wr => ∃ (k : Nat) (v : Value), k ≤ y.runs.length ∧ i = .int .i64 k ∧ Hid (Bls runD 98 wr ws.heap.size v (y.runs.take k)) ∧ Hid (OwL (Dt.list entryD) wr F1 (.slice A9 n9 c9) y.shelf) ∧ DBox w.heap.size [.int .i64 y.now, .int .i64 y.seq, .slice A1 y.shelf.length c1, .slice A2 y.runs.length c2] wr ∧ DBox (w.heap.size + 1) [.int .i64 0, .int .i64 0, .slice none 0 0, .slice none 0 0] wr ∧ DBox (w.heap.size + 1 + 1) [.int .i64 y.now, .int .i64 y.seq, .slice A9 n9 c9, v] wr ∧ Below w.heap.size w wr ∧ ws.heap.size ≤ wr.heap.size) (fun i _ => y.runs.length - (intOf i).toNat)
   case atStart => exact ⟨0, _, Nat.zero_le _, rfl, ⟨[], rfl, Bld.nil _ _ _ _⟩, OS, X, Z, O, hb, Nat.le_refl _⟩
   case round =>
    clear X Z O hb OS
    obtain ⟨k, v, hk, rfl, hB0, OS, X, Z, O, hb, hsw⟩ := hrel
    obtain ⟨X_0, X_1, X_2, X_3, X_l⟩ := X.g4
    obtain ⟨O_0, O_1, O_2, O_3, O_l⟩ := O.g4
    have O_f := O.free
    by_cases hlt : k < y.runs.length
    ·have hltI : (k : Int) < (y.runs.length : Int) := by omega
     obtain ⟨b, o, ⟨⟨A8, n8, c8⟩, ⟨At, nt, ct⟩⟩, hA2, hbb, hrr, e0, e1, e2, e3, e4, e5, e6, e7⟩ := (h2.below hb).run hlt
     subst hA2
     have hs1 : b < wr.heap.size := Nat.lt_of_lt_of_le hbb hb.size
     have HRr := Lib.hid (show ∀ W, Below wr.heap.size wr W → runD.rd W W.heap.size y.runs[k] (⟨A8, n8, c8⟩, ⟨At, nt, ct⟩) from fun W hW => runD.rd_more (runD.rd_below (runD.rd_more hrr hb.size) hW) hW.size)
     have hcr := HC.out k hlt
     obtain ⟨rs, hm, hB⟩ := hB0.out
     have hrl : rs.length = k := by have := congrArg List.length hm; simpa [Nat.min_eq_left hk] using this
     have hrl' : rs.length ≤ 2000000 := by omega
     have Hrl := Lib.hid hrl
     clear hrl
     have hO := hB.ow
     have hne : v.ownBlock ≠ some (w.heap.size + 1 + 1) := fun e => by have := hO.within _ e; omega
     go_wp2
     refine wp_region_last (fun w' => w'.cell? ⟨w.heap.size + 1 + 1, 3, none⟩ = some v ∧ w'.cell? ⟨w.heap.size, 3, none⟩ = some (.slice (some ⟨b, o, none⟩) y.runs.length c2) ∧ w'.cell? ⟨b, o + k * 8, none⟩ = some (.int .i64 y.runs[k].id) ∧ w'.cell? ⟨b, o + k * 8 + 1, none⟩ = some (.int .i64 y.runs[k].plan.prio) ∧ w'.cell? ⟨b, o + k * 8 + 2, none⟩ = some (.int .i64 y.runs[k].plan.most) ∧ w'.cell? ⟨b, o + k * 8 + 3, none⟩ = some (.int .i64 y.runs[k].plan.wait) ∧ w'.cell? ⟨b, o + k * 8 + 4, none⟩ = some (.int .i64 y.runs[k].plan.tasks) ∧ w'.cell? ⟨b, o + k * 8 + 5, none⟩ = some (.slice A8 n8 c8) ∧ w'.cell? ⟨b, o + k * 8 + 6, none⟩ = some (.int .i64 y.runs[k].state) ∧ w'.cell? ⟨b, o + k * 8 + 7, none⟩ = some (.slice At nt ct)) 11 (by kernel_rfl) ?_ (fun hHeld => ?_)
     ·exact ⟨by simpa [go_sem] using O_3, by simpa [go_sem] using X_3, by simpa [go_sem] using e0, by simpa [go_sem] using e1, by simpa [go_sem] using e2, by simpa [go_sem] using e3, by simpa [go_sem] using e4, by simpa [go_sem] using e5, by simpa [go_sem] using e6, by simpa [go_sem] using e7⟩
     refine aT 0 hHeld ?_
     try simp only [pS]
     refine aT 1 hHeld ?_
     try simp only [pS]
     refine aT 2 hHeld ?_
     try simp only [pS]
     refine aT 3 hHeld ?_
     try simp only [pS]
     refine aT 4 hHeld ?_
     try simp only [pS]
     refine aT 5 hHeld ?_
     try simp only [pS]
     refine aT 6 hHeld ?_
     try simp only [pS]
     refine oT 7 (fun K hK => ?_)
     (go_simp; refine (specCopyRun_own y.runs[k] (⟨A8, n8, c8⟩, ⟨At, nt, ct⟩) _ hcr (HRr.out _ (Below.refl _ _).drew)).mono ?_; rintro e w2 ⟨s2, F2, rfl, o2, n2, b2⟩; have B12 := bnext ((Below.refl wr.heap.size wr).drew) b2; have z2 := B12.size; simp only [World.size_drew] at n2; have O2 := O.below B12; have k0 : w2.cell? ⟨w.heap.size + 1 + 1, 3, none⟩ = some v := O2.cell 3 _ rfl; have X2 := X.below B12; have k1 : w2.cell? ⟨w.heap.size, 3, none⟩ = some (.slice (some ⟨b, o, none⟩) y.runs.length c2) := X2.cell 3 _ rfl; have q0 : w2.cell? ⟨b, o + k * 8, none⟩ = some (.int .i64 y.runs[k].id) := (B12.cell (p := ⟨b, o + k * 8, none⟩) hs1).trans e0; have q1 : w2.cell? ⟨b, o + k * 8 + 1, none⟩ = some (.int .i64 y.runs[k].plan.prio) := (B12.cell (p := ⟨b, o + k * 8 + 1, none⟩) hs1).trans e1; have q2 : w2.cell? ⟨b, o + k * 8 + 2, none⟩ = some (.int .i64 y.runs[k].plan.most) := (B12.cell (p := ⟨b, o + k * 8 + 2, none⟩) hs1).trans e2; have q3 : w2.cell? ⟨b, o + k * 8 + 3, none⟩ = some (.int .i64 y.runs[k].plan.wait) := (B12.cell (p := ⟨b, o + k * 8 + 3, none⟩) hs1).trans e3; have q4 : w2.cell? ⟨b, o + k * 8 + 4, none⟩ = some (.int .i64 y.runs[k].plan.tasks) := (B12.cell (p := ⟨b, o + k * 8 + 4, none⟩) hs1).trans e4; have q5 : w2.cell? ⟨b, o + k * 8 + 5, none⟩ = some (.slice A8 n8 c8) := (B12.cell (p := ⟨b, o + k * 8 + 5, none⟩) hs1).trans e5; have q6 : w2.cell? ⟨b, o + k * 8 + 6, none⟩ = some (.int .i64 y.runs[k].state) := (B12.cell (p := ⟨b, o + k * 8 + 6, none⟩) hs1).trans e6; have q7 : w2.cell? ⟨b, o + k * 8 + 7, none⟩ = some (.slice At nt ct) := (B12.cell (p := ⟨b, o + k * 8 + 7, none⟩) hs1).trans e7; have d2f := O2.free; have d2l := O2.lt; go_simp)
     refine hK.out _ _ (fun _ => ?_) ?_
     ·exact ⟨k0, k1, q0, q1, q2, q3, q4, q5, q6, q7⟩
     clear hK K
     try simp only [pS]
     refine oT 8 (fun K hK => ?_)
     go_simp
     refine hK.out _ _ (fun _ => ?_) ?_
     ·(refine ⟨?_, ?_, ?_, ?_, ?_, ?_, ?_, ?_, ?_, ?_⟩ <;> first | assumption | go_keep)
     clear hK K
     try simp only [pS]
     refine oT 9 (fun K hK => ?_)
     (refine step_push_all _ runD.enc (by decide) (by rfl) (.tmp 38) (.tmp 45) (by rfl) Try.underlying59 hj0 jz0 jz1 jz2 (by rfl) (v := v) (l := rs) (by rfl) (hO.below (B12.alloc (by omega) _)) (by rfl) (Rd.one runD.enc _ _ (y.runs[k], s2) (by simp) rfl 1 (Nat.le_refl _) (Nat.lt_succ_self _)) (by omega) (by simp) (by decide) (by (try simp only [World.size_alloc]); omega) ?_; intro v5 w5 o5 g5 f5; obtain ⟨A5, c5, rfl, -⟩ := id (Rd.of_own o5); simp only [List.length_append, List.length_singleton] at o5 f5; have ha5 := (Below.refl w2.heap.size w2).alloc (Nat.le_refl _) (.cells #[.int .i64 y.runs[k].id, .int .i64 y.runs[k].plan.prio, .int .i64 y.runs[k].plan.most, .int .i64 y.runs[k].plan.wait, .int .i64 y.runs[k].plan.tasks, .slice s2.1.a s2.1.n s2.1.c, .int .i64 y.runs[k].state, .slice s2.2.a s2.2.n s2.2.c] 98); have O5 := (O2.below ha5).off g5 (fun e => hne e.symm); have m0 : w5.cell? ⟨w.heap.size + 1 + 1, 3, none⟩ = some v := O5.cell 3 _ rfl; have X5 := (X2.below ha5).off g5 (fun e => by have := hO.within _ e.symm; omega); have m1 : w5.cell? ⟨w.heap.size, 3, none⟩ = some (.slice (some ⟨b, o, none⟩) y.runs.length c2) := X5.cell 3 _ rfl; have r0 : w5.cell? ⟨b, o + k * 8, none⟩ = some (.int .i64 y.runs[k].id) := (g5.cell_far ⟨b, o + k * 8, none⟩ (by simp; omega) (fun e => by have : _ ≤ b ∧ b < _ := hO.within _ e.symm; omega)).trans ((ha5.cell (p := ⟨b, o + k * 8, none⟩) (by show b < _; omega)).trans q0); have r1 : w5.cell? ⟨b, o + k * 8 + 1, none⟩ = some (.int .i64 y.runs[k].plan.prio) := (g5.cell_far ⟨b, o + k * 8 + 1, none⟩ (by simp; omega) (fun e => by have : _ ≤ b ∧ b < _ := hO.within _ e.symm; omega)).trans ((ha5.cell (p := ⟨b, o + k * 8 + 1, none⟩) (by show b < _; omega)).trans q1); have r2 : w5.cell? ⟨b, o + k * 8 + 2, none⟩ = some (.int .i64 y.runs[k].plan.most) := (g5.cell_far ⟨b, o + k * 8 + 2, none⟩ (by simp; omega) (fun e => by have : _ ≤ b ∧ b < _ := hO.within _ e.symm; omega)).trans ((ha5.cell (p := ⟨b, o + k * 8 + 2, none⟩) (by show b < _; omega)).trans q2); have r3 : w5.cell? ⟨b, o + k * 8 + 3, none⟩ = some (.int .i64 y.runs[k].plan.wait) := (g5.cell_far ⟨b, o + k * 8 + 3, none⟩ (by simp; omega) (fun e => by have : _ ≤ b ∧ b < _ := hO.within _ e.symm; omega)).trans ((ha5.cell (p := ⟨b, o + k * 8 + 3, none⟩) (by show b < _; omega)).trans q3); have r4 : w5.cell? ⟨b, o + k * 8 + 4, none⟩ = some (.int .i64 y.runs[k].plan.tasks) := (g5.cell_far ⟨b, o + k * 8 + 4, none⟩ (by simp; omega) (fun e => by have : _ ≤ b ∧ b < _ := hO.within _ e.symm; omega)).trans ((ha5.cell (p := ⟨b, o + k * 8 + 4, none⟩) (by show b < _; omega)).trans q4); have r5 : w5.cell? ⟨b, o + k * 8 + 5, none⟩ = some (.slice A8 n8 c8) := (g5.cell_far ⟨b, o + k * 8 + 5, none⟩ (by simp; omega) (fun e => by have : _ ≤ b ∧ b < _ := hO.within _ e.symm; omega)).trans ((ha5.cell (p := ⟨b, o + k * 8 + 5, none⟩) (by show b < _; omega)).trans q5); have r6 : w5.cell? ⟨b, o + k * 8 + 6, none⟩ = some (.int .i64 y.runs[k].state) := (g5.cell_far ⟨b, o + k * 8 + 6, none⟩ (by simp; omega) (fun e => by have : _ ≤ b ∧ b < _ := hO.within _ e.symm; omega)).trans ((ha5.cell (p := ⟨b, o + k * 8 + 6, none⟩) (by show b < _; omega)).trans q6); have r7 : w5.cell? ⟨b, o + k * 8 + 7, none⟩ = some (.slice At nt ct) := (g5.cell_far ⟨b, o + k * 8 + 7, none⟩ (by simp; omega) (fun e => by have : _ ≤ b ∧ b < _ := hO.within _ e.symm; omega)).trans ((ha5.cell (p := ⟨b, o + k * 8 + 7, none⟩) (by show b < _; omega)).trans q7); have fO := O5.free; have lO := O5.lt)
     refine hK.out _ _ (fun _ => ?_) ?_
     ·exact ⟨m0, m1, r0, r1, r2, r3, r4, r5, r6, r7⟩
     clear hK K
     try simp only [pS]
     refine oT 10 (fun K hK => ?_)
     go_simp
     refine hK.out _ _ (fun _ => ?_) ?_
     ·exact ⟨m0, m1, r0, r1, r2, r3, r4, r5, r6, r7⟩
     clear hK K
     try simp only [pS]
     refine oT 11 (fun K hK => ?_)
     go_simp
     refine hK.out _ _ (fun hne => absurd rfl hne) ?_
     clear hK K
     try simp only [pS]
     refine wpAnyL_done (by kernel_rfl) ?_ _
     go_wp2
     have Z5 := ((Z.below B12).below ha5).off g5 (fun e => by have := hO.within _ e.symm; omega)
     have OS5 := ((OS.out.below B12).below ha5).grown g5 (fun b hb' e => by have := hO.within _ e; have := lS b hb'; omega)
     have hP := Bld.push1 (d := runD) hB B12 o2 (fun b hb' => by have := n2 b hb'; omega) hsw ha5 o5 g5 f5
     have W5 := ((hb.trans (B12.mono hb.size)).alloc (by omega) (.cells #[.int .i64 y.runs[k].id, .int .i64 y.runs[k].plan.prio, .int .i64 y.runs[k].plan.most, .int .i64 y.runs[k].plan.wait, .int .i64 y.runs[k].plan.tasks, .slice s2.1.a s2.1.n s2.1.c, .int .i64 y.runs[k].state, .slice s2.2.a s2.2.n s2.2.c] 98)).grown g5 (by (try simp only [World.size_alloc]); omega) (fun g hg => by have := hO.within g hg; omega)
     have S : Hid (Bls runD 98 (w5.setCell ⟨w.heap.size + 1 + 1, 3, none⟩ (.slice A5 (rs.length + 1) c5)) ws.heap.size (.slice A5 (rs.length + 1) c5) (y.runs.take (k + 1))) := ⟨rs ++ [(y.runs[k], s2)], by rw [List.map_append, hm, take_snoc y.runs k hlt]; rfl, hP.setOther (a := ⟨w.heap.size + 1 + 1, 3, none⟩) (by show w.heap.size + 1 + 1 < _; omega) _⟩
     have S2 : Hid (OwL (Dt.list entryD) (w5.setCell ⟨w.heap.size + 1 + 1, 3, none⟩ (.slice A5 (rs.length + 1) c5)) F1 (.slice A9 n9 c9) y.shelf) := OwL.set OS5 (fun hm => by have : _ ≤ w.heap.size + 1 + 1 := nS _ hm; omega) _
     have g5s := g5.size
     simp only [World.size_alloc] at g5s
     have SX := X5.setOther (a := ⟨w.heap.size + 1 + 1, 3, none⟩) (by show w.heap.size ≠ w.heap.size + 1 + 1; omega) (.slice A5 (rs.length + 1) c5)
     have SZ := Z5.setOther (a := ⟨w.heap.size + 1 + 1, 3, none⟩) (by show w.heap.size + 1 ≠ w.heap.size + 1 + 1; omega) (.slice A5 (rs.length + 1) c5)
     have SO : DBox (w.heap.size + 1 + 1) [.int .i64 y.now, .int .i64 y.seq, .slice A9 n9 c9, .slice A5 (rs.length + 1) c5] (w5.setCell ⟨w.heap.size + 1 + 1, 3, none⟩ (.slice A5 (rs.length + 1) c5)) := O5.set 3 (by simp) _
     have SW : Below w.heap.size w (w5.setCell ⟨w.heap.size + 1 + 1, 3, none⟩ (.slice A5 (rs.length + 1) c5)) := W5.setCell (by show w.heap.size ≤ w.heap.size + 1 + 1; omega) _
     have SS : ws.heap.size ≤ (w5.setCell ⟨w.heap.size + 1 + 1, 3, none⟩ (.slice A5 (rs.length + 1) c5)).heap.size := by simp [World.setCell]; omega
     first
      | exact ⟨⟨k + 1, by omega, by simp, .slice A5 (rs.length + 1) c5, S, S2, SX, SZ, SO, SW, by simpa using SS⟩, by simp [intOf]; omega⟩
      | exact ⟨⟨k + 1, .slice A5 (rs.length + 1) c5, by omega, by go_num, S, S2, SX, SZ, SO, SW, SS⟩, by simp [intOf]; omega⟩
      | (refine ⟨?_, by simp [intOf]; omega⟩; (repeat apply Exists.intro); first | exact ⟨⟨k + 1, .slice A5 (rs.length + 1) c5, by omega, by go_num, S, S2, SX, SZ, SO, SW, SS⟩, rfl⟩ | exact ⟨⟨k + 1, .slice A5 (rs.length + 1) c5, by omega, by go_num, S, S2, SX, SZ, SO, SW, SS⟩, rfl, rfl⟩ | exact ⟨⟨k + 1, .slice A5 (rs.length + 1) c5, by omega, by go_num, S, S2, SX, SZ, SO, SW, SS⟩, rfl, rfl, rfl⟩ | exact ⟨⟨k + 1, .slice A5 (rs.length + 1) c5, by omega, by go_num, S, S2, SX, SZ, SO, SW, SS⟩, rfl, rfl, rfl, rfl⟩ | exact ⟨⟨k + 1, .slice A5 (rs.length + 1) c5, by omega, by go_num, S, S2, SX, SZ, SO, SW, SS⟩, rfl, rfl, rfl, rfl, rfl⟩ | exact ⟨⟨k + 1, .slice A5 (rs.length + 1) c5, by omega, by go_num, S, S2, SX, SZ, SO, SW, SS⟩, rfl, rfl, rfl, rfl, rfl, rfl⟩ | exact ⟨⟨k + 1, .slice A5 (rs.length + 1) c5, by omega, by go_num, S, S2, SX, SZ, SO, SW, SS⟩, rfl, rfl, rfl, rfl, rfl, rfl, rfl⟩ | exact ⟨⟨k + 1, .slice A5 (rs.length + 1) c5, by omega, by go_num, S, S2, SX, SZ, SO, SW, SS⟩, rfl, rfl, rfl, rfl, rfl, rfl, rfl, rfl⟩ | exact ⟨⟨k + 1, .slice A5 (rs.length + 1) c5, by omega, by go_num, S, S2, SX, SZ, SO, SW, SS⟩, rfl, rfl, rfl, rfl, rfl, rfl, rfl, rfl, rfl⟩ | exact ⟨⟨k + 1, .slice A5 (rs.length + 1) c5, by omega, by go_num, S, S2, SX, SZ, SO, SW, SS⟩, rfl, rfl, rfl, rfl, rfl, rfl, rfl, rfl, rfl, rfl⟩ | exact ⟨⟨k + 1, .slice A5 (rs.length + 1) c5, by omega, by go_num, S, S2, SX, SZ, SO, SW, SS⟩, rfl, rfl, rfl, rfl, rfl, rfl, rfl, rfl, rfl, rfl, rfl⟩ | exact ⟨⟨k + 1, .slice A5 (rs.length + 1) c5, by omega, by go_num, S, S2, SX, SZ, SO, SW, SS⟩, rfl, rfl, rfl, rfl, rfl, rfl, rfl, rfl, rfl, rfl, rfl, rfl⟩ | exact ⟨⟨k + 1, .slice A5 (rs.length + 1) c5, by omega, by go_num, S, S2, SX, SZ, SO, SW, SS⟩, rfl, rfl, rfl, rfl, rfl, rfl, rfl, rfl, rfl, rfl, rfl, rfl, rfl⟩)
    ·have hltI : ¬ (k : Int) < (y.runs.length : Int) := by omega
     have hk' : k = y.runs.length := by omega
     obtain ⟨⟨A10, n10, c10⟩, rfl, OR⟩ : ∃ s : Sl, v = .slice s.a s.n s.c ∧ Bls runD 98 wr ws.heap.size s.v y.runs := by
      obtain ⟨rs, hm, hB⟩ := hB0.out
      rw [hk', List.take_length] at hm
      obtain ⟨A, c, rfl, _⟩ := hB.rd.form
      exact ⟨⟨A, _, c⟩, rfl, rs, hm, hB⟩
     have hws3 := hsw3
     have Z_f := Z.free
     obtain ⟨Z_0, Z_1, Z_2, Z_3, Z_l⟩ := Z.g4
     go_wp2
     refine bodyPost_ret (v := yardW y (⟨A9, n9, c9⟩, ⟨A10, n10, c10⟩)) ?_ rfl ?_
     ·simp [yardW, results, Try.results46, go_sem, Z_0, Z_1, Z_2, Z_3]
     ·have OS1 := OS.out
      refine ⟨⟨A9, n9, c9⟩, ⟨A10, n10, c10⟩, F1, ws.heap.size, rfl, ?_, fun b hb' => ⟨by have := nS b hb'; omega, lS b hb'⟩, by omega, ?_, ?_, ?_⟩
      ·have hn : w.heap.size + 1 ∉ F1 := fun hm => by have := nS _ hm; omega
       show OwL (Dt.list entryD) _ F1 (.slice A9 n9 c9) y.shelf
       repeat (first | (with_reducible exact OS1) | refine OwL.set ?_ hn _)
      ·simp [World.setCell]; exact hsw
      ·repeat (first | (with_reducible exact OR) | refine Bls.setOther ?_ (by show w.heap.size + 1 < ws.heap.size; omega) _)
      ·repeat (first | (with_reducible exact hb) | refine Below.setCell ?_ (by first | (simp; done) | (simp; omega)) _)
theorem specCopyYard_own (y : Yard) (s : Sl × Sl) (w : World) (hl : cntYard y ≤ 2000000) (h : yardD.rd w w.heap.size y s) :
  Calls Try.prog 46 #[yardW y s] w (OwnPost yardD yardW y w) := (specCopyYard_bls y s w hl h).mono fun _ _ h => h.own
end Go.Proofs.Ytonlnjdempbfoaa
end
section
namespace Go.Proofs.Ytonlnjdempbfoaa
open Go.RowKit
set_option maxRecDepth 100000
set_option maxHeartbeats 2000000
set_option linter.unusedVariables false
set_option linter.unusedSimpArgs false
def numB (n : Int) : Bool := inB n 0 1000000000
def planNums (p : Plan) : Bool := numB p.prio && numB p.most && numB p.wait && numB p.tasks && decide (p.edges.length ≤ 31) && p.edges.all fun e => numB e.fr && numB e.to
def planNone (p : Plan) : Bool := p.prio == 0 && p.most == 0 && p.wait == 0 && p.tasks == 0 && p.edges.length == 0
def deedOk (d : Deed) : Bool :=
 inB d.kind 1 8 &&
 (if d.kind = 2 ∨ d.kind = 5 ∨ d.kind = 8 then d.run == 0 else numB d.run) &&
 (if d.kind = 3 ∨ d.kind = 4 then numB d.task && numB d.try_ else d.task == 0 && d.try_ == 0) &&
 (if d.kind = 2 then numB d.worker && numB d.draw else d.worker == 0 && d.draw == 0) &&
 (if d.kind = 1 then planNums d.plan else planNone d.plan)
theorem specNoPlan_any (p : Plan) (s : Sl) (w : World) (h : planD.rd w w.heap.size p s) :
  Calls Try.prog 60 #[planW p s] w fun e w' => e = .returned (.bool (planNone p)) ∧ Below w.heap.size w w' := by
 obtain ⟨A, n, c⟩ := s
 obtain rfl : n = p.edges.length := RdL.at1 (s := ⟨A, n, c⟩) h
 have X := DBox.new 35 [.int .i64 p.prio, .int .i64 p.most, .int .i64 p.wait, .int .i64 p.tasks, .slice A p.edges.length c] w (b := w.heap.size) rfl
 have B0 : Below w.heap.size w (w.alloc (.cells #[.int .i64 p.prio, .int .i64 p.most, .int .i64 p.wait, .int .i64 p.tasks, .slice A p.edges.length c] 35)) := by repeat (first | exact Below.refl _ _ | refine Below.alloc ?_ (by simp <;> omega) _)
 have H := Lib.hid (show planNone p = (p.prio == 0 && p.most == 0 && p.wait == 0 && p.tasks == 0 && p.edges.length == 0) from rfl)
 by_cases a0 : p.prio = 0
 case neg =>
  have b0 : (p.prio == 0) = false := by simpa using a0
  go_enter Try.func60, Try.ntmps60
  go_wp2
  go_ret
  exact ⟨ret_bool (by rw [H.out]; simp [b0]), B0⟩
 have b0 : (p.prio == 0) = true := by simpa using a0
 clear a0
 by_cases a1 : p.most = 0
 case neg =>
  have b1 : (p.most == 0) = false := by simpa using a1
  go_enter Try.func60, Try.ntmps60
  go_wp2
  go_ret
  exact ⟨ret_bool (by rw [H.out]; simp [b0, b1]), B0⟩
 have b1 : (p.most == 0) = true := by simpa using a1
 clear a1
 by_cases a2 : p.wait = 0
 case neg =>
  have b2 : (p.wait == 0) = false := by simpa using a2
  go_enter Try.func60, Try.ntmps60
  go_wp2
  go_ret
  exact ⟨ret_bool (by rw [H.out]; simp [b0, b1, b2]), B0⟩
 have b2 : (p.wait == 0) = true := by simpa using a2
 clear a2
 by_cases a3 : p.tasks = 0
 case neg =>
  have b3 : (p.tasks == 0) = false := by simpa using a3
  go_enter Try.func60, Try.ntmps60
  go_wp2
  go_ret
  exact ⟨ret_bool (by rw [H.out]; simp [b0, b1, b2, b3]), B0⟩
 have b3 : (p.tasks == 0) = true := by simpa using a3
 clear a3
 by_cases a4 : p.edges.length = 0
 case neg =>
  have b4 : ((p.edges.length : Int) == 0) = false := by rw [beq_eq_false_iff_ne]; omega
  have b5 : (p.edges.length == 0) = false := by rw [beq_eq_false_iff_ne]; exact a4
  go_enter Try.func60, Try.ntmps60
  go_wp2
  go_ret
  exact ⟨ret_bool (by rw [H.out]; simp [b0, b1, b2, b3, b5]), B0⟩
 have b4 : ((p.edges.length : Int) == 0) = true := by rw [beq_iff_eq]; omega
 have b5 : (p.edges.length == 0) = true := by rw [beq_iff_eq]; exact a4
 clear a4
 go_enter Try.func60, Try.ntmps60
 go_wp2
 go_ret
 exact ⟨ret_bool (by rw [H.out]; simp [b0, b1, b2, b3, b5]), B0⟩
theorem all_no {α : Type} {f : α → Bool} {l : List α} {k : Nat} (h : k < l.length) (hn : f l[k] = false) : l.all f = false := by
 rw [List.all_eq_false]
 exact ⟨l[k], List.getElem_mem h, by simp [hn]⟩
theorem planNums_no {p : Plan} {k : Nat} (h : k < p.edges.length) (hn : (numB p.edges[k].fr && numB p.edges[k].to) = false) : planNums p = false := by
 unfold planNums
 rw [all_no h hn, Bool.and_false]
theorem specNumPlan_any (p : Plan) (s : Sl) (w : World) (h : planD.rd w w.heap.size p s) :
  Calls Try.prog 59 #[planW p s] w fun e w' => e = .returned (.bool (planNums p)) ∧ Below w.heap.size w w' := by
 obtain ⟨A, n, c⟩ := s
 obtain rfl : n = p.edges.length := RdL.at1 (s := ⟨A, n, c⟩) h
 have h2 : Rd edgeE w w.heap.size (.slice A p.edges.length c) p.edges := edge_rd h
 clear h
 have X := DBox.new 35 [.int .i64 p.prio, .int .i64 p.most, .int .i64 p.wait, .int .i64 p.tasks, .slice A p.edges.length c] w (b := w.heap.size) rfl
 have B0 : Below w.heap.size w (w.alloc (.cells #[.int .i64 p.prio, .int .i64 p.most, .int .i64 p.wait, .int .i64 p.tasks, .slice A p.edges.length c] 35)) := by repeat (first | exact Below.refl _ _ | refine Below.alloc ?_ (by simp <;> omega) _)
 cases b0 : inB p.prio 0 1000000000
 case false =>
  have H := Lib.hid (show planNums p = false by simp [planNums, numB, b0])
  go_enter Try.func59, Try.ntmps59
  go_wp2_with (go_at_call 58; refine (l16Num_any _ _).mono ?_; rintro e w9 ⟨rfl, rfl⟩)
  go_ret
  exact ⟨ret_bool H.out.symm, B0⟩
 cases b1 : inB p.most 0 1000000000
 case false =>
  have H := Lib.hid (show planNums p = false by simp [planNums, numB, b0, b1])
  go_enter Try.func59, Try.ntmps59
  go_wp2_with (go_at_call 58; refine (l16Num_any _ _).mono ?_; rintro e w9 ⟨rfl, rfl⟩)
  go_ret
  exact ⟨ret_bool H.out.symm, B0⟩
 cases b2 : inB p.wait 0 1000000000
 case false =>
  have H := Lib.hid (show planNums p = false by simp [planNums, numB, b0, b1, b2])
  go_enter Try.func59, Try.ntmps59
  go_wp2_with (go_at_call 58; refine (l16Num_any _ _).mono ?_; rintro e w9 ⟨rfl, rfl⟩)
  go_ret
  exact ⟨ret_bool H.out.symm, B0⟩
 cases b3 : inB p.tasks 0 1000000000
 case false =>
  have H := Lib.hid (show planNums p = false by simp [planNums, numB, b0, b1, b2, b3])
  go_enter Try.func59, Try.ntmps59
  go_wp2_with (go_at_call 58; refine (l16Num_any _ _).mono ?_; rintro e w9 ⟨rfl, rfl⟩)
  go_ret
  exact ⟨ret_bool H.out.symm, B0⟩
 by_cases a4 : p.edges.length ≤ 31
 case neg =>
  have b4 : (31 : Int) < (p.edges.length : Int) := by omega
  have H := Lib.hid (show planNums p = false by simp [planNums, a4])
  go_enter Try.func59, Try.ntmps59
  go_wp2_with (go_at_call 58; refine (l16Num_any _ _).mono ?_; rintro e w9 ⟨rfl, rfl⟩)
  go_ret
  exact ⟨ret_bool H.out.symm, B0⟩
 have b4 : ¬ (31 : Int) < (p.edges.length : Int) := by omega
 have HN := Lib.hid (show planNums p = p.edges.all (fun e => numB e.fr && numB e.to) by simp [planNums, numB, b0, b1, b2, b3, a4])
 go_enter Try.func59, Try.ntmps59
 go_wp2_with (go_at_call 58; refine (l16Num_any _ _).mono ?_; rintro e w9 ⟨rfl, rfl⟩)
 generalize (w.alloc (.cells #[.int .i64 p.prio, .int .i64 p.most, .int .i64 p.wait, .int .i64 p.tasks, .slice A p.edges.length c] 35)) = W at *
 clear b0 b1 b2 b3
 go_loopw [3] (fun i wr => ∃ k : Nat, k ≤ p.edges.length ∧ i = .int .i64 k ∧ Hid ((p.edges.take k).all (fun e => numB e.fr && numB e.to) = true) ∧ DBox w.heap.size [.int .i64 p.prio, .int .i64 p.most, .int .i64 p.wait, .int .i64 p.tasks, .slice A p.edges.length c] wr ∧ Below w.heap.size w wr) (fun i _ => p.edges.length - (intOf i).toNat)
 case atStart => exact ⟨0, Nat.zero_le _, rfl, rfl, X, B0⟩
 case round =>
  clear X B0
  obtain ⟨k, hk, rfl, hA, X, hb⟩ := hrel
  obtain ⟨X_0, X_1, X_2, X_3, X_4, X_l⟩ := X.g5
  by_cases hlt : k < p.edges.length
  ·have hltI : (k : Int) < (p.edges.length : Int) := by omega
   obtain ⟨b, o, rfl, hbb, d0, d1⟩ := (h2.below hb).edge hlt
   cases q0 : inB p.edges[k].fr 0 1000000000
   ·have H := Lib.hid (planNums_no hlt (by simp [numB, q0]))
    go_wp2_with (go_at_call 58; refine (l16Num_any _ _).mono ?_; rintro e w9 ⟨rfl, rfl⟩)
    go_ret
    exact ⟨ret_bool H.out.symm, hb⟩
   cases q1 : inB p.edges[k].to 0 1000000000
   ·have H := Lib.hid (planNums_no hlt (by simp [numB, q1]))
    go_wp2_with (go_at_call 58; refine (l16Num_any _ _).mono ?_; rintro e w9 ⟨rfl, rfl⟩)
    go_ret
    exact ⟨ret_bool H.out.symm, hb⟩
   have S : Hid ((p.edges.take (k + 1)).all (fun e => numB e.fr && numB e.to) = true) := by
    show _ = _
    rw [List.take_succ_eq_append_getElem hlt, List.all_append, hA.out]
    simp [numB, q0, q1]
   go_wp2_with (go_at_call 58; refine (l16Num_any _ _).mono ?_; rintro e w9 ⟨rfl, rfl⟩)
   exact ⟨⟨k + 1, by omega, by go_num, S, X, hb⟩, by simp [intOf]; omega⟩
  ·have H := Lib.hid (show planNums p = true by
    have := hA.out
    rw [List.take_of_length_le (by omega)] at this
    rw [HN.out, this])
   have hltI : ¬ (k : Int) < (p.edges.length : Int) := by omega
   go_wp2
   go_ret
   exact ⟨ret_bool H.out.symm, hb⟩
end Go.Proofs.Ytonlnjdempbfoaa
end
section
namespace Go.Proofs.Ytonlnjdempbfoaa
open Go.RowKit
set_option maxRecDepth 100000
set_option maxHeartbeats 2000000
set_option linter.unusedVariables false
set_option linter.unusedSimpArgs false
attribute [local go_sem] slV
def reach (q : Int) (s : Seg) : Bool := s.notes.any fun n => decide (q < n.seq)
def dropL (q : Int) : List Seg → List Seg
 | s :: t :: l => if reach q s = true then s :: t :: l else dropL q (t :: l)
 | l => l
def dropTo (l : List Seg) (q : Int) : List Seg := if segsOk l = true then dropL q l else l
theorem dropL_cnt (q : Int) : ∀ l : List Seg, cntL cntSeg (dropL q l) ≤ cntL cntSeg l
 | [] => by simp [dropL]
 | [s] => by simp [dropL]
 | s :: t :: l => by
  have ih := dropL_cnt q (t :: l)
  unfold dropL
  split
  ·exact Nat.le_refl _
  ·refine Nat.le_trans ih ?_
   unfold cntL
   simp only [List.length_cons, List.map_cons, List.sum_cons]
   omega
theorem dropTo_cnt (l : List Seg) (q : Int) : cntL cntSeg (dropTo l q) ≤ cntL cntSeg l := by
 unfold dropTo
 split
 ·exact dropL_cnt q l
 ·exact Nat.le_refl _
/-- the length of a slice -/
def lenV : Value → Nat
 | .slice _ n _ => n
 | _ => 0
theorem OwL.tail_ {α : Type} {d : Dt α} {w : World} {F : List Nat} {b o n c : Nat} {x y : α} {l : List α} (h : OwL d w F (.slice (some ⟨b, o, none⟩) n c) (x :: y :: l)) :
  ∃ F', OwL d w F' (.slice (some ⟨b, o + d.enc.sz, none⟩) (l.length + 1) (c - 1)) (y :: l) ∧ ∀ g ∈ F', g ∈ F := by
 obtain ⟨rs, H, G, hm, ⟨hr, hF, hfr⟩, ho, rfl, hn⟩ := h
 match rs, hm with
 | r0 :: r1 :: rs, hm =>
  simp only [List.map_cons, List.cons.injEq] at hm
  obtain ⟨rfl, rfl, rfl⟩ := hm
  obtain ⟨A', c', hv, hcap, hA⟩ := hr
  simp only [Value.slice.injEq] at hv
  obtain ⟨rfl, rfl, rfl⟩ := hv
  obtain ⟨b', o', he, hlt, hc⟩ := hA (by simp)
  simp only [Option.some.injEq, Addr.mk.injEq, and_true] at he
  obtain ⟨rfl, rfl⟩ := he
  obtain ⟨G1, G2, rfl, h1, h2⟩ := ho.head
  have hH : H = [b] := by rw [hF]; unfold blocks; rw [if_neg (by simp)]; rfl
  refine ⟨H ++ G2, ⟨r1 :: rs, H, G2, rfl, ⟨⟨_, c - 1, by simp, by simp at hcap ⊢; omega, fun _ => ⟨b, o + d.enc.sz, rfl, hlt, fun k hk j u hu => ?_⟩⟩, ?_, hfr⟩, h2, rfl, ?_⟩, ?_⟩
  ·have := hc (k + 1) (by simp at hk ⊢; omega) j u (by simpa using hu)
   rw [Nat.succ_mul] at this
   rw [show o + d.enc.sz + k * d.enc.sz + j = o + (k * d.enc.sz + d.enc.sz) + j from by omega]
   exact this
  ·rw [hH]; unfold blocks; rw [if_neg (by simp)]; rfl
  ·rw [List.nodup_append] at hn ⊢
   refine ⟨hn.1, (List.nodup_append.1 hn.2.1).2.1, fun a ha b' hb' => hn.2.2 a ha b' (List.mem_append_right _ hb')⟩
  ·intro g hg
   rcases List.mem_append.1 hg with hg | hg
   ·exact List.mem_append_left _ hg
   ·exact List.mem_append_right _ (List.mem_append_right _ hg)
theorem reaches_own (x : Seg) (s : Sl) (q : Int) (w : World) (hl : cntSeg x ≤ 2000000) (h : segD.rd w w.heap.size x s) :
  Calls Try.prog 26 #[segW x s, .int .i64 q] w fun e w' => e = .returned (.bool (reach q x)) ∧ Below w.heap.size w w' := by
 have hr : RdL noteD w w.heap.size s.v x.notes := h
 obtain ⟨A, n, c⟩ := s
 obtain ⟨_, _, hv, -⟩ := hr.form
 simp only [Sl.v, Value.slice.injEq] at hv
 obtain ⟨rfl, rfl, rfl⟩ := hv
 have hll : x.notes.length ≤ 2000000 := Nat.le_trans (cntL_len cntNote _) hl
 have hb0 : Below w.heap.size w (w.alloc (.cells #[.int .i64 x.fr, .slice A x.notes.length c] 51)) := (Below.refl _ _).alloc (Nat.le_refl _) _
 go_enter Try.func26, Try.ntmps26
 go_wp2
 go_loopw [10] (fun i wr => ∃ k : Nat, k ≤ x.notes.length ∧ i = .int .i64 k ∧ Hid (∀ j (hj : j < x.notes.length), j < k → ¬ q < x.notes[j].seq) ∧ Below w.heap.size w wr) (fun i _ => x.notes.length - (intOf i).toNat)
 case atStart => exact ⟨0, Nat.zero_le _, rfl, fun j hj h0 => absurd h0 (by omega), hb0⟩
 case round =>
  obtain ⟨k, hk, rfl, hno, hb⟩ := hrel
  by_cases hlt : k < x.notes.length
  ·obtain ⟨b, o, s', rfl, hbb, hr', c0, c1, c2, c3, c4, c5, c6, c7, c8, c9, c10, c11⟩ := (hr.below hb).note hlt
   have hs := hb.size
   have hba := fun T cs => hb.alloc hb.size (.cells cs T)
   by_cases hq : q < x.notes[k].seq
   ·have H := Lib.hid (show reach q x = true by unfold reach; rw [List.any_eq_true]; exact ⟨_, List.getElem_mem hlt, by simpa using hq⟩)
    go_wp2
    go_ret
    exact ⟨ret_bool H.out.symm, hba _ _⟩
   ·have S : Hid (∀ j (hj : j < x.notes.length), j < k + 1 → ¬ q < x.notes[j].seq) := by
     intro j hj h0
     by_cases e : j = k
     ·subst e; exact hq
     ·exact hno.out j hj (by omega)
    go_wp2
    exact ⟨⟨k + 1, by omega, by go_num, S, hba _ _⟩, by simp [intOf]; omega⟩
  ·have H := Lib.hid (show reach q x = false by
    unfold reach
    rw [List.any_eq_false]
    intro y hy
    obtain ⟨j, hj, rfl⟩ := List.getElem_of_mem hy
    simpa using hno.out j hj (by omega))
   go_wp2
   go_ret
   exact ⟨ret_bool H.out.symm, hb⟩
theorem implDropTo_own (l : List Seg) (s : Sl) (q : Int) (w : World) (hl : cntL cntSeg l ≤ 2000000) (h : RdL segD w w.heap.size s.v l) :
  Calls Try.prog 11 #[.slice s.a s.n s.c, .int .i64 q] w (OwnPost (Dt.list segD) slV (dropTo l q) w) := by
 obtain ⟨A, n, c⟩ := s
 obtain ⟨A', c', hv, -⟩ := h.form
 simp only [Sl.v, Value.slice.injEq] at hv
 obtain ⟨rfl, rfl, rfl⟩ := hv
 have hcc : ∀ x ∈ l, cntSeg x ≤ 2000000 := fun x hx => by have := cntL_mem (cnt := cntSeg) hx; omega
 have hll : l.length ≤ 2000000 := Nat.le_trans (cntL_len _ _) hl
 have hS : ∀ W, Below w.heap.size w W → Calls Try.prog 8 #[.slice A l.length c] W fun e w' => e = .returned (.bool (segsOk l)) ∧ Below W.heap.size W w' := fun W hW => implSegsOk_own l ⟨A, l.length, c⟩ W hl (RdL.more (RdL.below h hW) hW.size)
 cases hok : segsOk l
 case false =>
  have H := Lib.hid (show dropTo l q = l by unfold dropTo; rw [hok]; simp)
  rw [hok] at hS
  go_enter Try.func11, Try.ntmps11
  go_wp2_with (first | (go_at_call 25; refine (implCopySegs_own l ⟨A, l.length, c⟩ w hl h).mono ?_; rintro e w1 ⟨s1, F1, rfl, o1, n1, b1⟩) | (go_at_call 8; refine (hS _ b1).mono ?_; rintro e w2 ⟨rfl, b2⟩))
  go_ret
  rw [H.out]
  exact ⟨s1, F1, rfl, OwL.below o1 b2, n1, bnext b1 b2⟩
 have H := Lib.hid (show dropTo l q = dropL q l by unfold dropTo; rw [hok]; simp)
 rw [hok] at hS
 have hfit : ∀ x ∈ l, notesFit x = true := fun x hx => by
  obtain ⟨j, hj, rfl⟩ := List.getElem_of_mem hx
  exact (segFit_get hj ((segsOk_get hok).2.2 j hj)).2
 clear hok
 go_enter Try.func11, Try.ntmps11
 go_wp2_with (first | (go_at_call 25; refine (implCopySegs_own l ⟨A, l.length, c⟩ w hl h).mono ?_; rintro e w1 ⟨s1, F1, rfl, o1, n1, b1⟩) | (go_at_call 8; refine (hS _ b1).mono ?_; rintro e w2 ⟨rfl, b2⟩))
 have b12 := bnext b1 b2
 have o12 := OwL.below o1 b2
 obtain ⟨A1, n1', c1⟩ := s1
 obtain ⟨_, _, hv1, -⟩ := OwL.form o12
 simp only [Sl.v, Value.slice.injEq] at hv1
 obtain ⟨rfl, rfl, rfl⟩ := hv1
 clear hS hl h o1 b1 b2
 go_loopw [5] (fun v wr => ∃ (cur : List Seg) (F : List Nat) (A2 : Option Addr) (c2 : Nat), v = .slice A2 cur.length c2 ∧ OwL segD wr F (.slice A2 cur.length c2) cur ∧ Hid ((∀ b ∈ F, w.heap.size ≤ b) ∧ dropL q cur = dropL q l ∧ ∀ x ∈ cur, x ∈ l) ∧ cur.length ≤ l.length ∧ Below w.heap.size w wr) (fun v _ => lenV v)
 case atStart => exact ⟨l, F1, _, _, rfl, o12, ⟨n1, rfl, fun x hx => hx⟩, Nat.le_refl _, b12⟩
 case round =>
  clear o12 b12
  obtain ⟨cur, F, A2, c2, rfl, ho, hI, hcl, hb⟩ := hrel
  match cur, ho, hI, hcl with
  | [], ho, hI, hcl =>
   have e := Lib.hid (show dropTo l q = [] by rw [H.out, ← hI.out.2.1]; rfl)
   go_wp2
   skip
   go_wp2
   go_ret
   rw [e.out]
   exact ⟨⟨A2, 0, c2⟩, F, rfl, ho, hI.out.1, hb⟩
  | [x], ho, hI, hcl =>
   have e := Lib.hid (show dropTo l q = [x] by rw [H.out, ← hI.out.2.1]; rfl)
   go_wp2
   skip
   go_wp2
   go_ret
   rw [e.out]
   exact ⟨⟨A2, 1, c2⟩, F, rfl, ho, hI.out.1, hb⟩
  | x :: y :: cur, ho, hI, hcl =>
   obtain ⟨b, o, s', rfl, hbb, hr0, d0, d1⟩ := (OwL.rd ho).seg (k := 0) (by simp)
   simp only [List.getElem_cons_zero, Nat.zero_mul, Nat.add_zero] at hr0 d0 d1
   have hxm : x ∈ l := hI.out.2.2 x (by simp)
   obtain ⟨F', ho', hF'⟩ := ho.tail_
   have hc2 : ¬ c2 = 1 := by
    obtain ⟨_, c9, hv9, hc9⟩ := OwL.form ho
    simp only [Value.slice.injEq] at hv9
    simp only [List.length_cons] at hc9
    omega
   have hlen : ((cur.length + 1 + 1 : Nat) : Int) = (cur.length : Int) + 1 + 1 := by push_cast; rfl
   simp only [List.length_cons] at hcl
   cases hre : reach q x
   ·have S : Hid ((∀ b ∈ F', w.heap.size ≤ b) ∧ dropL q (y :: cur) = dropL q l ∧ ∀ z ∈ y :: cur, z ∈ l) := ⟨fun g hg => hI.out.1 g (hF' g hg), by rw [← hI.out.2.1, dropL, hre]; simp, fun z hz => hI.out.2.2 z (List.mem_cons_of_mem _ hz)⟩
    go_wp2_with (go_at_call 26; refine (reaches_own x s' q _ (hcc x hxm) hr0).mono ?_; rintro e w3 ⟨rfl, b3⟩; simp only [hre])
    (try simp only [if_neg hc2])
    exact ⟨⟨y :: cur, F', _, _, rfl, OwL.below ho' b3, S, by simp; omega, bnext hb b3⟩, by simp [lenV]⟩
   ·have e := Lib.hid (show dropTo l q = x :: y :: cur by rw [H.out, ← hI.out.2.1, dropL, hre]; simp)
    go_wp2_with (go_at_call 26; refine (reaches_own x s' q _ (hcc x hxm) hr0).mono ?_; rintro e w3 ⟨rfl, b3⟩; simp only [hre])
    go_ret
    rw [e.out]
    exact ⟨⟨_, _, c2⟩, F, rfl, OwL.below ho b3, hI.out.1, bnext hb b3⟩
end Go.Proofs.Ytonlnjdempbfoaa
end
