/-
  SameYard of the reference. Written by program (sy.py).
-/
import Derived.Test.YtjobmbjadpldfaaCv
namespace Go.Proofs.Ytjobmbjadpldfaa
open Go.RowKit
set_option maxRecDepth 100000
set_option maxHeartbeats 8000000
set_option linter.unusedVariables false
set_option linter.unusedSimpArgs false

theorem specSameYard_own (x y : Yard) (s r : Sl × Sl) (w : World) (hl : cntYard x ≤ 2000000) (hl' : cntYard y ≤ 2000000) (h : yardD.rd w w.heap.size x s) (h' : yardD.rd w w.heap.size y r) :
    Calls Try.prog 26 #[yardW x s, yardW y r] w fun e w' => e = .returned (.bool (decide (x = y))) ∧ Below w.heap.size w w' := by
  have no : ∀ {P : Prop}, (x = y → P) → ¬ P → Hid (decide (x = y) = false) := fun f g => decide_eq_false (fun e => g (f e))
  obtain ⟨⟨A1, n1, e1⟩, ⟨A3, n3, e3⟩⟩ := s
  obtain ⟨⟨A2, n2, e2⟩, ⟨A4, n4, e4⟩⟩ := r
  have hn1 : n1 = x.shelf.length := RdL.at1 (s := ⟨A1, n1, e1⟩) h.1
  have hn2 : n2 = y.shelf.length := RdL.at1 (s := ⟨A2, n2, e2⟩) h'.1
  have hn3 : n3 = x.runs.length := RdL.at1 (s := ⟨A3, n3, e3⟩) h.2
  have hn4 : n4 = y.runs.length := RdL.at1 (s := ⟨A4, n4, e4⟩) h'.2
  subst hn1; subst hn2; subst hn3; subst hn4
  unfold cntYard at hl hl'
  have hx1 : x.shelf.length ≤ 2000000 := Nat.le_trans (cntL_len cntEntryS _) (by omega)
  have hx2 : y.shelf.length ≤ 2000000 := Nat.le_trans (cntL_len cntEntryS _) (by omega)
  have hx3 : x.runs.length ≤ 2000000 := Nat.le_trans (cntL_len cntRun _) (by omega)
  have hx4 : y.runs.length ≤ 2000000 := Nat.le_trans (cntL_len cntRun _) (by omega)
  have hsx : RdL (Dt.list entryD) w w.heap.size (.slice A1 x.shelf.length e1) x.shelf := h.1
  have hsy : RdL (Dt.list entryD) w w.heap.size (.slice A2 y.shelf.length e2) y.shelf := h'.1
  have hrx : RdL runD w w.heap.size (.slice A3 x.runs.length e3) x.runs := h.2
  have hry : RdL runD w w.heap.size (.slice A4 y.runs.length e4) y.runs := h'.2
  clear h h'
  have X := (DBox.new 47 [.int .i64 x.now, .int .i64 x.seq, .slice A1 x.shelf.length e1, .slice A3 x.runs.length e3] w rfl).below ((Below.refl _ _).alloc (Nat.le_refl _) (.cells #[.int .i64 y.now, .int .i64 y.seq, .slice A2 y.shelf.length e2, .slice A4 y.runs.length e4] 47))
  have Y := DBox.new 47 [.int .i64 y.now, .int .i64 y.seq, .slice A2 y.shelf.length e2, .slice A4 y.runs.length e4] (w.alloc (.cells #[.int .i64 x.now, .int .i64 x.seq, .slice A1 x.shelf.length e1, .slice A3 x.runs.length e3] 47)) (b := w.heap.size + 1) (by simp)
  have B0 : Below w.heap.size w ((w.alloc (.cells #[.int .i64 x.now, .int .i64 x.seq, .slice A1 x.shelf.length e1, .slice A3 x.runs.length e3] 47)).alloc (.cells #[.int .i64 y.now, .int .i64 y.seq, .slice A2 y.shelf.length e2, .slice A4 y.runs.length e4] 47)) := bnext ((Below.refl _ _).alloc (Nat.le_refl _) _) ((Below.refl _ _).alloc (Nat.le_refl _) _)
  by_cases h0 : x.now = y.now
  case neg =>
    have t0 : (x.now != y.now) = true := by rw [bne_iff_ne]; exact h0
    have H := no (fun e => by rw [e]) h0
    clear h0 no
    go_enter Try.func26, Try.ntmps26
    go_wp2
    go_ret
    exact ⟨ret_bool H.out.symm, B0⟩
  have t0 : (x.now != y.now) = false := by simp [h0]
  have H0 := Lib.hid h0
  clear h0
  by_cases h1 : x.seq = y.seq
  case neg =>
    have t1 : (x.seq != y.seq) = true := by rw [bne_iff_ne]; exact h1
    have H := no (fun e => by rw [e]) h1
    clear h1 no
    go_enter Try.func26, Try.ntmps26
    go_wp2
    go_ret
    exact ⟨ret_bool H.out.symm, B0⟩
  have t1 : (x.seq != y.seq) = false := by simp [h1]
  have H1 := Lib.hid h1
  clear h1
  by_cases h2 : x.shelf.length = y.shelf.length
  case neg =>
    have t2 : ((x.shelf.length : Int) != (y.shelf.length : Int)) = true := by simp; omega
    have H := no (fun e => by rw [e]) h2
    clear h2 no
    go_enter Try.func26, Try.ntmps26
    go_wp2
    go_ret
    exact ⟨ret_bool H.out.symm, B0⟩
  have t2 : ((x.shelf.length : Int) != (y.shelf.length : Int)) = false := by simp [h2]
  have H2 := Lib.hid h2
  clear h2
  by_cases h3 : x.runs.length = y.runs.length
  case neg =>
    have t3 : ((x.runs.length : Int) != (y.runs.length : Int)) = true := by simp; omega
    have H := no (fun e => by rw [e]) h3
    clear h3 no
    go_enter Try.func26, Try.ntmps26
    go_wp2
    go_ret
    exact ⟨ret_bool H.out.symm, B0⟩
  have t3 : ((x.runs.length : Int) != (y.runs.length : Int)) = false := by simp [h3]
  have H3 := Lib.hid h3
  clear h3
  go_enter Try.func26, Try.ntmps26
  go_wp2
  generalize ((w.alloc (.cells #[.int .i64 x.now, .int .i64 x.seq, .slice A1 x.shelf.length e1, .slice A3 x.runs.length e3] 47)).alloc (.cells #[.int .i64 y.now, .int .i64 y.seq, .slice A2 y.shelf.length e2, .slice A4 y.runs.length e4] 47)) = w0 at *
  clear t0 t1 t2 t3
  go_loopw [5] (fun i wr => ∃ k : Nat, k ≤ x.shelf.length ∧ i = .int .i64 k ∧ Hid (x.shelf.take k = y.shelf.take k) ∧ Below w0.heap.size w0 wr) (fun i _ => x.shelf.length - (intOf i).toNat)
  case atStart => exact ⟨0, Nat.zero_le _, rfl, rfl, Below.refl _ _⟩
  case round =>
    obtain ⟨k, hk, rfl, heq, hb⟩ := hrel
    replace X := X.below hb
    replace Y := Y.below hb
    replace B0 := bnext B0 hb
    have u2 := X.cell 2 _ rfl
    have v2 := Y.cell 2 _ rfl
    have u3 := X.cell 3 _ rfl
    have v3 := Y.cell 3 _ rfl
    have us := X.lt
    have vs := Y.lt
    by_cases hlt : k < x.shelf.length
    · have hlt' : k < y.shelf.length := by rw [← H2.out]; exact hlt
      obtain ⟨b, o, ⟨As, ns, es⟩, rfl, hbb, hr, c0⟩ := (hsx.below B0).entryS hlt
      obtain ⟨b', o', ⟨At, nt, et⟩, rfl, hbb', hr', d0⟩ := (hsy.below B0).entryS hlt'
      have hns : ns = x.shelf[k].length := RdL.at1 (s := ⟨As, ns, es⟩) hr
      have hnt : nt = y.shelf[k].length := RdL.at1 (s := ⟨At, nt, et⟩) hr'
      subst hns; subst hnt
      have i1 : (k : Int) < (x.shelf.length : Int) := by omega
      have i2 : (k : Int) < (y.shelf.length : Int) := by omega
      have hs1 : b < wr.heap.size := by omega
      have hs2 : b' < wr.heap.size := by omega
      have hz1 : x.shelf[k].length ≤ 2000000 := Nat.le_trans (cntL_len cntEntry _) (by have := cntL_mem (cnt := cntEntryS) (List.getElem_mem hlt); unfold cntEntryS at this; unfold cntEntryS at hl; omega)
      have hz2 : y.shelf[k].length ≤ 2000000 := Nat.le_trans (cntL_len cntEntry _) (by have := cntL_mem (cnt := cntEntryS) (List.getElem_mem hlt'); unfold cntEntryS at this; unfold cntEntryS at hl'; omega)
      have ne : x.shelf[k] ≠ y.shelf[k] → Hid (decide (x = y) = false) := fun hx => no (P := x.shelf[k] = y.shelf[k]) (fun e => by subst e; rfl) hx
      by_cases g : x.shelf[k].length = y.shelf[k].length
      case neg =>
        have q0 : ((x.shelf[k].length : Int) != (y.shelf[k].length : Int)) = true := by simp; omega
        have H := ne (fun e => g (by rw [e]))
        clear g no ne
        go_wp2
        go_quiet (fail)
        go_wp2
        go_ret
        exact ⟨ret_bool H.out.symm, bdrewN B0 _⟩
      have q0 : ((x.shelf[k].length : Int) != (y.shelf[k].length : Int)) = false := by simp [g]
      have G := Lib.hid g
      clear g
      go_wp2
      go_quiet (fail)
      go_wp2
      clear q0
      have B2 := bdrewN (Below.refl wr.heap.size wr) nq
      obtain ⟨wz, hwz⟩ : ∃ wz, wz = wr.drewN nq := ⟨_, rfl⟩
      rw [← hwz] at B2 ⊢
      clear hwz
      replace hb := bnext hb B2
      replace X := X.below B2
      replace Y := Y.below B2
      replace B0 := bnext B0 B2
      clear B2 u2 v2 u3 v3 us vs c0 d0 hr hr' hbb hbb' hs1 hs2
      go_loopw [6] (fun i wq => ∃ m : Nat, m ≤ x.shelf[k].length ∧ i = .int .i64 m ∧ Hid (x.shelf[k].take m = y.shelf[k].take m) ∧ Below wz.heap.size wz wq) (fun i _ => x.shelf[k].length - (intOf i).toNat)
      case atStart => exact ⟨0, Nat.zero_le _, rfl, rfl, Below.refl _ _⟩
      case round =>
        obtain ⟨m, hm, rfl, heq2, hb2⟩ := hrel
        replace X := X.below hb2
        replace Y := Y.below hb2
        replace B0 := bnext B0 hb2
        have u2 := X.cell 2 _ rfl
        have v2 := Y.cell 2 _ rfl
        have u3 := X.cell 3 _ rfl
        have v3 := Y.cell 3 _ rfl
        have us := X.lt
        have vs := Y.lt
        obtain ⟨b1, o1, ⟨As, ns, es⟩, he1, hbb, hr, c0⟩ := (hsx.below B0).entryS hlt
        obtain ⟨b2, o2, ⟨At, nt, et⟩, he2, hbb', hr', d0⟩ := (hsy.below B0).entryS hlt'
        simp only [Option.some.injEq, Addr.mk.injEq, and_true] at he1 he2
        obtain ⟨rfl, rfl⟩ := he1
        obtain ⟨rfl, rfl⟩ := he2
        have hns : ns = x.shelf[k].length := RdL.at1 (s := ⟨As, ns, es⟩) hr
        have hnt : nt = y.shelf[k].length := RdL.at1 (s := ⟨At, nt, et⟩) hr'
        subst hns; subst hnt
        by_cases hmt : m < x.shelf[k].length
        · have hmt' : m < y.shelf[k].length := by rw [← G.out]; exact hmt
          have j1 : (m : Int) < (x.shelf[k].length : Int) := by omega
          have j2 : (m : Int) < (y.shelf[k].length : Int) := by omega
          obtain ⟨p1, o3, _, rfl, hpp, _, f0, f1, f2, f3⟩ := RdL.entry (A := As) (n := x.shelf[k].length) (c := es) hr hmt
          obtain ⟨p2, o4, _, rfl, hpp', _, g0, g1, g2, g3⟩ := RdL.entry (A := At) (n := y.shelf[k].length) (c := et) hr' hmt'
          have ne2 : x.shelf[k][m] ≠ y.shelf[k][m] → Hid (decide (x = y) = false) := fun hx => ne (fun e => hx (by
            have : ∀ (l l' : List Entry) (h1 : m < l.length) (h2 : m < l'.length), l = l' → l[m] = l'[m] := fun l l' h1 h2 e => by subst e; rfl
            exact this _ _ hmt hmt' e))
          by_cases z0 : x.shelf[k][m].prio = y.shelf[k][m].prio
          case neg =>
            have t0 : (x.shelf[k][m].prio == y.shelf[k][m].prio) = false := beq_eq_false_iff_ne.2 z0
            have H := ne2 (fun e => z0 (by rw [e]))
            clear z0 no ne ne2
            go_wp2
            go_quiet (fail)
            go_wp2
            go_ret
            exact ⟨ret_bool H.out.symm, bdrewN B0 _⟩
          rw [← z0] at g0
          have Z0 := Lib.hid z0
          clear z0
          by_cases z1 : x.shelf[k][m].seq = y.shelf[k][m].seq
          case neg =>
            have t1 : (x.shelf[k][m].seq == y.shelf[k][m].seq) = false := beq_eq_false_iff_ne.2 z1
            have H := ne2 (fun e => z1 (by rw [e]))
            clear z1 no ne ne2
            go_wp2
            go_quiet (fail)
            go_wp2
            go_ret
            exact ⟨ret_bool H.out.symm, bdrewN B0 _⟩
          rw [← z1] at g1
          have Z1 := Lib.hid z1
          clear z1
          by_cases z2 : x.shelf[k][m].run = y.shelf[k][m].run
          case neg =>
            have t2 : (x.shelf[k][m].run == y.shelf[k][m].run) = false := beq_eq_false_iff_ne.2 z2
            have H := ne2 (fun e => z2 (by rw [e]))
            clear z2 no ne ne2
            go_wp2
            go_quiet (fail)
            go_wp2
            go_ret
            exact ⟨ret_bool H.out.symm, bdrewN B0 _⟩
          rw [← z2] at g2
          have Z2 := Lib.hid z2
          clear z2
          by_cases z3 : x.shelf[k][m].task = y.shelf[k][m].task
          case neg =>
            have t3 : (x.shelf[k][m].task == y.shelf[k][m].task) = false := beq_eq_false_iff_ne.2 z3
            have H := ne2 (fun e => z3 (by rw [e]))
            clear z3 no ne ne2
            go_wp2
            go_quiet (fail)
            go_wp2
            go_ret
            exact ⟨ret_bool H.out.symm, bdrewN B0 _⟩
          rw [← z3] at g3
          have Z3 := Lib.hid z3
          clear z3
          have S : Hid (x.shelf[k].take (m + 1) = y.shelf[k].take (m + 1)) := by
            show x.shelf[k].take (m + 1) = y.shelf[k].take (m + 1)
            have hx : x.shelf[k][m] = y.shelf[k][m] := by
              have e0 := Z0.out; have e1 := Z1.out; have e2 := Z2.out; have e3 := Z3.out
              revert e0 e1 e2 e3
              cases x.shelf[k][m]; cases y.shelf[k][m]
              simp only
              rintro rfl; rintro rfl; rintro rfl; rintro rfl; rfl
            rw [take_snoc _ m hmt, take_snoc _ m hmt', heq2.out, hx]
          clear no ne ne2
          go_wp2
          go_quiet (fail)
          go_wp2
          exact ⟨⟨m + 1, by omega, by go_num, S, bdrewN hb2 _⟩, by simp [intOf]; omega⟩
        · have j1 : ¬ (m : Int) < (x.shelf[k].length : Int) := by omega
          have S : Hid (x.shelf.take (k + 1) = y.shelf.take (k + 1)) := by
            show x.shelf.take (k + 1) = y.shelf.take (k + 1)
            have g := heq2.out
            rw [List.take_of_length_le (by omega), List.take_of_length_le (by rw [← G.out]; omega)] at g
            rw [take_snoc _ k hlt, take_snoc _ k hlt', heq.out, g]
          clear no ne
          go_wp2
          exact ⟨⟨k + 1, by omega, by go_num, S, bnext hb hb2⟩, by simp [intOf]; omega⟩
    · have i1 : ¬ (k : Int) < (x.shelf.length : Int) := by omega
      have HS : Hid (x.shelf = y.shelf) := by
        show x.shelf = y.shelf
        have g := heq.out
        rw [List.take_of_length_le (by omega), List.take_of_length_le (by rw [← H2.out]; omega)] at g
        exact g
      go_wp2
      clear heq hlt i1 hk u2 v2 u3 v3 us vs
      obtain ⟨ws, hws⟩ : ∃ ws, ws = wr := ⟨_, rfl⟩
      rw [← hws] at hb X Y B0 ⊢
      clear hws
      go_loopw [7] (fun i wr => ∃ k : Nat, k ≤ x.runs.length ∧ i = .int .i64 k ∧ Hid (x.runs.take k = y.runs.take k) ∧ Below ws.heap.size ws wr) (fun i _ => x.runs.length - (intOf i).toNat)
      case atStart => exact ⟨0, Nat.zero_le _, rfl, rfl, Below.refl _ _⟩
      case round =>
        obtain ⟨k, hk, rfl, heq, hb⟩ := hrel
        replace X := X.below hb
        replace Y := Y.below hb
        replace B0 := bnext B0 hb
        have u2 := X.cell 2 _ rfl
        have v2 := Y.cell 2 _ rfl
        have u3 := X.cell 3 _ rfl
        have v3 := Y.cell 3 _ rfl
        have us := X.lt
        have vs := Y.lt
        by_cases hlt : k < x.runs.length
        · have hlt' : k < y.runs.length := by rw [← H3.out]; exact hlt
          obtain ⟨b, o, ⟨s1, ⟨At, nt, et⟩⟩, rfl, hbb, hr, c0, c1, c2, c3, c4, c5, c6, c7⟩ := (hrx.below B0).run hlt
          obtain ⟨b', o', ⟨s2, ⟨Au, nu, eu⟩⟩, rfl, hbb', hr', d0, d1, d2, d3, d4, d5, d6, d7⟩ := (hry.below B0).run hlt'
          have hns : nt = x.runs[k].tasks.length := RdL.at1 (s := ⟨At, nt, et⟩) hr.2
          have hnu : nu = y.runs[k].tasks.length := RdL.at1 (s := ⟨Au, nu, eu⟩) hr'.2
          subst hns; subst hnu
          have i1 : (k : Int) < (x.runs.length : Int) := by omega
          have i2 : (k : Int) < (y.runs.length : Int) := by omega
          have hs1 : b < wr.heap.size := by omega
          have hs2 : b' < wr.heap.size := by omega
          have m1 : cntRun x.runs[k] ≤ 2000000 := by have := cntL_mem (cnt := cntRun) (List.getElem_mem hlt); omega
          have m2 : cntRun y.runs[k] ≤ 2000000 := by have := cntL_mem (cnt := cntRun) (List.getElem_mem hlt'); omega
          unfold cntRun at m1 m2
          have hz1 : x.runs[k].tasks.length ≤ 2000000 := Nat.le_trans (cntL_len cntTask _) (by omega)
          have hz2 : y.runs[k].tasks.length ≤ 2000000 := Nat.le_trans (cntL_len cntTask _) (by omega)
          have ne : x.runs[k] ≠ y.runs[k] → Hid (decide (x = y) = false) := fun hx => no (P := x.runs[k] = y.runs[k]) (fun e => by subst e; rfl) hx
          have bz : ∀ W, Below wr.heap.size wr W → Below w.heap.size wr W := fun W hW => hW.mono B0.size
          have sz0 := B0.size
          by_cases z0 : x.runs[k].id = y.runs[k].id
          case neg =>
            have t0 : (x.runs[k].id != y.runs[k].id) = true := by rw [bne_iff_ne]; exact z0
            have H := ne (fun e => z0 (by rw [e]))
            clear z0 no ne bz
            go_wp2
            go_ret
            exact ⟨ret_bool H.out.symm, bnext B0 (by repeat (first | exact Below.refl _ _ | refine Below.alloc ?_ (by simp <;> omega) _))⟩
          have t0 : (x.runs[k].id != y.runs[k].id) = false := by simp [z0]
          have Z0 := Lib.hid z0
          clear z0
          by_cases z1 : x.runs[k].state = y.runs[k].state
          case neg =>
            have t1 : (x.runs[k].state != y.runs[k].state) = true := by rw [bne_iff_ne]; exact z1
            have H := ne (fun e => z1 (by rw [e]))
            clear z1 no ne bz
            go_wp2
            go_ret
            exact ⟨ret_bool H.out.symm, bnext B0 (by repeat (first | exact Below.refl _ _ | refine Below.alloc ?_ (by simp <;> omega) _))⟩
          have t1 : (x.runs[k].state != y.runs[k].state) = false := by simp [z1]
          have Z1 := Lib.hid z1
          clear z1
          have U := (DBox.new 102 [.int .i64 x.runs[k].id, .int .i64 x.runs[k].plan.prio, .int .i64 x.runs[k].plan.most, .int .i64 x.runs[k].plan.wait, .int .i64 x.runs[k].plan.tasks, .slice s1.a s1.n s1.c, .int .i64 x.runs[k].state, .slice At x.runs[k].tasks.length et] wr rfl).below ((Below.refl _ _).alloc (Nat.le_refl _) (.cells #[.int .i64 y.runs[k].id, .int .i64 y.runs[k].plan.prio, .int .i64 y.runs[k].plan.most, .int .i64 y.runs[k].plan.wait, .int .i64 y.runs[k].plan.tasks, .slice s2.a s2.n s2.c, .int .i64 y.runs[k].state, .slice Au y.runs[k].tasks.length eu] 102))
          have V := DBox.new 102 [.int .i64 y.runs[k].id, .int .i64 y.runs[k].plan.prio, .int .i64 y.runs[k].plan.most, .int .i64 y.runs[k].plan.wait, .int .i64 y.runs[k].plan.tasks, .slice s2.a s2.n s2.c, .int .i64 y.runs[k].state, .slice Au y.runs[k].tasks.length eu] (wr.alloc (.cells #[.int .i64 x.runs[k].id, .int .i64 x.runs[k].plan.prio, .int .i64 x.runs[k].plan.most, .int .i64 x.runs[k].plan.wait, .int .i64 x.runs[k].plan.tasks, .slice s1.a s1.n s1.c, .int .i64 x.runs[k].state, .slice At x.runs[k].tasks.length et] 102)) (b := wr.heap.size + 1) (by simp)
          have B2 : Below wr.heap.size wr ((wr.alloc (.cells #[.int .i64 x.runs[k].id, .int .i64 x.runs[k].plan.prio, .int .i64 x.runs[k].plan.most, .int .i64 x.runs[k].plan.wait, .int .i64 x.runs[k].plan.tasks, .slice s1.a s1.n s1.c, .int .i64 x.runs[k].state, .slice At x.runs[k].tasks.length et] 102)).alloc (.cells #[.int .i64 y.runs[k].id, .int .i64 y.runs[k].plan.prio, .int .i64 y.runs[k].plan.most, .int .i64 y.runs[k].plan.wait, .int .i64 y.runs[k].plan.tasks, .slice s2.a s2.n s2.c, .int .i64 y.runs[k].state, .slice Au y.runs[k].tasks.length eu] 102)) := bnext ((Below.refl _ _).alloc (Nat.le_refl _) _) ((Below.refl _ _).alloc (Nat.le_refl _) _)
          go_wp2_with fail
          generalize ((wr.alloc (.cells #[.int .i64 x.runs[k].id, .int .i64 x.runs[k].plan.prio, .int .i64 x.runs[k].plan.most, .int .i64 x.runs[k].plan.wait, .int .i64 x.runs[k].plan.tasks, .slice s1.a s1.n s1.c, .int .i64 x.runs[k].state, .slice At x.runs[k].tasks.length et] 102)).alloc (.cells #[.int .i64 y.runs[k].id, .int .i64 y.runs[k].plan.prio, .int .i64 y.runs[k].plan.most, .int .i64 y.runs[k].plan.wait, .int .i64 y.runs[k].plan.tasks, .slice s2.a s2.n s2.c, .int .i64 y.runs[k].state, .slice Au y.runs[k].tasks.length eu] 102)) = wa at *
          have s0 := B0.size
          have hp1 : planD.rd wa wa.heap.size x.runs[k].plan s1 := planD.rd_more (planD.rd_below hr.1 (bz _ B2)) (Nat.le_trans s0 B2.size)
          have hp2 : planD.rd wa wa.heap.size y.runs[k].plan s2 := planD.rd_more (planD.rd_below hr'.1 (bz _ B2)) (Nat.le_trans s0 B2.size)
          refine (l06Same_own x.runs[k].plan y.runs[k].plan s1 s2 _ (by omega) (by omega) hp1 hp2).mono ?_
          rintro e wb ⟨rfl, b3⟩
          replace U := U.below b3
          replace V := V.below b3
          replace B2 := bnext B2 b3
          have m0_ := U.cell 0 _ rfl
          have l0_ := V.cell 0 _ rfl
          have m1_ := U.cell 1 _ rfl
          have l1_ := V.cell 1 _ rfl
          have m2_ := U.cell 2 _ rfl
          have l2_ := V.cell 2 _ rfl
          have m3_ := U.cell 3 _ rfl
          have l3_ := V.cell 3 _ rfl
          have m4_ := U.cell 4 _ rfl
          have l4_ := V.cell 4 _ rfl
          have m5_ := U.cell 5 _ rfl
          have l5_ := V.cell 5 _ rfl
          have m6_ := U.cell 6 _ rfl
          have l6_ := V.cell 6 _ rfl
          have m7_ := U.cell 7 _ rfl
          have l7_ := V.cell 7 _ rfl
          have um := U.lt
          have vm := V.lt
          clear b3 hp1 hp2 c0 c1 c2 c3 c4 c5 c6 c7 d0 d1 d2 d3 d4 d5 d6 d7
          by_cases z2 : x.runs[k].plan = y.runs[k].plan
          case neg =>
            have H := ne (fun e => z2 (by rw [e]))
            rw [decide_eq_false z2]
            clear z2 no ne bz
            go_wp2
            go_ret
            exact ⟨ret_bool H.out.symm, bnext B0 B2⟩
          rw [decide_eq_true z2]
          have Z2 := Lib.hid z2
          clear z2
          by_cases g : x.runs[k].tasks.length = y.runs[k].tasks.length
          case neg =>
            have q0 : ((x.runs[k].tasks.length : Int) != (y.runs[k].tasks.length : Int)) = true := by simp; omega
            have H := ne (fun e => g (by rw [e]))
            clear g no ne bz
            go_wp2
            go_ret
            exact ⟨ret_bool H.out.symm, bnext B0 B2⟩
          have q0 : ((x.runs[k].tasks.length : Int) != (y.runs[k].tasks.length : Int)) = false := by simp [g]
          have G := Lib.hid g
          clear g
          go_wp2
          clear q0
          replace hb := bnext hb B2
          have hT1 : RdL taskD wb w.heap.size (.slice At x.runs[k].tasks.length et) x.runs[k].tasks := RdL.below hr.2 (bz _ B2)
          have hT2 : RdL taskD wb w.heap.size (.slice Au y.runs[k].tasks.length eu) y.runs[k].tasks := RdL.below hr'.2 (bz _ B2)
          have sb : w.heap.size ≤ wb.heap.size := Nat.le_trans s0 B2.size
          replace B0 := bnext B0 B2
          clear hr hr' bz X Y
          go_loopw [10] (fun i wq => ∃ m : Nat, m ≤ x.runs[k].tasks.length ∧ i = .int .i64 m ∧ Hid (x.runs[k].tasks.take m = y.runs[k].tasks.take m) ∧ Below wb.heap.size wb wq) (fun i _ => x.runs[k].tasks.length - (intOf i).toNat)
          case atStart => exact ⟨0, Nat.zero_le _, rfl, rfl, Below.refl _ _⟩
          case round =>
            obtain ⟨m, hm, rfl, heq2, hb2⟩ := hrel
            replace U := U.below hb2
            replace V := V.below hb2
            have r7 := U.cell 7 _ rfl
            have q7 := V.cell 7 _ rfl
            have ul := U.lt
            have vl := V.lt
            have hsz := hb2.size
            by_cases hmt : m < x.runs[k].tasks.length
            · have hmt' : m < y.runs[k].tasks.length := by rw [← G.out]; exact hmt
              have j1 : (m : Int) < (x.runs[k].tasks.length : Int) := by omega
              have j2 : (m : Int) < (y.runs[k].tasks.length : Int) := by omega
              obtain ⟨p1, o3, _, rfl, hpp, _, f0, f1, f2, f3⟩ := (hT1.below (hb2.mono sb)).task hmt
              obtain ⟨p2, o4, _, rfl, hpp', _, g0, g1, g2, g3⟩ := (hT2.below (hb2.mono sb)).task hmt'
              have ne2 : x.runs[k].tasks[m] ≠ y.runs[k].tasks[m] → Hid (decide (x = y) = false) := fun hx => ne (fun e => hx (by
                have : ∀ (l l' : List Task) (h1 : m < l.length) (h2 : m < l'.length), l = l' → l[m] = l'[m] := fun l l' h1 h2 e => by subst e; rfl
                exact this _ _ hmt hmt' (by rw [e])))
              by_cases y0 : x.runs[k].tasks[m].state = y.runs[k].tasks[m].state
              case neg =>
                have t0 : (x.runs[k].tasks[m].state == y.runs[k].tasks[m].state) = false := beq_eq_false_iff_ne.2 y0
                have H := ne2 (fun e => y0 (by rw [e]))
                clear y0 no ne ne2
                go_wp2
                go_quiet (fail)
                go_wp2
                go_ret
                exact ⟨ret_bool H.out.symm, bdrewN (bnext B0 hb2) _⟩
              rw [← y0] at g0
              have Y0 := Lib.hid y0
              clear y0
              by_cases y1 : x.runs[k].tasks[m].need = y.runs[k].tasks[m].need
              case neg =>
                have t1 : (x.runs[k].tasks[m].need == y.runs[k].tasks[m].need) = false := beq_eq_false_iff_ne.2 y1
                have H := ne2 (fun e => y1 (by rw [e]))
                clear y1 no ne ne2
                go_wp2
                go_quiet (fail)
                go_wp2
                go_ret
                exact ⟨ret_bool H.out.symm, bdrewN (bnext B0 hb2) _⟩
              rw [← y1] at g1
              have Y1 := Lib.hid y1
              clear y1
              by_cases y2 : x.runs[k].tasks[m].try_ = y.runs[k].tasks[m].try_
              case neg =>
                have t2 : (x.runs[k].tasks[m].try_ == y.runs[k].tasks[m].try_) = false := beq_eq_false_iff_ne.2 y2
                have H := ne2 (fun e => y2 (by rw [e]))
                clear y2 no ne ne2
                go_wp2
                go_quiet (fail)
                go_wp2
                go_ret
                exact ⟨ret_bool H.out.symm, bdrewN (bnext B0 hb2) _⟩
              rw [← y2] at g2
              have Y2 := Lib.hid y2
              clear y2
              by_cases y3 : x.runs[k].tasks[m].until_ = y.runs[k].tasks[m].until_
              case neg =>
                have t3 : (x.runs[k].tasks[m].until_ == y.runs[k].tasks[m].until_) = false := beq_eq_false_iff_ne.2 y3
                have H := ne2 (fun e => y3 (by rw [e]))
                clear y3 no ne ne2
                go_wp2
                go_quiet (fail)
                go_wp2
                go_ret
                exact ⟨ret_bool H.out.symm, bdrewN (bnext B0 hb2) _⟩
              rw [← y3] at g3
              have Y3 := Lib.hid y3
              clear y3
              have S : Hid (x.runs[k].tasks.take (m + 1) = y.runs[k].tasks.take (m + 1)) := by
                show x.runs[k].tasks.take (m + 1) = y.runs[k].tasks.take (m + 1)
                have hx : x.runs[k].tasks[m] = y.runs[k].tasks[m] := by
                  have e0 := Y0.out; have e1 := Y1.out; have e2 := Y2.out; have e3 := Y3.out
                  revert e0 e1 e2 e3
                  cases x.runs[k].tasks[m]; cases y.runs[k].tasks[m]
                  simp only
                  rintro rfl; rintro rfl; rintro rfl; rintro rfl; rfl
                rw [take_snoc _ m hmt, take_snoc _ m hmt', heq2.out, hx]
              clear no ne ne2
              go_wp2
              go_quiet (fail)
              go_wp2
              exact ⟨⟨m + 1, by omega, by go_num, S, bdrewN hb2 _⟩, by simp [intOf]; omega⟩
            · have j1 : ¬ (m : Int) < (x.runs[k].tasks.length : Int) := by omega
              have S : Hid (x.runs.take (k + 1) = y.runs.take (k + 1)) := by
                show x.runs.take (k + 1) = y.runs.take (k + 1)
                have g := heq2.out
                rw [List.take_of_length_le (by omega), List.take_of_length_le (by rw [← G.out]; omega)] at g
                have e0 := Z0.out; have e1 := Z1.out; have e2 := Z2.out
                have hx : x.runs[k] = y.runs[k] := by
                  revert e0 e1 e2 g
                  cases x.runs[k]; cases y.runs[k]
                  simp only
                  rintro rfl; rintro rfl; rintro rfl; rintro rfl; rfl
                rw [take_snoc _ k hlt, take_snoc _ k hlt', heq.out, hx]
              clear no ne
              go_wp2
              exact ⟨⟨k + 1, by omega, by go_num, S, bnext hb hb2⟩, by simp [intOf]; omega⟩
        · have i1 : ¬ (k : Int) < (x.runs.length : Int) := by omega
          have H : Hid (decide (x = y) = true) := decide_eq_true (by
            have g := heq.out
            rw [List.take_of_length_le (by omega), List.take_of_length_le (by rw [← H3.out]; omega)] at g
            have e0 := H0.out; have e1 := H1.out; have e2 := HS.out
            cases x; cases y
            simp only at e0 e1 e2 g
            subst e0 e1 e2 g
            rfl)
          clear no
          go_wp2
          go_ret
          exact ⟨ret_bool H.out.symm, B0⟩
end Go.Proofs.Ytjobmbjadpldfaa
