/-
  RunAt of the reference and of the program. Written by program (cs.py).
-/
import Derived.Test.YtcapldjhcplfmaaTYard
import Derived.Test.YtcapldjhcplfmaaDb
import Derived.Test.YtcapldjhcplfmaaWi
namespace Go.Proofs.Ytcapldjhcplfmaa
open Go.RowKit
set_option maxRecDepth 100000
set_option maxHeartbeats 1000000
set_option linter.unusedVariables false
set_option linter.unusedSimpArgs false

def hasId (id : Int) (r : Run) : Bool := r.id == id
def runAt (y : Yard) (id : Int) : Int := if y.runs.length ≤ 8 then idxOf (hasId id) y.runs else -1
theorem runAt_big {y : Yard} {id : Int} (h : ¬ y.runs.length ≤ 8) : runAt y id = -1 := by unfold runAt; rw [if_neg h]
theorem runAt_idx {y : Yard} {id : Int} (h : y.runs.length ≤ 8) : runAt y id = idxOf (hasId id) y.runs := by unfold runAt; rw [if_pos h]
theorem idxOf_range {α : Type} (p : α → Bool) (l : List α) : idxOf p l = -1 ∨ ∃ k : Nat, k < l.length ∧ idxOf p l = k := by
  unfold idxOf
  cases h : l.findIdx? p with
  | none => exact .inl rfl
  | some i => exact .inr ⟨i, (List.findIdx?_eq_some_iff_getElem.1 h).1, rfl⟩
theorem runAt_range (y : Yard) (id : Int) : runAt y id = -1 ∨ ∃ k : Nat, k < y.runs.length ∧ runAt y id = k := by
  by_cases h : y.runs.length ≤ 8
  · rw [runAt_idx h]; exact idxOf_range _ _
  · exact .inl (runAt_big h)

theorem specRunAt_own (y : Yard) (s : Sl × Sl) (id : Int) (w : World) (hl : cntYard y ≤ 2000000) (h : yardD.rd w w.heap.size y s) :
    Calls Try.prog 97 #[yardW y s, .int .i64 id] w fun e w' => e = .returned (.int .i64 (runAt y id)) ∧ Below w.heap.size w w' := by
  obtain ⟨s1, ⟨A, n, c⟩⟩ := s
  have h1 : RdL runD w w.heap.size (Sl.v ⟨A, n, c⟩) y.runs := h.2
  obtain ⟨A', c', hv, -⟩ := h1.form
  simp only [Sl.v, Value.slice.injEq] at hv
  obtain ⟨rfl, rfl, rfl⟩ := hv
  have hll : y.runs.length ≤ 2000000 := Nat.le_trans (cntL_len cntRun _) (by unfold cntYard at hl; omega)
  have D := DBox.new 62 [.int .i64 y.now, .int .i64 y.seq, .slice (s1, (⟨A, y.runs.length, c⟩ : Sl)).1.a (s1, (⟨A, y.runs.length, c⟩ : Sl)).1.n (s1, (⟨A, y.runs.length, c⟩ : Sl)).1.c, .slice (s1, (⟨A, y.runs.length, c⟩ : Sl)).2.a (s1, (⟨A, y.runs.length, c⟩ : Sl)).2.n (s1, (⟨A, y.runs.length, c⟩ : Sl)).2.c] w rfl
  have hb0 : Below w.heap.size w (w.alloc (.cells #[.int .i64 y.now, .int .i64 y.seq, .slice (s1, (⟨A, y.runs.length, c⟩ : Sl)).1.a (s1, (⟨A, y.runs.length, c⟩ : Sl)).1.n (s1, (⟨A, y.runs.length, c⟩ : Sl)).1.c, .slice (s1, (⟨A, y.runs.length, c⟩ : Sl)).2.a (s1, (⟨A, y.runs.length, c⟩ : Sl)).2.n (s1, (⟨A, y.runs.length, c⟩ : Sl)).2.c] 62)) := (Below.refl _ _).alloc (Nat.le_refl _) _
  go_enter Try.func97, Try.ntmps97
  go_wp2_with fail
  generalize (w.alloc (.cells #[.int .i64 y.now, .int .i64 y.seq, .slice (s1, (⟨A, y.runs.length, c⟩ : Sl)).1.a (s1, (⟨A, y.runs.length, c⟩ : Sl)).1.n (s1, (⟨A, y.runs.length, c⟩ : Sl)).1.c, .slice (s1, (⟨A, y.runs.length, c⟩ : Sl)).2.a (s1, (⟨A, y.runs.length, c⟩ : Sl)).2.n (s1, (⟨A, y.runs.length, c⟩ : Sl)).2.c] 62)) = W at *
  have k3 : W.cell? ⟨w.heap.size, 3, none⟩ = some (.slice A y.runs.length c) := D.cell 3 _ rfl
  have h2 := h1.below hb0
  go_wp2
  go_loop [5] (fun i => ∃ k : Nat, k ≤ y.runs.length ∧ i = .int .i64 k ∧ Hid (∀ j (hj : j < y.runs.length), j < k → hasId id y.runs[j] = false)) (fun i => y.runs.length - (intOf i).toNat)
  case atStart => exact ⟨0, Nat.zero_le _, rfl, fun j hj h0 => absurd h0 (by omega)⟩
  case round =>
    obtain ⟨k, hk, rfl, hno⟩ := hrel
    by_cases h8 : y.runs.length ≤ 8
    · by_cases hlt : k < y.runs.length
      · obtain ⟨b, o, s', rfl, hbb, hr, c0, -⟩ := h2.run hlt
        have hltI : (k : Int) < (y.runs.length : Int) := by omega
        cases hp : hasId id y.runs[k]
        · have t0 : (y.runs[k].id == id) = false := hp
          have S : Hid (∀ j (hj : j < y.runs.length), j < k + 1 → hasId id y.runs[j] = false) := by
            intro j hj h0
            by_cases e : j = k
            · subst e; exact hp
            · exact hno.out j hj (by omega)
          clear hp
          go_wp2
          exact ⟨⟨k + 1, by omega, by go_num, S⟩, by simp [intOf]; omega⟩
        · have t0 : (y.runs[k].id == id) = true := hp
          have H := Lib.hid (show runAt y id = k by rw [runAt_idx h8]; exact idxOf_found hlt (fun j hj => hno.out j (by omega) hj) hp)
          clear hp
          go_wp2
          go_ret
          exact ⟨ret_int H.out.symm, hb0⟩
      · have H := Lib.hid (show runAt y id = -1 by rw [runAt_idx h8]; exact idxOf_none (fun j hj => hno.out j hj (by omega)))
        have hltI : ¬ ((k : Int) < (y.runs.length : Int)) := by omega
        go_wp2
        go_ret
        exact ⟨ret_int H.out.symm, hb0⟩
    · have H := Lib.hid (runAt_big (id := id) h8)
      by_cases hlt : k < y.runs.length
      · have hltI : (k : Int) < (y.runs.length : Int) := by omega
        go_wp2
        go_ret
        exact ⟨ret_int H.out.symm, hb0⟩
      · have hltI : ¬ ((k : Int) < (y.runs.length : Int)) := by omega
        go_wp2
        go_ret
        exact ⟨ret_int H.out.symm, hb0⟩

theorem runAt1_any (r : Run) (s : Sl × Sl) (id : Int) (p : Nat) (w : World) (hp : w.cell? ⟨p, 0, none⟩ = some (.int .i64 id)) (hp' : p < w.heap.size) :
    Calls Try.prog 139 #[runW r s, .pointer (some ⟨p, 0, none⟩)] w fun e w' => e = .returned (.bool (hasId id r)) ∧ Below w.heap.size w w' := by
  unfold hasId
  cases t1 : (r.id == id)
  all_goals
    go_enter Try.func139, Try.ntmps139
    go_wp2
    go_ret
    exact ⟨rfl, by repeat (first | exact Below.refl _ _ | refine Below.alloc ?_ (by simp <;> omega) _)⟩

theorem indexRun_any (l : List Run) (s : Sl) (id : Int) (p : Nat) (w : World) (hl : l.length ≤ 2000000) (h : RdL runD w w.heap.size s.v l) (hp : w.cell? ⟨p, 0, none⟩ = some (.int .i64 id)) (hp' : p < w.heap.size) :
    Calls Try.prog 138 #[.slice s.a s.n s.c, .func (.func 139) #[] #[.pointer (some ⟨p, 0, none⟩)]] w
      fun e w' => e = .returned (.int .i64 (idxOf (hasId id) l)) ∧ Below w.heap.size w w' := by
  obtain ⟨A, n, c⟩ := s
  obtain ⟨A', c', hv, -⟩ := h.form
  simp only [Sl.v, Value.slice.injEq] at hv
  obtain ⟨rfl, rfl, rfl⟩ := hv
  go_enter Try.func138, Try.ntmps138
  go_wp2
  go_loopw [8] (fun i wr => ∃ k : Nat, k ≤ l.length ∧ i = .int .i64 k ∧ Hid (∀ j (hj : j < k) (hj' : j < l.length), hasId id l[j] = false) ∧ Below w.heap.size w wr) (fun i _ => l.length - (intOf i).toNat)
  case atStart => exact ⟨0, Nat.zero_le _, rfl, fun j hj => absurd hj (by omega), Below.refl _ _⟩
  case round =>
    obtain ⟨k, hk, rfl, hno, hb⟩ := hrel
    by_cases hlt : k < l.length
    · obtain ⟨b, o, s', rfl, hbb, hr, c0, c1, c2, c3, c4, c5, c6, c7⟩ := (h.below hb).run hlt
      have hp1 := (hb.cell (p := ⟨p, 0, none⟩) hp').trans hp
      have hs := hb.size
      cases t1 : hasId id l[k]
      · have S : Hid (∀ j (hj : j < k + 1) (hj' : j < l.length), hasId id l[j] = false) := by
          intro j hj hj'
          by_cases e : j = k
          · subst e; exact t1
          · exact hno.out j (by omega) hj'
        go_wp2_with (go_at_call 139; refine (runAt1_any l[k] s' id p _ hp1 (by omega)).mono ?_; rintro e w1 ⟨rfl, hb1⟩; simp only [t1])
        exact ⟨⟨k + 1, by omega, by go_num, S, hb.trans (hb1.mono hb.size)⟩, by simp [intOf]; omega⟩
      · have H := Lib.hid (idxOf_found hlt (fun j hj => hno.out j hj (by omega)) t1)
        go_wp2_with (go_at_call 139; refine (runAt1_any l[k] s' id p _ hp1 (by omega)).mono ?_; rintro e w1 ⟨rfl, hb1⟩; simp only [t1])
        go_ret
        exact ⟨ret_int (by rw [H.out]), hb.trans (hb1.mono hb.size)⟩
    · have H := Lib.hid (idxOf_none (p := hasId id) (l := l) (fun j hj => hno.out j (by omega) hj))
      go_wp2
      go_ret
      exact ⟨ret_int (by rw [H.out]), hb⟩

theorem implRunAt_own (y : Yard) (s : Sl × Sl) (id : Int) (w : World) (hl : cntYard y ≤ 2000000) (h : yardD.rd w w.heap.size y s) :
    Calls Try.prog 100 #[yardW y s, .int .i64 id] w fun e w' => e = .returned (.int .i64 (runAt y id)) ∧ Below w.heap.size w w' := by
  obtain ⟨s1, ⟨A, n, c⟩⟩ := s
  have h1 : RdL runD w w.heap.size (Sl.v ⟨A, n, c⟩) y.runs := h.2
  obtain ⟨A', c', hv, -⟩ := h1.form
  simp only [Sl.v, Value.slice.injEq] at hv
  obtain ⟨rfl, rfl, rfl⟩ := hv
  have hll : y.runs.length ≤ 2000000 := Nat.le_trans (cntL_len cntRun _) (by unfold cntYard at hl; omega)
  have D0 := DBox.new 62 [.int .i64 y.now, .int .i64 y.seq, .slice (s1, (⟨A, y.runs.length, c⟩ : Sl)).1.a (s1, (⟨A, y.runs.length, c⟩ : Sl)).1.n (s1, (⟨A, y.runs.length, c⟩ : Sl)).1.c, .slice (s1, (⟨A, y.runs.length, c⟩ : Sl)).2.a (s1, (⟨A, y.runs.length, c⟩ : Sl)).2.n (s1, (⟨A, y.runs.length, c⟩ : Sl)).2.c] w rfl
  have D := D0.below ((Below.refl _ _).alloc (Nat.le_refl _) (.cells #[.int .i64 id] 3))
  have E := DBox.new 3 [.int .i64 id] (w.alloc (.cells #[.int .i64 y.now, .int .i64 y.seq, .slice (s1, (⟨A, y.runs.length, c⟩ : Sl)).1.a (s1, (⟨A, y.runs.length, c⟩ : Sl)).1.n (s1, (⟨A, y.runs.length, c⟩ : Sl)).1.c, .slice (s1, (⟨A, y.runs.length, c⟩ : Sl)).2.a (s1, (⟨A, y.runs.length, c⟩ : Sl)).2.n (s1, (⟨A, y.runs.length, c⟩ : Sl)).2.c] 62)) (b := w.heap.size + 1) (by simp)
  have hb0 : Below w.heap.size w ((w.alloc (.cells #[.int .i64 y.now, .int .i64 y.seq, .slice (s1, (⟨A, y.runs.length, c⟩ : Sl)).1.a (s1, (⟨A, y.runs.length, c⟩ : Sl)).1.n (s1, (⟨A, y.runs.length, c⟩ : Sl)).1.c, .slice (s1, (⟨A, y.runs.length, c⟩ : Sl)).2.a (s1, (⟨A, y.runs.length, c⟩ : Sl)).2.n (s1, (⟨A, y.runs.length, c⟩ : Sl)).2.c] 62)).alloc (.cells #[.int .i64 id] 3)) := by repeat (first | exact Below.refl _ _ | refine Below.alloc ?_ (by simp <;> omega) _)
  clear D0
  by_cases h8 : y.runs.length ≤ 8
  case neg =>
    have H := Lib.hid (runAt_big (id := id) h8)
    go_enter Try.func100, Try.ntmps100
    go_wp2
    go_ret
    exact ⟨ret_int H.out.symm, hb0⟩
  have H := Lib.hid (runAt_idx (id := id) h8)
  go_enter Try.func100, Try.ntmps100
  go_wp2_with fail
  generalize ((w.alloc (.cells #[.int .i64 y.now, .int .i64 y.seq, .slice (s1, (⟨A, y.runs.length, c⟩ : Sl)).1.a (s1, (⟨A, y.runs.length, c⟩ : Sl)).1.n (s1, (⟨A, y.runs.length, c⟩ : Sl)).1.c, .slice (s1, (⟨A, y.runs.length, c⟩ : Sl)).2.a (s1, (⟨A, y.runs.length, c⟩ : Sl)).2.n (s1, (⟨A, y.runs.length, c⟩ : Sl)).2.c] 62)).alloc (.cells #[.int .i64 id] 3)) = W at *
  have e0 : W.cell? ⟨w.heap.size + 1, 0, none⟩ = some (.int .i64 id) := E.cell 0 _ rfl
  have el := E.lt
  refine (indexRun_any y.runs ⟨A, y.runs.length, c⟩ id (w.heap.size + 1) _ hll ((h1.below hb0).more hb0.size) e0 el).mono ?_
  rintro e w1 ⟨rfl, hb1⟩
  go_wp2
  go_ret
  exact ⟨ret_int H.out.symm, bnext hb0 hb1⟩
end Go.Proofs.Ytcapldjhcplfmaa
