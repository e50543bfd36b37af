/-
  MemoAt of the reference and of the program.
-/
import Derived.Test.YtcapldjhcplfmaaTDesk
import Derived.Test.YtcapldjhcplfmaaDb
namespace Go.Proofs.Ytcapldjhcplfmaa
open Go.RowKit
set_option maxRecDepth 100000
set_option maxHeartbeats 1000000
set_option linter.unusedVariables false
set_option linter.unusedSimpArgs false

def memoAt (k : Desk) (id : Int) : Reply × Bool := match k.memos.find? (fun m => m.id == id) with | some m => (m.reply, true) | none => (⟨0, 0, 0, 0⟩, false)
theorem memoAt_found {k : Desk} {id : Int} {j : Nat} (hj : j < k.memos.length) (h : ∀ i (hi : i < k.memos.length), i < j → ¬ k.memos[i].id = id) (e : k.memos[j].id = id) : memoAt k id = (k.memos[j].reply, true) := by
  have : k.memos.find? (fun m => m.id == id) = some k.memos[j] := by
    rw [List.find?_eq_some_iff_getElem]
    exact ⟨by simp [e], j, hj, rfl, fun i hi => by simpa using h i (by omega) hi⟩
  simp [memoAt, this]
theorem memoAt_none {k : Desk} {id : Int} (h : ∀ i (hi : i < k.memos.length), ¬ k.memos[i].id = id) : memoAt k id = (⟨0, 0, 0, 0⟩, false) := by
  have : k.memos.find? (fun m => m.id == id) = none := by
    rw [List.find?_eq_none]
    intro x hx
    obtain ⟨i, hi, rfl⟩ := List.getElem_of_mem hx
    simpa using h i hi
  simp [memoAt, this]
/-- the cells of a desk -/
abbrev deskC (k : Desk) (s : (Sl × Sl) × Sl) : List Value := [.int .i64 k.yard.now, .int .i64 k.yard.seq, .slice s.1.1.a s.1.1.n s.1.1.c, .slice s.1.2.a s.1.2.n s.1.2.c, .slice s.2.a s.2.n s.2.c, .int .i64 k.fr]

theorem specMemoAt_own (k : Desk) (s : (Sl × Sl) × Sl) (id : Int) (w : World) (hm0 : cntDesk k ≤ 2000000) (h0 : deskD.rd w w.heap.size k s) :
    Calls Try.prog 50 #[deskW k s, .int .i64 id] w fun e w' => e = .returned (.tuple #[replyW (memoAt k id).1 (), .bool (memoAt k id).2]) ∧ Below w.heap.size w w' := by
  obtain ⟨s1, ⟨A, n, c⟩⟩ := s
  have h1 : RdL memoD w w.heap.size (Sl.v ⟨A, n, c⟩) k.memos := h0.2
  obtain ⟨A', c', hv, -⟩ := h1.form
  simp only [Sl.v, Value.slice.injEq] at hv
  obtain ⟨rfl, rfl, rfl⟩ := hv
  have hll : k.memos.length ≤ 2000000 := Nat.le_trans (cntL_len cntMemo _) (by unfold cntDesk at hm0; omega)
  have D0 := DBox.new 78 (deskC k (s1, ⟨A, k.memos.length, c⟩)) w rfl
  have D1 := D0.below ((Below.refl _ _).alloc (Nat.le_refl _) (.cells #[.int .i64 0, .int .i64 0, .int .i64 0, .int .i64 0] 73))
  have Z1 := DBox.new 73 [.int .i64 0, .int .i64 0, .int .i64 0, .int .i64 0] (w.alloc (.cells (deskC k (s1, ⟨A, k.memos.length, c⟩)).toArray 78)) (b := w.heap.size + 1) (by simp)
  have hb0 : Below w.heap.size w ((w.alloc (.cells (deskC k (s1, ⟨A, k.memos.length, c⟩)).toArray 78)).alloc (.cells #[.int .i64 0, .int .i64 0, .int .i64 0, .int .i64 0] 73)) := by repeat (first | exact Below.refl _ _ | refine Below.alloc ?_ (by simp <;> omega) _)
  have hsW : ((w.alloc (.cells (deskC k (s1, ⟨A, k.memos.length, c⟩)).toArray 78)).alloc (.cells #[.int .i64 0, .int .i64 0, .int .i64 0, .int .i64 0] 73)).heap.size = w.heap.size + 2 := by simp
  clear hm0 D0
  go_enter Try.func50, Try.ntmps50
  go_wp2_with fail
  generalize ((w.alloc (.cells (deskC k (s1, ⟨A, k.memos.length, c⟩)).toArray 78)).alloc (.cells #[.int .i64 0, .int .i64 0, .int .i64 0, .int .i64 0] 73)) = W at *
  have HsW := Lib.hid hsW
  have zW := D1.lt
  have zZ := Z1.lt
  clear hsW
  go_wp2
  go_loopw [6] (fun i wr => ∃ j : Nat, j ≤ k.memos.length ∧ i = .int .i64 j ∧ Hid (∀ i (hi : i < k.memos.length), i < j → ¬ k.memos[i].id = id) ∧ Below W.heap.size W wr) (fun i _ => k.memos.length - (intOf i).toNat)
  case atStart => exact ⟨0, Nat.zero_le _, rfl, fun i hi h => absurd h (by omega), Below.refl _ _⟩
  case round =>
    obtain ⟨j, hj, rfl, hno, hb1⟩ := hrel
    have hb : Below w.heap.size w wr := hb0.trans (hb1.mono (by rw [HsW.out]; omega))
    have hs := hb1.size
    have dl : w.heap.size + 1 < wr.heap.size := by omega
    have dm : wr.cell? ⟨w.heap.size, 4, none⟩ = some (.slice A k.memos.length c) := (D1.below hb1).cell 4 _ rfl
    by_cases hlt : j < k.memos.length
    · obtain ⟨b, o, s', rfl, hbb, hr, c0, c1, c2, c3, c4⟩ := (h1.below hb).memo hlt
      have Z2 := Z1.below hb1
      have z0 : wr.cell? ⟨w.heap.size + 1, 0, none⟩ = some (.int .i64 0) := Z2.cell 0 _ rfl
      have z1 : wr.cell? ⟨w.heap.size + 1, 1, none⟩ = some (.int .i64 0) := Z2.cell 1 _ rfl
      have z2 : wr.cell? ⟨w.heap.size + 1, 2, none⟩ = some (.int .i64 0) := Z2.cell 2 _ rfl
      have z3 : wr.cell? ⟨w.heap.size + 1, 3, none⟩ = some (.int .i64 0) := Z2.cell 3 _ rfl
      have zf := Z2.free
      by_cases he : k.memos[j].id = id
      · have e := Lib.hid (memoAt_found hlt (fun i hi h => hno.out i hi h) he)
        have t0 : (k.memos[j].id == id) = true := by simpa using he
        clear he
        go_wp2
        refine bodyPost_ret (v := .tuple #[replyW (memoAt k id).1 (), .bool (memoAt k id).2]) ?_ rfl ⟨rfl, ?_⟩
        · rw [e.out]
          simp [replyW, results, Try.results50, go_sem, z0, z1, z2, z3, dl, Nat.ne_of_lt dl]
        · repeat (first | (with_reducible exact hb) | refine Below.setCell ?_ (by simp <;> omega) _ | refine Below.alloc ?_ (by simp <;> omega) _)

      · have t0 : (k.memos[j].id == id) = false := by simpa using he
        have S : Hid (∀ i (hi : i < k.memos.length), i < j + 1 → ¬ k.memos[i].id = id) := by
          intro i hi h
          by_cases e : i = j
          · subst e; exact he
          · exact hno.out i hi (by omega)
        clear he
        go_wp2
        exact ⟨⟨j + 1, by omega, by go_num, S, by first | exact hb1 | exact hb1.alloc hs _⟩, by simp [intOf]; omega⟩
    · have e := Lib.hid (memoAt_none (fun i hi => hno.out i hi (by omega)))
      have Z2 := Z1.below hb1
      have z0 : wr.cell? ⟨w.heap.size + 1, 0, none⟩ = some (.int .i64 0) := Z2.cell 0 _ rfl
      have z1 : wr.cell? ⟨w.heap.size + 1, 1, none⟩ = some (.int .i64 0) := Z2.cell 1 _ rfl
      have z2 : wr.cell? ⟨w.heap.size + 1, 2, none⟩ = some (.int .i64 0) := Z2.cell 2 _ rfl
      have z3 : wr.cell? ⟨w.heap.size + 1, 3, none⟩ = some (.int .i64 0) := Z2.cell 3 _ rfl
      have zf := Z2.free
      go_wp2
      refine bodyPost_ret (v := .tuple #[replyW (memoAt k id).1 (), .bool (memoAt k id).2]) ?_ rfl ⟨rfl, ?_⟩
      · rw [e.out]
        simp [replyW, results, Try.results50, go_sem, z0, z1, z2, z3, dl, Nat.ne_of_lt dl]
      · repeat (first | (with_reducible exact hb) | refine Below.setCell ?_ (by simp <;> omega) _ | refine Below.alloc ?_ (by simp <;> omega) _)

theorem implMemoAt_own (k : Desk) (s : (Sl × Sl) × Sl) (id : Int) (w : World) (hm0 : cntDesk k ≤ 2000000) (h0 : deskD.rd w w.heap.size k s) :
    Calls Try.prog 52 #[deskW k s, .int .i64 id] w fun e w' => e = .returned (.tuple #[replyW (memoAt k id).1 (), .bool (memoAt k id).2]) ∧ Below w.heap.size w w' := by
  obtain ⟨s1, ⟨A, n, c⟩⟩ := s
  have h1 : RdL memoD w w.heap.size (Sl.v ⟨A, n, c⟩) k.memos := h0.2
  obtain ⟨A', c', hv, -⟩ := h1.form
  simp only [Sl.v, Value.slice.injEq] at hv
  obtain ⟨rfl, rfl, rfl⟩ := hv
  have hll : k.memos.length ≤ 2000000 := Nat.le_trans (cntL_len cntMemo _) (by unfold cntDesk at hm0; omega)
  have D0 := DBox.new 78 (deskC k (s1, ⟨A, k.memos.length, c⟩)) w rfl
  have D1 := D0.below ((Below.refl _ _).alloc (Nat.le_refl _) (.cells #[.int .i64 0, .int .i64 0, .int .i64 0, .int .i64 0] 73))
  have Z1 := DBox.new 73 [.int .i64 0, .int .i64 0, .int .i64 0, .int .i64 0] (w.alloc (.cells (deskC k (s1, ⟨A, k.memos.length, c⟩)).toArray 78)) (b := w.heap.size + 1) (by simp)
  have hb0 : Below w.heap.size w ((w.alloc (.cells (deskC k (s1, ⟨A, k.memos.length, c⟩)).toArray 78)).alloc (.cells #[.int .i64 0, .int .i64 0, .int .i64 0, .int .i64 0] 73)) := by repeat (first | exact Below.refl _ _ | refine Below.alloc ?_ (by simp <;> omega) _)
  have hsW : ((w.alloc (.cells (deskC k (s1, ⟨A, k.memos.length, c⟩)).toArray 78)).alloc (.cells #[.int .i64 0, .int .i64 0, .int .i64 0, .int .i64 0] 73)).heap.size = w.heap.size + 2 := by simp
  clear hm0 D0
  go_enter Try.func52, Try.ntmps52
  go_wp2_with fail
  generalize ((w.alloc (.cells (deskC k (s1, ⟨A, k.memos.length, c⟩)).toArray 78)).alloc (.cells #[.int .i64 0, .int .i64 0, .int .i64 0, .int .i64 0] 73)) = W at *
  have HsW := Lib.hid hsW
  have zW := D1.lt
  have zZ := Z1.lt
  clear hsW
  go_wp2
  go_loopw [11] (fun i wr => ∃ j : Nat, j ≤ k.memos.length ∧ i = .int .i64 j ∧ Hid (∀ i (hi : i < k.memos.length), i < j → ¬ k.memos[i].id = id) ∧ Below W.heap.size W wr) (fun i _ => k.memos.length - (intOf i).toNat)
  case atStart => exact ⟨0, Nat.zero_le _, rfl, fun i hi h => absurd h (by omega), Below.refl _ _⟩
  case round =>
    obtain ⟨j, hj, rfl, hno, hb1⟩ := hrel
    have hb : Below w.heap.size w wr := hb0.trans (hb1.mono (by rw [HsW.out]; omega))
    have hs := hb1.size
    have dl : w.heap.size + 1 < wr.heap.size := by omega
    have dm : wr.cell? ⟨w.heap.size, 4, none⟩ = some (.slice A k.memos.length c) := (D1.below hb1).cell 4 _ rfl
    by_cases hlt : j < k.memos.length
    · obtain ⟨b, o, s', rfl, hbb, hr, c0, c1, c2, c3, c4⟩ := (h1.below hb).memo hlt
      have Z2 := Z1.below hb1
      have z0 : wr.cell? ⟨w.heap.size + 1, 0, none⟩ = some (.int .i64 0) := Z2.cell 0 _ rfl
      have z1 : wr.cell? ⟨w.heap.size + 1, 1, none⟩ = some (.int .i64 0) := Z2.cell 1 _ rfl
      have z2 : wr.cell? ⟨w.heap.size + 1, 2, none⟩ = some (.int .i64 0) := Z2.cell 2 _ rfl
      have z3 : wr.cell? ⟨w.heap.size + 1, 3, none⟩ = some (.int .i64 0) := Z2.cell 3 _ rfl
      have zf := Z2.free
      by_cases he : k.memos[j].id = id
      · have e := Lib.hid (memoAt_found hlt (fun i hi h => hno.out i hi h) he)
        have t0 : (k.memos[j].id == id) = true := by simpa using he
        clear he
        go_wp2
        refine bodyPost_ret (v := .tuple #[replyW (memoAt k id).1 (), .bool (memoAt k id).2]) ?_ rfl ⟨rfl, ?_⟩
        · rw [e.out]
          simp [replyW, results, Try.results52, go_sem, z0, z1, z2, z3, dl, Nat.ne_of_lt dl]
        · repeat (first | (with_reducible exact hb) | refine Below.setCell ?_ (by simp <;> omega) _ | refine Below.alloc ?_ (by simp <;> omega) _)

      · have t0 : (k.memos[j].id == id) = false := by simpa using he
        have S : Hid (∀ i (hi : i < k.memos.length), i < j + 1 → ¬ k.memos[i].id = id) := by
          intro i hi h
          by_cases e : i = j
          · subst e; exact he
          · exact hno.out i hi (by omega)
        clear he
        go_wp2
        exact ⟨⟨j + 1, by omega, by go_num, S, by first | exact hb1 | exact hb1.alloc hs _⟩, by simp [intOf]; omega⟩
    · have e := Lib.hid (memoAt_none (fun i hi => hno.out i hi (by omega)))
      have Z2 := Z1.below hb1
      have z0 : wr.cell? ⟨w.heap.size + 1, 0, none⟩ = some (.int .i64 0) := Z2.cell 0 _ rfl
      have z1 : wr.cell? ⟨w.heap.size + 1, 1, none⟩ = some (.int .i64 0) := Z2.cell 1 _ rfl
      have z2 : wr.cell? ⟨w.heap.size + 1, 2, none⟩ = some (.int .i64 0) := Z2.cell 2 _ rfl
      have z3 : wr.cell? ⟨w.heap.size + 1, 3, none⟩ = some (.int .i64 0) := Z2.cell 3 _ rfl
      have zf := Z2.free
      go_wp2
      refine bodyPost_ret (v := .tuple #[replyW (memoAt k id).1 (), .bool (memoAt k id).2]) ?_ rfl ⟨rfl, ?_⟩
      · rw [e.out]
        simp [replyW, results, Try.results52, go_sem, z0, z1, z2, z3, dl, Nat.ne_of_lt dl]
      · repeat (first | (with_reducible exact hb) | refine Below.setCell ?_ (by simp <;> omega) _ | refine Below.alloc ?_ (by simp <;> omega) _)

end Go.Proofs.Ytcapldjhcplfmaa
