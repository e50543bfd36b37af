/-
  slices.Index, slices.Contains at ints; allIn of the program.
-/
import Derived.Test.YtoccmpijfggmkaaOg
import Derived.Test.YtoccmpijfggmkaaFx
namespace Go.Proofs.Ytoccmpijfggmkaa
open Go.RowKit
set_option maxRecDepth 100000
set_option maxHeartbeats 1000000

theorem idxOf_any {α : Type} {p : α → Bool} {l : List α} : (0 ≤ idxOf p l) ↔ ∃ x ∈ l, p x = true := by
  unfold idxOf
  cases h : l.findIdx? p with
  | none =>
    rw [List.findIdx?_eq_none_iff] at h
    simp only
    refine ⟨fun h => absurd h (by omega), ?_⟩
    rintro ⟨x, hx, hp⟩
    have := h x hx
    rw [hp] at this
    cases this
  | some i =>
    rw [List.findIdx?_eq_some_iff_getElem] at h
    obtain ⟨hi, hp, _⟩ := h
    simp only
    exact ⟨fun _ => ⟨_, List.getElem_mem hi, hp⟩, fun _ => by omega⟩

theorem indexInt_any (v : Value) (l : List Nat) (x : Nat) (B : Nat) (w : World) (hl : l.length ≤ 2000000) (h : Rd natE w B v l) :
    Calls Try.prog 160 #[v, .int .i64 (x : Int)] w fun e w' => e = .returned (.int .i64 (idxOf (fun y => decide (x = y)) l)) ∧ w = w' := by
  obtain ⟨A, c, rfl, -⟩ := id h
  go_enter Try.func160, Try.ntmps160
  go_wp2
  go_loop [8] (fun i => ∃ k : Nat, k ≤ l.length ∧ i = .int .i64 k ∧ Hid (∀ j (hj : j < k) (hj' : j < l.length), decide (x = l[j]) = false)) (fun i => l.length - (intOf i).toNat)
  case atStart => exact ⟨0, Nat.zero_le _, rfl, fun j hj => absurd hj (by omega)⟩
  case round =>
    obtain ⟨k, hk, rfl, hno⟩ := hrel
    by_cases hlt : k < l.length
    · obtain ⟨b, o, rfl, hbb, c0⟩ := h.nat hlt
      have hltI : (k : Int) < (l.length : Int) := by omega
      by_cases hx : x = l[k]
      · have H := Lib.hid (idxOf_found (p := fun y => decide (x = y)) hlt (fun j hj => hno.out j hj (by omega)) (show decide (x = l[k]) = true by simp [hx]))
        have hxb : ((x : Int) == (l[k] : Int)) = true := by simp [hx]
        clear hx
        go_wp2
        go_ret
        exact ⟨ret_int (by rw [H.out]), rfl⟩
      · have hxb : ((x : Int) == (l[k] : Int)) = false := beq_eq_false_iff_ne.2 (by omega)
        have S : Hid (∀ j (hj : j < k + 1) (hj' : j < l.length), decide (x = l[j]) = false) := by
          intro j hj hj'
          by_cases e : j = k
          · subst e; simpa using hx
          · exact hno.out j (by omega) hj'
        clear hx
        go_wp2
        exact ⟨⟨k + 1, by omega, by go_num, S⟩, by simp [intOf]; omega⟩
    · have hltI : ¬ (k : Int) < (l.length : Int) := by omega
      have H := Lib.hid (idxOf_none (p := fun y => decide (x = y)) (l := l) (fun j hj => hno.out j (by omega) hj))
      go_wp2
      go_ret
      exact ⟨ret_int (by rw [H.out]), rfl⟩

theorem containsInt_any (v : Value) (l : List Nat) (x : Nat) (B : Nat) (w : World) (hl : l.length ≤ 2000000) (h : Rd natE w B v l) :
    Calls Try.prog 154 #[v, .int .i64 (x : Int)] w fun e w' => e = .returned (.bool (decide (x ∈ l))) ∧ w = w' := by
  have H := Lib.hid (show decide (0 ≤ idxOf (fun y => decide (x = y)) l) = decide (x ∈ l) from decide_eq_decide.2 (idxOf_any.trans (by simp)))
  go_enter Try.func154, Try.ntmps154
  go_wp2_with fail
  refine (indexInt_any v l x B _ hl h).mono ?_
  rintro e w1 ⟨rfl, rfl⟩
  go_wp2_with fail
  go_ret
  exact ⟨ret_bool (by rw [← H.out]), rfl⟩

theorem allIn1_any (x : Nat) (q B : Nat) (vl : Value) (l : List Nat) (w : World) (hl : l.length ≤ 2000000) (hq : w.cell? ⟨q, 0, none⟩ = some vl) (h : Rd natE w B vl l) :
    Calls Try.prog 162 #[.int .i64 (x : Int), .pointer (some ⟨q, 0, none⟩)] w fun e w' => e = .returned (.bool (!decide (x ∈ l))) ∧ w = w' := by
  obtain ⟨A, c, rfl, -⟩ := id h
  go_enter Try.func162, Try.ntmps162
  go_wp2_with fail
  refine (containsInt_any _ l x B _ hl h).mono ?_
  rintro e w1 ⟨rfl, rfl⟩
  go_wp2_with fail
  go_ret
  exact ⟨rfl, rfl⟩

theorem indexFuncAll_any (v : Value) (s : List Nat) (q B B' : Nat) (vl : Value) (l : List Nat) (w : World) (hl : l.length ≤ 2000000) (hs : s.length ≤ 2000000) (h : Rd natE w B v s) (hq : w.cell? ⟨q, 0, none⟩ = some vl) (h' : Rd natE w B' vl l) :
    Calls Try.prog 175 #[v, .func (.func 162) #[] #[.pointer (some ⟨q, 0, none⟩)]] w
      fun e w' => e = .returned (.int .i64 (idxOf (fun x => !decide (x ∈ l)) s)) ∧ w = w' := by
  obtain ⟨A, c, rfl, -⟩ := id h
  go_enter Try.func175, Try.ntmps175
  go_wp2
  go_loop [8] (fun i => ∃ k : Nat, k ≤ s.length ∧ i = .int .i64 k ∧ Hid (∀ j (hj : j < k) (hj' : j < s.length), (!decide (s[j] ∈ l)) = false)) (fun i => s.length - (intOf i).toNat)
  case atStart => exact ⟨0, Nat.zero_le _, rfl, fun j hj => absurd hj (by omega)⟩
  case round =>
    obtain ⟨k, hk, rfl, hno⟩ := hrel
    by_cases hlt : k < s.length
    · obtain ⟨b, o, rfl, hbb, c0⟩ := h.nat hlt
      have hltI : (k : Int) < (s.length : Int) := by omega
      cases t1 : !decide (s[k] ∈ l)
      · have S : Hid (∀ j (hj : j < k + 1) (hj' : j < s.length), (!decide (s[j] ∈ l)) = false) := by
          intro j hj hj'
          by_cases e : j = k
          · subst e; exact t1
          · exact hno.out j (by omega) hj'
        have T1 := Lib.hid t1
        clear t1
        go_wp2_with (go_at_call 162; refine (allIn1_any s[k] q B' vl l _ hl hq h').mono ?_; rintro e w1 ⟨rfl, rfl⟩; rw [T1.out])
        exact ⟨⟨k + 1, by omega, by go_num, S⟩, by simp [intOf]; omega⟩
      · have H := Lib.hid (idxOf_found (p := fun x => !decide (x ∈ l)) hlt (fun j hj => hno.out j hj (by omega)) t1)
        have T1 := Lib.hid t1
        clear t1
        go_wp2_with (go_at_call 162; refine (allIn1_any s[k] q B' vl l _ hl hq h').mono ?_; rintro e w1 ⟨rfl, rfl⟩; rw [T1.out])
        go_ret
        exact ⟨ret_int (by rw [H.out]), rfl⟩
    · have hltI : ¬ (k : Int) < (s.length : Int) := by omega
      have H := Lib.hid (idxOf_none (p := fun x => !decide (x ∈ l)) (l := s) (fun j hj => hno.out j (by omega) hj))
      go_wp2
      go_ret
      exact ⟨ret_int (by rw [H.out]), rfl⟩

theorem containsFuncAll_any (v : Value) (s : List Nat) (q B B' : Nat) (vl : Value) (l : List Nat) (w : World) (hl : l.length ≤ 2000000) (hs : s.length ≤ 2000000) (h : Rd natE w B v s) (hq : w.cell? ⟨q, 0, none⟩ = some vl) (h' : Rd natE w B' vl l) :
    Calls Try.prog 161 #[v, .func (.func 162) #[] #[.pointer (some ⟨q, 0, none⟩)]] w
      fun e w' => e = .returned (.bool (!decide (∀ x ∈ s, x ∈ l))) ∧ w = w' := by
  have H := Lib.hid (show decide (0 ≤ idxOf (fun x => !decide (x ∈ l)) s) = !decide (∀ x ∈ s, x ∈ l) by
    rw [← decide_not]
    refine decide_eq_decide.2 (idxOf_any.trans ?_)
    simp only [Bool.not_eq_true', decide_eq_false_iff_not, Classical.not_forall, exists_prop])
  go_enter Try.func161, Try.ntmps161
  go_wp2_with fail
  refine (indexFuncAll_any v s q B B' vl l _ hl hs h hq h').mono ?_
  rintro e w1 ⟨rfl, rfl⟩
  go_wp2_with fail
  go_ret
  exact ⟨ret_bool (by rw [← H.out]), rfl⟩

theorem allIn_any (v : Value) (s : List Nat) (vl : Value) (l : List Nat) (w : World) (hl : l.length ≤ 2000000) (hs : s.length ≤ 2000000) (h : Rd natE w w.heap.size v s) (h' : Rd natE w w.heap.size vl l) :
    Calls Try.prog 155 #[v, vl] w fun e w' => e = .returned (.bool (decide (∀ x ∈ s, x ∈ l))) ∧ Below w.heap.size w w' := by
  obtain ⟨A, c, rfl, -⟩ := id h'
  have hb0 : Below w.heap.size w (w.alloc (.cells #[.slice A l.length c] 50)) := (Below.refl _ _).alloc (Nat.le_refl _) _
  go_enter Try.func155, Try.ntmps155
  go_wp2_with fail
  refine (containsFuncAll_any v s w.heap.size w.heap.size w.heap.size (.slice A l.length c) l _ hl hs (h.below hb0) (by go_simp) (h'.below hb0)).mono ?_
  rintro e w1 ⟨rfl, rfl⟩
  go_wp2_with fail
  go_ret
  exact ⟨ret_bool (by simp), hb0⟩
end Go.Proofs.Ytoccmpijfggmkaa
