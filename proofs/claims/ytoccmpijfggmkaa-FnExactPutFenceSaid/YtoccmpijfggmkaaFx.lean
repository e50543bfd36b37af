/-
  Fences: the small functions' contracts; FenceAt and FencesOk of the reference and of the program.
-/
import Derived.Test.YtoccmpijfggmkaaFe
import Derived.Test.YtoccmpijfggmkaaPl
namespace Go.Proofs.Ytoccmpijfggmkaa
open Go.RowKit
set_option maxRecDepth 100000
set_option maxHeartbeats 400000

theorem within_any (n lo hi : Int) (w : World) : Calls Try.prog 114 #[.int .i64 n, .int .i64 lo, .int .i64 hi] w fun e w' => e = .returned (.bool (inB n lo hi)) ∧ w = w' := by
  by_cases h1 : lo ≤ n
  · have t1 : decide (lo ≤ n) = true := by simpa using h1
    go_enter Try.func114, Try.ntmps114
    go_wp2
    go_ret
    exact ⟨ret_bool (by simp [inB, t1]), rfl⟩
  · have t1 : decide (lo ≤ n) = false := by simpa using h1
    go_enter Try.func114, Try.ntmps114
    go_wp2
    go_ret
    exact ⟨ret_bool (by simp [inB, t1]), rfl⟩

theorem l01In_any (n lo hi : Int) (w : World) : Calls Try.prog 113 #[.int .i64 n, .int .i64 lo, .int .i64 hi] w fun e w' => e = .returned (.bool (inB n lo hi)) ∧ w = w' := by
  by_cases h1 : lo ≤ n
  · have t1 : decide (lo ≤ n) = true := by simpa using h1
    go_enter Try.func113, Try.ntmps113
    go_wp2
    go_ret
    exact ⟨ret_bool (by simp [inB, t1]), rfl⟩
  · have t1 : decide (lo ≤ n) = false := by simpa using h1
    go_enter Try.func113, Try.ntmps113
    go_wp2
    go_ret
    exact ⟨ret_bool (by simp [inB, t1]), rfl⟩

theorem l16Num_any (n : Int) (w : World) : Calls Try.prog 144 #[.int .i64 n] w fun e w' => e = .returned (.bool (inB n 0 1000000000)) ∧ w = w' := by
  go_enter Try.func144, Try.ntmps144
  go_wp2_with (go_at_call 113; refine (l01In_any _ _ _ _).mono ?_; rintro e w' ⟨rfl, rfl⟩)
  go_ret
  exact ⟨rfl, rfl⟩

def fOk (f : Fence) : Bool := inB f.run 0 1000000000 && inB f.task 0 1000000000 && inB f.try_ 1 1000000000
def fBe (a b : Fence) : Bool := decide (a.run < b.run) || (a.run == b.run && decide (a.task < b.task))

theorem fenceOk_any (f : Fence) (w : World) : Calls Try.prog 111 #[fenceV f] w fun e w' => e = .returned (.bool (fOk f)) ∧ Below w.heap.size w w' := by
  unfold fenceV fOk
  cases h1 : inB f.run 0 1000000000
  all_goals cases h2 : inB f.task 0 1000000000
  all_goals
    go_enter Try.func111, Try.ntmps111
    go_wp2_with (go_at_call 114; refine (within_any _ _ _ _).mono ?_; rintro e w' ⟨rfl, rfl⟩)
    go_ret
    exact ⟨ret_bool (by simp), by repeat (first | exact Below.refl _ _ | refine Below.alloc ?_ (by simp <;> omega) _)⟩

theorem l35Ok_any (f : Fence) (w : World) : Calls Try.prog 109 #[fenceV f] w fun e w' => e = .returned (.bool (fOk f)) ∧ Below w.heap.size w w' := by
  unfold fenceV fOk
  cases h1 : inB f.run 0 1000000000
  all_goals cases h2 : inB f.task 0 1000000000
  all_goals
    go_enter Try.func109, Try.ntmps109
    go_wp2_with (first
      | (go_at_call 113; refine (l01In_any _ _ _ _).mono ?_; rintro e w' ⟨rfl, rfl⟩)
      | (go_at_call 144; refine (l16Num_any _ _).mono ?_; rintro e w' ⟨rfl, rfl⟩))
    go_ret
    exact ⟨ret_bool (by simp), by repeat (first | exact Below.refl _ _ | refine Below.alloc ?_ (by simp <;> omega) _)⟩

theorem fBe_any (F : FuncId) (hF : F = 112 ∨ F = 110) (a b : Fence) (w : World) : Calls Try.prog F #[fenceV a, fenceV b] w fun e w' => e = .returned (.bool (fBe a b)) ∧ Below w.heap.size w w' := by
  unfold fenceV
  have key : ∀ {x y : Bool} {w w' : World}, x = y → Below w.heap.size w w' → Ending.returned (Value.bool x) = Ending.returned (Value.bool y) ∧ Below w.heap.size w w' := fun h hb => ⟨ret_bool h, hb⟩
  by_cases h1 : a.run < b.run
  · have e1 : fBe a b = true := by simp [fBe, h1]
    have t1 : decide (a.run < b.run) = true := by simpa using h1
    rcases hF with rfl | rfl
    · go_enter Try.func112, Try.ntmps112
      go_wp2
      go_ret
      exact key (by first | exact e1.symm | rfl) (by repeat (first | exact Below.refl _ _ | refine Below.alloc ?_ (by simp <;> omega) _))
    · go_enter Try.func110, Try.ntmps110
      go_wp2
      go_ret
      exact key (by first | exact e1.symm | rfl) (by repeat (first | exact Below.refl _ _ | refine Below.alloc ?_ (by simp <;> omega) _))
  have t1 : decide (a.run < b.run) = false := by simpa using h1
  by_cases h2 : a.run = b.run
  · have e1 : fBe a b = decide (a.task < b.task) := by simp [fBe, h2]
    have t2 : (a.run == b.run) = true := by simpa using h2
    have E1 := Lib.hid e1
    clear e1 h2
    rcases hF with rfl | rfl
    · go_enter Try.func112, Try.ntmps112
      go_wp2
      go_ret
      exact key (by rw [E1.out]) (by repeat (first | exact Below.refl _ _ | refine Below.alloc ?_ (by simp <;> omega) _))
    · go_enter Try.func110, Try.ntmps110
      go_wp2
      go_ret
      exact key (by rw [E1.out]) (by repeat (first | exact Below.refl _ _ | refine Below.alloc ?_ (by simp <;> omega) _))
  · have e1 : fBe a b = false := by simp [fBe, h1, h2]
    have t2 : (a.run == b.run) = false := by simpa using h2
    rcases hF with rfl | rfl
    · go_enter Try.func112, Try.ntmps112
      go_wp2
      go_ret
      exact key (by first | exact e1.symm | rfl) (by repeat (first | exact Below.refl _ _ | refine Below.alloc ?_ (by simp <;> omega) _))
    · go_enter Try.func110, Try.ntmps110
      go_wp2
      go_ret
      exact key (by first | exact e1.symm | rfl) (by repeat (first | exact Below.refl _ _ | refine Below.alloc ?_ (by simp <;> omega) _))

/-- the first place where p holds; -1 -/
def idxOf {α : Type} (p : α → Bool) (l : List α) : Int := match l.findIdx? p with | some i => i | none => -1
theorem idxOf_found {α : Type} {p : α → Bool} {l : List α} {k : Nat} (hk : k < l.length) (h : ∀ j (hj : j < k), p (l[j]'(by omega)) = false) (hp : p l[k] = true) : idxOf p l = k := by
  have : l.findIdx? p = some k := by
    rw [List.findIdx?_eq_some_iff_getElem]
    exact ⟨hk, hp, fun j hj => by simp [h j hj]⟩
  simp [idxOf, this]
theorem idxOf_none {α : Type} {p : α → Bool} {l : List α} (h : ∀ j (hj : j < l.length), p l[j] = false) : idxOf p l = -1 := by
  have : l.findIdx? p = none := by
    rw [List.findIdx?_eq_none_iff]
    intro x hx
    obtain ⟨j, hj, rfl⟩ := List.getElem_of_mem hx
    exact h j hj
  simp [idxOf, this]

def fAt (run task : Int) (f : Fence) : Bool := f.run == run && f.task == task

theorem specFenceAt_any (v : Value) (l : List Fence) (run task : Int) (w : World) (hl : l.length ≤ 2000000) (h : Rd fenceE w w.heap.size v l) :
    Calls Try.prog 35 #[v, .int .i64 run, .int .i64 task] w fun e w' => e = .returned (.int .i64 (idxOf (fAt run task) l)) ∧ w = w' := by
  obtain ⟨A, c, rfl, -⟩ := id h
  go_enter Try.func35, Try.ntmps35
  go_wp2
  go_loop [7] (fun i => ∃ k : Nat, k ≤ l.length ∧ i = .int .i64 k ∧ Hid (∀ j (hj : j < k) (hj' : j < l.length), fAt run task l[j] = false)) (fun i => l.length - (intOf i).toNat)
  case atStart => exact ⟨0, Nat.zero_le _, rfl, fun j hj => absurd hj (by omega)⟩
  case round =>
    obtain ⟨k, hk, rfl, hno⟩ := hrel
    by_cases hlt : k < l.length
    · obtain ⟨b, o, rfl, hbb, c0, c1, c2, c3⟩ := h.fence hlt
      have step : fAt run task l[k] = false → Hid (∀ j (hj : j < k + 1) (hj' : j < l.length), fAt run task l[j] = false) := by
        intro hp j hj hj'
        by_cases e : j = k
        · subst e; exact hp
        · exact hno.out j (by omega) hj'
      by_cases h1 : l[k].run = run
      · have t1 : (l[k].run == run) = true := by simpa using h1
        have T1 := Lib.hid t1
        clear h1
        by_cases h2 : l[k].task = task
        · have t2 : (l[k].task == task) = true := by simpa using h2
          have H := Lib.hid (idxOf_found hlt (fun j hj => hno.out j hj (by omega)) (show fAt run task l[k] = true by simp [fAt, t1, t2]))
          clear step h2
          go_wp2
          go_ret
          exact ⟨ret_int (by rw [H.out]), rfl⟩
        · have t2 : (l[k].task == task) = false := by simpa using h2
          have S := step (by simp [fAt, t2])
          clear step h2
          go_wp2
          exact ⟨⟨k + 1, by omega, by go_num, S⟩, by simp [intOf]; omega⟩
      · have t1 : (l[k].run == run) = false := by simpa using h1
        have S := step (by simp [fAt, t1])
        clear step h1
        go_wp2
        exact ⟨⟨k + 1, by omega, by go_num, S⟩, by simp [intOf]; omega⟩
    · have H := Lib.hid (idxOf_none (p := fAt run task) (l := l) (fun j hj => hno.out j (by omega) hj))
      go_wp2
      go_ret
      exact ⟨ret_int (by rw [H.out]), rfl⟩

theorem fenceAt1_any (f : Fence) (run task : Int) (p q : Nat) (w : World) (hp : w.cell? ⟨p, 0, none⟩ = some (.int .i64 run)) (hq : w.cell? ⟨q, 0, none⟩ = some (.int .i64 task)) (hp' : p < w.heap.size) (hq' : q < w.heap.size) :
    Calls Try.prog 107 #[fenceV f, .pointer (some ⟨p, 0, none⟩), .pointer (some ⟨q, 0, none⟩)] w fun e w' => e = .returned (.bool (fAt run task f)) ∧ Below w.heap.size w w' := by
  unfold fenceV fAt
  cases t1 : (f.run == run)
  all_goals
    go_enter Try.func107, Try.ntmps107
    go_wp2
    go_ret
    exact ⟨ret_bool (by simp), by repeat (first | exact Below.refl _ _ | refine Below.alloc ?_ (by simp <;> omega) _)⟩

theorem indexFence_any (v : Value) (l : List Fence) (run task : Int) (p q : Nat) (w : World) (hl : l.length ≤ 2000000) (h : Rd fenceE w w.heap.size v l)
    (hp : w.cell? ⟨p, 0, none⟩ = some (.int .i64 run)) (hq : w.cell? ⟨q, 0, none⟩ = some (.int .i64 task)) (hp' : p < w.heap.size) (hq' : q < w.heap.size) :
    Calls Try.prog 106 #[v, .func (.func 107) #[] #[.pointer (some ⟨p, 0, none⟩), .pointer (some ⟨q, 0, none⟩)]] w
      fun e w' => e = .returned (.int .i64 (idxOf (fAt run task) l)) ∧ Below w.heap.size w w' := by
  obtain ⟨A, c, rfl, -⟩ := id h
  go_enter Try.func106, Try.ntmps106
  go_wp2
  go_loopw [8] (fun i wr => ∃ k : Nat, k ≤ l.length ∧ i = .int .i64 k ∧ Hid (∀ j (hj : j < k) (hj' : j < l.length), fAt run task l[j] = false) ∧ Below w.heap.size w wr) (fun i _ => l.length - (intOf i).toNat)
  case atStart => exact ⟨0, Nat.zero_le _, rfl, fun j hj => absurd hj (by omega), Below.refl _ _⟩
  case round =>
    obtain ⟨k, hk, rfl, hno, hb⟩ := hrel
    by_cases hlt : k < l.length
    · obtain ⟨b, o, rfl, hbb, c0, c1, c2, c3⟩ := (h.below hb).fence hlt
      have hp1 := (hb.cell (p := ⟨p, 0, none⟩) hp').trans hp
      have hq1 := (hb.cell (p := ⟨q, 0, none⟩) hq').trans hq
      have hs := hb.size
      cases t1 : fAt run task l[k]
      · have S : Hid (∀ j (hj : j < k + 1) (hj' : j < l.length), fAt run task l[j] = false) := by
          intro j hj hj'
          by_cases e : j = k
          · subst e; exact t1
          · exact hno.out j (by omega) hj'
        go_wp2_with (go_at_call 107; refine (fenceAt1_any l[k] run task p q _ hp1 hq1 (by omega) (by omega)).mono ?_; rintro e w1 ⟨rfl, hb1⟩)
        exact ⟨⟨k + 1, by omega, by go_num, S, hb.trans (hb1.mono hb.size)⟩, by simp [intOf]; omega⟩
      · have H := Lib.hid (idxOf_found hlt (fun j hj => hno.out j hj (by omega)) t1)
        go_wp2_with (go_at_call 107; refine (fenceAt1_any l[k] run task p q _ hp1 hq1 (by omega) (by omega)).mono ?_; rintro e w1 ⟨rfl, hb1⟩)
        go_ret
        exact ⟨ret_int (by rw [H.out]), hb.trans (hb1.mono hb.size)⟩
    · have H := Lib.hid (idxOf_none (p := fAt run task) (l := l) (fun j hj => hno.out j (by omega) hj))
      go_wp2
      go_ret
      exact ⟨ret_int (by rw [H.out]), hb⟩

theorem implFenceAt_any (v : Value) (l : List Fence) (run task : Int) (w : World) (hl : l.length ≤ 2000000) (h : Rd fenceE w w.heap.size v l) :
    Calls Try.prog 37 #[v, .int .i64 run, .int .i64 task] w fun e w' => e = .returned (.int .i64 (idxOf (fAt run task) l)) ∧ Below w.heap.size w w' := by
  go_enter Try.func37, Try.ntmps37
  have hb0 : Below w.heap.size w ((w.alloc (.cells #[.int .i64 run] 3)).alloc (.cells #[.int .i64 task] 3)) := by repeat (first | exact Below.refl _ _ | refine Below.alloc ?_ (by simp <;> omega) _)
  go_wp2_with (go_at_call 106; refine (indexFence_any v l run task w.heap.size (w.heap.size + 1) _ hl ((h.below hb0).more hb0.size) (by go_simp) (by go_simp) (by simp <;> omega) (by simp <;> omega)).mono ?_; rintro e w1 ⟨rfl, hb1⟩)
  go_ret
  exact ⟨rfl, bnext hb0 hb1⟩
end Go.Proofs.Ytoccmpijfggmkaa
