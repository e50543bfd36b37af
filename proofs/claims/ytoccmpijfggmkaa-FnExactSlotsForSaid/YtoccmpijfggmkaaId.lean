/-
  IdleOf of the reference and of the program.
-/
import Derived.Test.YtoccmpijfggmkaaEnd
import Derived.Test.YtoccmpijfggmkaaFx
import Derived.IntWalk
namespace Go.Proofs.Ytoccmpijfggmkaa
open Go.RowKit
set_option maxRecDepth 100000
set_option maxHeartbeats 1000000

def vB (s : Slot) : Bool := decide (0 ≤ s.fr) && decide (s.fr ≤ s.to) && decide (s.to ≤ 1000000000)
def sumD (l : List Slot) : Int := l.foldl (fun n s => n + s.to - s.fr) 0
theorem sumD_snoc (r : List Slot) (s : Slot) : sumD (r ++ [s]) = sumD r + s.to - s.fr := by simp [sumD, List.foldl_append]
theorem vB_iff {s : Slot} : vB s = true ↔ 0 ≤ s.fr ∧ s.fr ≤ s.to ∧ s.to ≤ 1000000000 := by simp [vB, and_assoc]
theorem sumD_bd (l : List Slot) (h : ∀ j (hj : j < l.length), vB l[j] = true) : ∀ k, k ≤ l.length → 0 ≤ sumD (l.take k) ∧ sumD (l.take k) ≤ k * 1000000000
  | 0, _ => by simp [sumD]
  | k + 1, hk => by
    obtain ⟨h1, h2⟩ := sumD_bd l h k (by omega)
    rw [take_snoc l k (by omega), sumD_snoc]
    have := vB_iff.1 (h k (by omega))
    omega
theorem endOf_bd (l : List Slot) (h : ∀ j (hj : j < l.length), vB l[j] = true) : ∀ k, k ≤ l.length → 0 ≤ endOf (l.take k) ∧ endOf (l.take k) ≤ 1000000000
  | 0, _ => by simp [endOf]
  | k + 1, hk => by
    obtain ⟨h1, h2⟩ := endOf_bd l h k (by omega)
    rw [take_snoc l k (by omega), endOf_snoc]
    have := vB_iff.1 (h k (by omega))
    split
    · omega
    · split <;> omega
def idleB (l : List Slot) : Bool := l.all vB
def idleOf (l : List Slot) (many : Int) : Int := if inB many 1 8 = true ∧ l.length ≤ 12 ∧ idleB l = true then many * endOf l - sumD l else 0
theorem idleB_all {l : List Slot} (h : ∀ j (hj : j < l.length), vB l[j] = true) : idleB l = true := by
  unfold idleB
  rw [List.all_eq_true]
  intro x hx
  obtain ⟨j, hj, rfl⟩ := List.getElem_of_mem hx
  exact h j hj
theorem idleB_get {l : List Slot} (h : idleB l = true) (j : Nat) (hj : j < l.length) : vB l[j] = true := List.all_eq_true.1 h _ (List.getElem_mem hj)

theorem specIdleOf_any (v : Value) (l : List Slot) (many : Int) (w : World) (hl : l.length ≤ 2000000) (h : Rd slotE w w.heap.size v l) :
    Calls Try.prog 41 #[v, .int .i64 many] w fun e w' => e = .returned (.int .i64 (idleOf l many)) ∧ Below w.heap.size w w' := by
  obtain ⟨A, c, rfl, -⟩ := id h
  cases hm : inB many 1 8
  · have H := Lib.hid (show idleOf l many = 0 by simp [idleOf, hm])
    go_enter Try.func41, Try.ntmps41
    go_wp2_with (go_at_call 113; refine (l01In_any _ _ _ _).mono ?_; rintro e w' ⟨rfl, rfl⟩)
    go_ret
    exact ⟨ret_int H.out.symm, Below.refl _ _⟩
  by_cases hbig : 12 < l.length
  · have H := Lib.hid (show idleOf l many = 0 by rw [idleOf, if_neg (by omega)])
    have hbi : (12 : Int) < (l.length : Int) := by omega
    go_enter Try.func41, Try.ntmps41
    go_wp2_with (go_at_call 113; refine (l01In_any _ _ _ _).mono ?_; rintro e w' ⟨rfl, rfl⟩)
    go_ret
    exact ⟨ret_int H.out.symm, Below.refl _ _⟩
  have hbi : ¬ (12 : Int) < (l.length : Int) := by omega
  have hmm : 1 ≤ many ∧ many ≤ 8 := by simpa [inB] using hm
  obtain ⟨hm1, hm2⟩ := hmm
  have hok0 : idleB l = true → Hid (idleOf l many = many * endOf l - sumD l) := fun hb => by unfold Hid idleOf; rw [if_pos ⟨hm, by omega, hb⟩]
  have hno0 : idleB l = false → Hid (idleOf l many = 0) := fun hb => by unfold Hid idleOf; rw [if_neg (by rw [hb]; simp)]
  go_enter Try.func41, Try.ntmps41
  go_wp2_with (go_at_call 113; refine (l01In_any _ _ _ _).mono ?_; rintro e w' ⟨rfl, rfl⟩)
  go_loopw [5, 6] (fun t i wr => ∃ k : Nat, k ≤ l.length ∧ i = .int .i64 k ∧ t = .int .i64 (sumD (l.take k)) ∧ Hid (∀ j (hj : j < l.length), j < k → vB l[j] = true) ∧ Below w.heap.size w wr) (fun _ i _ => l.length - (intOf i).toNat)
  case atStart => exact ⟨0, Nat.zero_le _, rfl, rfl, fun j hj h0 => absurd h0 (by omega), Below.refl _ _⟩
  case round =>
    obtain ⟨k, hk, rfl, rfl, hok, hb⟩ := hrel
    by_cases hlt : k < l.length
    · obtain ⟨b, o, rfl, hbb, c0, c1, c2, c3⟩ := (h.below hb).slot hlt
      have hno : vB l[k] = false → Hid (idleOf l many = 0) := fun hv => hno0 (by
        cases hc : idleB l
        · rfl
        · rw [idleB_get hc k hlt] at hv; cases hv)
      clear hok0 hno0
      by_cases g1 : l[k].fr < 0
      · have H := hno (by simp [vB]; omega)
        clear hno
        go_wp2
        go_quiet (fail)
        go_wp2
        go_ret
        exact ⟨ret_int H.out.symm, bdrewN hb _⟩
      by_cases g2 : l[k].to < l[k].fr
      · have H := hno (by simp [vB]; omega)
        clear hno
        go_wp2
        go_quiet (fail)
        go_wp2
        go_ret
        exact ⟨ret_int H.out.symm, bdrewN hb _⟩
      by_cases g3 : 1000000000 < l[k].to
      · have H := hno (by simp [vB]; omega)
        clear hno
        go_wp2
        go_quiet (fail)
        go_wp2
        go_ret
        exact ⟨ret_int H.out.symm, bdrewN hb _⟩
      clear hno
      have hv : vB l[k] = true := vB_iff.2 ⟨by omega, by omega, by omega⟩
      obtain ⟨s1, s2⟩ : 0 ≤ sumD (l.take k) ∧ sumD (l.take k) ≤ 12000000000 := by
        have := sumD_bd (l.take k) (fun j hj => by
          rw [List.getElem_take]
          exact hok.out j (by simp at hj; omega) (by simp at hj; omega)) k (by simp; omega)
        rw [List.take_take, Nat.min_self] at this
        omega
      have ht := Lib.hid (take_snoc l k hlt)
      have hok' : Hid (∀ j (hj : j < l.length), j < k + 1 → vB l[j] = true) := by
        intro j hj hjk
        by_cases e : j = k
        · subst e; exact hv
        · exact hok.out j hj (by omega)
      have e1 : IntKind.i64.wrap (sumD (l.take k) + l[k].to) = sumD (l.take k) + l[k].to := IntWalk.i64_in _ (by omega)
      have e2 : IntKind.i64.wrap (sumD (l.take k) + l[k].to - l[k].fr) = sumD (l.take k) + l[k].to - l[k].fr := IntWalk.i64_in _ (by omega)
      go_wp2
      go_quiet (fail)
      go_wp2
      go_quiet (fail)
      clear e1 e2
      go_wp2
      exact ⟨⟨k + 1, by omega, by go_num, by rw [ht.out, sumD_snoc], hok', bdrewN hb _⟩, by simp [intOf]; omega⟩
    · have hall : ∀ j (hj : j < l.length), vB l[j] = true := fun j hj => hok.out j hj (by omega)
      have H := hok0 (idleB_all hall)
      obtain ⟨s1, s2⟩ := sumD_bd l hall l.length (Nat.le_refl _)
      obtain ⟨s3, s4⟩ := endOf_bd l hall l.length (Nat.le_refl _)
      rw [List.take_of_length_le (Nat.le_refl _)] at s1 s2 s3 s4
      have hk' : k = l.length := by omega
      have s5 : 0 ≤ many * endOf l := Int.mul_nonneg (by omega) s3
      have s6 : many * endOf l ≤ 8000000000 := by
        have h1 : many * endOf l ≤ 8 * endOf l := Int.mul_le_mul_of_nonneg_right hm2 s3
        omega
      have s7 : sumD l ≤ 12000000000 := by omega
      rw [List.take_of_length_le (by omega)]
      have e1 : IntKind.i64.wrap (many * endOf l) = many * endOf l := IntWalk.i64_in _ (by omega)
      clear hok0 hno0 hall s2 hok hk'
      go_wp2_with (go_at_call 30; refine (specEndOf_any _ l _ hl (h.below hb |>.more hb.size)).mono ?_; rintro e w' ⟨rfl, rfl⟩)
      go_ret
      exact ⟨ret_int H.out.symm, hb⟩
end Go.Proofs.Ytoccmpijfggmkaa
