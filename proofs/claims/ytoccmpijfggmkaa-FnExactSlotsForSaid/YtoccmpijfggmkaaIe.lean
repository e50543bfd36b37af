/-
  IdleOf of the program.
-/
import Derived.Test.YtoccmpijfggmkaaId
namespace Go.Proofs.Ytoccmpijfggmkaa
open Go.RowKit
set_option maxRecDepth 100000
set_option maxHeartbeats 1000000

theorem implIdleOf_any (v : Value) (l : List Slot) (many : Int) (w : World) (hl : l.length ≤ 2000000) (h : Rd slotE w w.heap.size v l) :
    Calls Try.prog 42 #[v, .int .i64 many] w fun e w' => e = .returned (.int .i64 (idleOf l many)) ∧ Below w.heap.size w w' := by
  obtain ⟨A, c, rfl, -⟩ := id h
  cases hm : inB many 1 8
  · have H := Lib.hid (show idleOf l many = 0 by simp [idleOf, hm])
    go_enter Try.func42, Try.ntmps42
    go_wp2_with (go_at_call 114; refine (within_any _ _ _ _).mono ?_; rintro e w' ⟨rfl, rfl⟩)
    go_ret
    exact ⟨ret_int H.out.symm, Below.refl _ _⟩
  by_cases hbig : 12 < l.length
  · have H := Lib.hid (show idleOf l many = 0 by rw [idleOf, if_neg (by omega)])
    have hbi : (12 : Int) < (l.length : Int) := by omega
    go_enter Try.func42, Try.ntmps42
    go_wp2_with (go_at_call 114; refine (within_any _ _ _ _).mono ?_; rintro e w' ⟨rfl, rfl⟩)
    go_ret
    exact ⟨ret_int H.out.symm, Below.refl _ _⟩
  have hbi : ¬ (12 : Int) < (l.length : Int) := by omega
  have hmm : 1 ≤ many ∧ many ≤ 8 := by simpa [inB] using hm
  obtain ⟨hm1, hm2⟩ := hmm
  cases hid : idleB l
  · have H := Lib.hid (show idleOf l many = 0 by rw [idleOf, if_neg (by rw [hid]; simp)])
    have Hid' := Lib.hid hid
    clear hid
    go_enter Try.func42, Try.ntmps42
    go_wp2_with (first
      | (go_at_call 114; refine (within_any _ _ _ _).mono ?_; rintro e w' ⟨rfl, rfl⟩)
      | (go_at_call 32; refine (implEndOf_any _ l _ hl h).mono ?_; rintro e w1 ⟨rfl, hb0⟩))
    go_loopw [5, 22] (fun t i wr => ∃ k : Nat, ∃ m : Int, k ≤ l.length ∧ i = .int .i64 k ∧ t = .int .i64 m ∧ Hid (∀ j (hj : j < l.length), j < k → vB l[j] = true) ∧ Below w.heap.size w wr) (fun _ i _ => l.length - (intOf i).toNat)
    case atStart => exact ⟨0, _, Nat.zero_le _, rfl, rfl, fun j hj h0 => absurd h0 (by omega), hb0⟩
    case round =>
      obtain ⟨k, m, hk, rfl, rfl, hok, hb⟩ := hrel
      by_cases hlt : k < l.length
      · obtain ⟨b, o, rfl, hbb, c0, c1, c2, c3⟩ := (h.below hb).slot hlt
        by_cases g1 : l[k].fr < 0
        · go_wp2
          go_ret
          exact ⟨ret_int H.out.symm, hb.alloc hb.size _⟩
        by_cases g2 : l[k].to < l[k].fr
        · go_wp2
          go_ret
          exact ⟨ret_int H.out.symm, hb.alloc hb.size _⟩
        by_cases g3 : 1000000000 < l[k].to
        · go_wp2
          go_ret
          exact ⟨ret_int H.out.symm, hb.alloc hb.size _⟩
        have hok' : Hid (∀ j (hj : j < l.length), j < k + 1 → vB l[j] = true) := by
          intro j hj hjk
          by_cases e : j = k
          · subst e; exact vB_iff.2 ⟨by omega, by omega, by omega⟩
          · exact hok.out j hj (by omega)
        go_wp2
        exact ⟨⟨k + 1, _, by omega, by go_num, rfl, hok', hb.alloc hb.size _⟩, by simp [intOf]; omega⟩
      · exfalso
        have := idleB_all (l := l) (fun j hj => hok.out j hj (by omega))
        rw [Hid'.out] at this
        cases this
  · have H := Lib.hid (show idleOf l many = many * endOf l - sumD l by rw [idleOf, if_pos ⟨hm, by omega, hid⟩])
    have hall := Lib.hid (idleB_get hid)
    obtain ⟨s3, s4⟩ := endOf_bd l hall.out l.length (Nat.le_refl _)
    rw [List.take_of_length_le (Nat.le_refl _)] at s3 s4
    have s5 : 0 ≤ many * endOf l := Int.mul_nonneg (by omega) s3
    have s6 : many * endOf l ≤ 8000000000 := by
      have h1 : many * endOf l ≤ 8 * endOf l := Int.mul_le_mul_of_nonneg_right hm2 s3
      omega
    clear hid
    go_enter Try.func42, Try.ntmps42
    go_wp2_with (first
      | (go_at_call 114; refine (within_any _ _ _ _).mono ?_; rintro e w' ⟨rfl, rfl⟩)
      | (go_at_call 32; refine (implEndOf_any _ l _ hl h).mono ?_; rintro e w1 ⟨rfl, hb0⟩))
    go_loopw [5, 22] (fun t i wr => ∃ k : Nat, k ≤ l.length ∧ i = .int .i64 k ∧ t = .int .i64 (many * endOf l - sumD (l.take k)) ∧ Below w.heap.size w wr) (fun _ i _ => l.length - (intOf i).toNat)
    case atStart => exact ⟨0, Nat.zero_le _, rfl, by simp [sumD], hb0⟩
    case round =>
      obtain ⟨k, hk, rfl, rfl, hb⟩ := hrel
      by_cases hlt : k < l.length
      · obtain ⟨b, o, rfl, hbb, c0, c1, c2, c3⟩ := (h.below hb).slot hlt
        obtain ⟨s1, s2⟩ := sumD_bd l hall.out k hk
        obtain ⟨g1, g2, g3⟩ := vB_iff.1 (hall.out k hlt)
        have s2' : sumD (l.take k) ≤ 12000000000 := by omega
        have ht := Lib.hid (take_snoc l k hlt)
        clear s2
        go_wp2
        exact ⟨⟨k + 1, by omega, by go_num, by rw [ht.out, sumD_snoc]; go_num, hb.alloc hb.size _⟩, by simp [intOf]; omega⟩
      · have hk' : k = l.length := by omega
        subst hk'
        go_wp2
        go_ret
        exact ⟨ret_int (by rw [H.out, List.take_of_length_le (Nat.le_refl _)]), hb⟩
end Go.Proofs.Ytoccmpijfggmkaa
