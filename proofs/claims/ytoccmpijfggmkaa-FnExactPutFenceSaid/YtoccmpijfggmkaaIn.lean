/-
  Walks of the helpers of the laws on lists of ints: to, eq.
-/
import Derived.Test.YtoccmpijfggmkaaPl
import Derived.Test.YtoccmpijfggmkaaWa
namespace Go.Proofs.Ytoccmpijfggmkaa
open Go.RowKit
set_option maxRecDepth 100000
set_option maxHeartbeats 1000000

theorem eqIntS_any (v v' : Value) (l l' : List Int) (w : World) (hl : l.length ≤ 2000000) (hl' : l'.length ≤ 2000000) (h : Rd intE w w.heap.size v l) (h' : Rd intE w w.heap.size v' l') :
    Calls Try.prog 51 #[v, v'] w fun e w' => e = .returned (.bool (decide (l = l'))) ∧ Below w.heap.size w w' := by
  obtain ⟨A, c, rfl, -⟩ := id h
  obtain ⟨A', c', rfl, -⟩ := id h'
  by_cases hne : l.length = l'.length
  · have hb0 : ((l.length : Int) != (l'.length : Int)) = false := by simp [hne]
    have Hne := Lib.hid hne
    clear hne
    go_enter Try.func51, Try.ntmps51
    go_wp2
    go_loopw [5] (fun i wr => ∃ k : Nat, k ≤ l.length ∧ i = .int .i64 k ∧ Hid (l.take k = l'.take k) ∧ Below w.heap.size w wr) (fun i _ => l.length - (intOf i).toNat)
    case atStart => exact ⟨0, Nat.zero_le _, rfl, rfl, Below.refl _ _⟩
    case round =>
      obtain ⟨k, hk, rfl, heq, hb⟩ := hrel
      by_cases hlt : k < l.length
      · have hlt' : k < l'.length := by rw [← Hne.out]; exact hlt
        obtain ⟨b, o, rfl, hbb, c0⟩ := (h.below hb).int hlt
        obtain ⟨b', o', rfl, hbb', d0⟩ := (h'.below hb).int hlt'
        have i1 : (k : Int) < (l.length : Int) := by omega
        have i2 : (k : Int) < (l'.length : Int) := by omega
        by_cases hx : l[k] = l'[k]
        · have S : Hid (l.take (k + 1) = l'.take (k + 1)) := by
            show l.take (k + 1) = l'.take (k + 1)
            rw [take_snoc l k hlt, take_snoc l' k hlt', heq.out, hx]
          have hxb : (l[k] != l'[k]) = false := by simp [hx]
          clear hx
          go_wp2
          go_quiet (fail)
          go_wp2
          exact ⟨⟨k + 1, by omega, by go_num, S, bdrewN hb _⟩, by simp [intOf]; omega⟩
        · have hxb : (l[k] != l'[k]) = true := by rw [bne_iff_ne]; exact hx
          have H := Lib.hid (show decide (l = l') = false by
            simp only [decide_eq_false_iff_not]
            intro e
            subst e
            exact hx rfl)
          clear hx
          go_wp2
          go_quiet (fail)
          go_wp2
          go_ret
          exact ⟨ret_bool H.out.symm, bdrewN hb _⟩
      · go_wp2
        go_ret
        refine ⟨ret_bool ?_, hb⟩
        have h1 := heq.out
        rw [List.take_of_length_le (by omega), List.take_of_length_le (by rw [← Hne.out]; omega)] at h1
        simp [h1]
  · have hb0 : ((l.length : Int) != (l'.length : Int)) = true := by simp; omega
    go_enter Try.func51, Try.ntmps51
    go_wp2
    go_ret
    refine ⟨ret_bool ?_, Below.refl _ _⟩
    simp only [Bool.false_eq, decide_eq_false_iff_not]
    intro e
    exact hne (by rw [e])

theorem toIntS_any (v : Value) (l : List Int) (w : World) (hl : l.length ≤ 2000000) (h : Rd intE w w.heap.size v l) :
    Calls Try.prog 49 #[v] w fun e w' => ∃ v', e = .returned v' ∧ Ow intE 3 w' w.heap.size v' l ∧ Below w.heap.size w w' := by
  obtain ⟨A, c, rfl, -⟩ := id h
  obtain ⟨i0, hi0, hz0, hz1, hz2⟩ := info_parts int_info
  have hmk : ∀ w : World, (Instr.makeSlice 50 (.int .i64 (l.length : Int)) (.int .i64 (l.length : Int))).run Try.prog w = .ok (.slice (some ⟨w.heap.size, 0, none⟩) l.length l.length) (w.alloc (.cells (madeCells #[.int .i64 0] (l.length * 1)) 3)) := by
    intro w
    have := run_make (P := Try.prog) w 50 3 i0 _ Try.underlying50 hi0 hz0 .i64 .i64 l.length l.length (by omega) (by omega) (by rw [hz2]; omega) (by omega)
    rw [hz1] at this
    simpa [Value.cells] using this
  go_enter Try.func49, Try.ntmps49
  go_wp2
  go_loopw [4] (fun i wr => ∃ k : Nat, k ≤ l.length ∧ i = .int .i64 k ∧ Ow intE 3 wr w.heap.size (.slice (some ⟨w.heap.size, 0, none⟩) l.length l.length) (l.take k ++ List.replicate (l.length - k) 0) ∧ Below w.heap.size w wr) (fun i _ => l.length - (intOf i).toNat)
  case atStart => exact ⟨0, Nat.zero_le _, rfl, by rw [List.take_zero, List.nil_append, Nat.sub_zero]; exact Ow.made intE 3 w 0 l.length (by decide) (by simp [maxLen]; omega) (z := #[.int .i64 0]) rfl (by simp [intE]), (Below.refl _ _).alloc (Nat.le_refl _) _⟩
  case round =>
    obtain ⟨k, hk, rfl, hown, hb⟩ := hrel
    by_cases hlt : k < l.length
    · obtain ⟨b, o, rfl, hbb, c0⟩ := (h.below hb).int hlt
      have hlen : (l.take k ++ List.replicate (l.length - k) (0 : Int)).length = l.length := by simp; omega
      have hf := hown.free
      have d0 := hown.int (k := k) (by rw [hlen]; exact hlt)
      have i1 : (k : Int) < (l.length : Int) := by omega
      have hp := Ow.put hown hlen k hlt l[k]
      rw [mix_set l _ k hlt] at hp
      simp only [intE, Nat.mul_one] at hp
      have Hp := Lib.hid hp
      clear hp
      go_wp2
      exact ⟨⟨k + 1, by omega, by go_num, Hp.out.1, hb.setCell (Nat.le_refl _) _⟩, by simp [intOf]; omega⟩
    · go_wp2
      go_ret
      refine ⟨_, rfl, ?_, hb⟩
      rwa [List.take_of_length_le (by omega), show l.length - k = 0 from by omega, List.replicate_zero, List.append_nil] at hown
end Go.Proofs.Ytoccmpijfggmkaa
