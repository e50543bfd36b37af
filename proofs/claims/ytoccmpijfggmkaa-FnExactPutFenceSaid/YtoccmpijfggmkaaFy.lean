/-
  FencesOk of the reference and of the program.
-/
import Derived.Test.YtoccmpijfggmkaaFx
namespace Go.Proofs.Ytoccmpijfggmkaa
open Go.RowKit
set_option maxRecDepth 100000
set_option maxHeartbeats 1000000

/-- the first k fences are right and in order -/
def fsOk (l : List Fence) (k : Nat) : Prop := ∀ j (hj : j < l.length), j < k → fOk l[j] = true ∧ ∀ h0 : 0 < j, fBe l[j-1] l[j] = true
open Classical in
noncomputable def fencesOk (l : List Fence) : Bool := decide (l.length ≤ 60) && decide (fsOk l l.length)

theorem specFencesOk_any (v : Value) (l : List Fence) (w : World) (hl : l.length ≤ 2000000) (h : Rd fenceE w w.heap.size v l) :
    Calls Try.prog 39 #[v] w fun e w' => e = .returned (.bool (fencesOk l)) ∧ Below w.heap.size w w' := by
  obtain ⟨A, c, rfl, -⟩ := id h
  by_cases hbig : 60 < l.length
  · have H := Lib.hid (show fencesOk l = false by simp [fencesOk]; omega)
    have hbi : (60 : Int) < (l.length : Int) := by omega
    go_enter Try.func39, Try.ntmps39
    go_wp2
    go_ret
    exact ⟨ret_bool H.out.symm, Below.refl _ _⟩
  have hbi : ¬ (60 : Int) < (l.length : Int) := by omega
  go_enter Try.func39, Try.ntmps39
  go_wp2
  go_loopw [3] (fun i wr => ∃ k : Nat, k ≤ l.length ∧ i = .int .i64 k ∧ Hid (fsOk l k) ∧ Below w.heap.size w wr) (fun i _ => l.length - (intOf i).toNat)
  case atStart => exact ⟨0, Nat.zero_le _, rfl, fun j hj h0 => absurd h0 (by omega), Below.refl _ _⟩
  case round =>
    obtain ⟨k, hk, rfl, hok, hb⟩ := hrel
    by_cases hlt : k < l.length
    · obtain ⟨b, o, rfl, hbb, c0, c1, c2, c3⟩ := (h.below hb).fence hlt
      have hbb' : b < wr.heap.size := Nat.lt_of_lt_of_le hbb hb.size
      have hlc := later_cell wr
      have step : fOk l[k] = true → (∀ h0 : 0 < k, fBe l[k-1] l[k] = true) → Hid (fsOk l (k + 1)) := by
        intro a1 a2 j hj hjk
        by_cases e : j = k
        · subst e; exact ⟨a1, a2⟩
        · exact hok.out j hj (by omega)
      have bad : (fOk l[k] = false ∨ ∃ h0 : 0 < k, fBe l[k-1] l[k] = false) → Hid (fencesOk l = false) := by
        intro hh
        unfold Hid
        simp only [fencesOk, Bool.and_eq_false_iff, decide_eq_false_iff_not]
        right
        intro ha
        obtain ⟨a1, a2⟩ := ha k hlt hlt
        rcases hh with hh | ⟨h0, hh⟩
        · rw [a1] at hh; cases hh
        · rw [a2 h0] at hh; cases hh
      cases t1 : fOk l[k]
      · have H := bad (.inl t1)
        clear step bad
        go_wp2
        refine wp_region_pure (by kernel_rfl) (by kernel_rfl) ?_
        repeat (go_big_quiet_step ((go_at_call 109; rename_i x; have h1 := l35Ok_any l[k] x.1; exact pure_of h1)))
        refine wpQuiet_nil ?_
        rintro _ ⟨⟨w1, hb1⟩, rfl⟩
        clear hlc
        go_wp2
        go_ret
        exact ⟨ret_bool H.out.symm, bnext hb hb1⟩
      · by_cases hk0 : k = 0
        · subst hk0
          have S := step t1 (fun h0 => absurd h0 (by omega))
          clear step bad
          simp only [Nat.zero_mul, Nat.add_zero] at c0 c1 c2 c3
          go_wp2
          refine wp_region_pure (by kernel_rfl) (by kernel_rfl) ?_
          repeat (go_big_quiet_step ((go_at_call 109; rename_i x; have h1 := l35Ok_any l[0] x.1; exact pure_of h1)))
          refine wpQuiet_nil ?_
          rintro _ ⟨⟨w1, hb1⟩, rfl⟩
          clear hlc
          go_wp2
          exact ⟨⟨0 + 1, by omega, by go_num, S, bnext hb hb1⟩, by simp [intOf]; omega⟩
        · have hkp : 0 < k := by omega
          obtain ⟨b', o', he, _, d0, d1, d2, d3⟩ := (h.below hb).fence (k := k - 1) (by omega)
          simp only [Option.some.injEq, Addr.mk.injEq, and_true] at he
          obtain ⟨rfl, rfl⟩ := he
          have hki : (0 : Int) < (k : Int) := by omega
          cases t2 : fBe l[k-1] l[k]
          · have H := bad (.inr ⟨hkp, t2⟩)
            clear step bad
            go_wp2
            refine wp_region_pure (by kernel_rfl) (by kernel_rfl) ?_
            repeat (go_big_quiet_step ((first
              | (go_at_call 109; rename_i x; have h1 := l35Ok_any l[k] x.1; exact pure_of h1)
              | (go_at_call 110; rename_i x; have h1 := fBe_any _ (.inr rfl) l[k-1] l[k] x.1; exact pure_of h1))))
            refine wpQuiet_nil ?_
            rintro _ ⟨⟨w1, hb1⟩, rfl⟩
            clear hlc
            go_wp2
            go_ret
            exact ⟨ret_bool H.out.symm, bnext hb hb1⟩
          · have S := step t1 (fun _ => t2)
            clear step bad
            go_wp2
            refine wp_region_pure (by kernel_rfl) (by kernel_rfl) ?_
            repeat (go_big_quiet_step ((first
              | (go_at_call 109; rename_i x; have h1 := l35Ok_any l[k] x.1; exact pure_of h1)
              | (go_at_call 110; rename_i x; have h1 := fBe_any _ (.inr rfl) l[k-1] l[k] x.1; exact pure_of h1))))
            refine wpQuiet_nil ?_
            rintro _ ⟨⟨w1, hb1⟩, rfl⟩
            clear hlc
            go_wp2
            exact ⟨⟨k + 1, by omega, by go_num, S, bnext hb hb1⟩, by simp [intOf]; omega⟩
    · have H := Lib.hid (show fencesOk l = true by
        simp only [fencesOk, Bool.and_eq_true, decide_eq_true_eq]
        exact ⟨by omega, fun j hj _ => hok.out j hj (by omega)⟩)
      go_wp2
      go_ret
      exact ⟨ret_bool H.out.symm, hb⟩

theorem implFencesOk_any (v : Value) (l : List Fence) (w : World) (hl : l.length ≤ 2000000) (h : Rd fenceE w w.heap.size v l) :
    Calls Try.prog 40 #[v] w fun e w' => e = .returned (.bool (fencesOk l)) ∧ Below w.heap.size w w' := by
  obtain ⟨A, c, rfl, -⟩ := id h
  go_enter Try.func40, Try.ntmps40
  go_wp2
  go_loopw [7] (fun i wr => ∃ k : Nat, k ≤ l.length ∧ i = .int .i64 k ∧ Hid (fsOk l k) ∧ Below w.heap.size w wr) (fun i _ => l.length - (intOf i).toNat)
  case atStart => exact ⟨0, Nat.zero_le _, rfl, fun j hj h0 => absurd h0 (by omega), Below.refl _ _⟩
  case round =>
    obtain ⟨k, hk, rfl, hok, hb⟩ := hrel
    by_cases hlt : k < l.length
    · obtain ⟨b, o, rfl, hbb, c0, c1, c2, c3⟩ := (h.below hb).fence hlt
      have hs := hb.size
      have hbw : b < wr.heap.size := by omega
      have hbb' : b < (wr.alloc (.cells #[.int .i64 l[k].run, .int .i64 l[k].task, .int .i64 l[k].try_, .string l[k].text] 80)).heap.size := by simp; omega
      have hlc := later_cell (wr.alloc (.cells #[.int .i64 l[k].run, .int .i64 l[k].task, .int .i64 l[k].try_, .string l[k].text] 80))
      have hnew : wr.heap.size < (wr.alloc (.cells #[.int .i64 l[k].run, .int .i64 l[k].task, .int .i64 l[k].try_, .string l[k].text] 80)).heap.size := by simp
      have hba : Below w.heap.size w (wr.alloc (.cells #[.int .i64 l[k].run, .int .i64 l[k].task, .int .i64 l[k].try_, .string l[k].text] 80)) := hb.alloc hb.size _
      have step : fOk l[k] = true → (∀ h0 : 0 < k, fBe l[k-1] l[k] = true) → Hid (fsOk l (k + 1)) := by
        intro a1 a2 j hj hjk
        by_cases e : j = k
        · subst e; exact ⟨a1, a2⟩
        · exact hok.out j hj (by omega)
      have bad : (fOk l[k] = false ∨ ∃ h0 : 0 < k, fBe l[k-1] l[k] = false) → Hid (fencesOk l = false) := by
        intro hh
        unfold Hid
        simp only [fencesOk, Bool.and_eq_false_iff, decide_eq_false_iff_not]
        right
        intro ha
        obtain ⟨a1, a2⟩ := ha k hlt hlt
        rcases hh with hh | ⟨h0, hh⟩
        · rw [a1] at hh; cases hh
        · rw [a2 h0] at hh; cases hh
      cases t1 : fOk l[k]
      · have H := bad (.inl t1)
        clear step bad
        go_wp2
        refine wp_region_pure (by kernel_rfl) (by kernel_rfl) ?_
        repeat (go_big_quiet_step ((go_at_call 111; rename_i x; have h1 := fenceOk_any l[k] x.1; exact pure_of h1)))
        refine wpQuiet_nil ?_
        rintro _ ⟨⟨w1, hb1⟩, rfl⟩
        clear hlc
        go_wp2
        go_ret
        exact ⟨ret_bool H.out.symm, bnext hba hb1⟩
      · by_cases hk0 : k = 0
        · subst hk0
          have S := step t1 (fun h0 => absurd h0 (by omega))
          clear step bad
          simp only [Nat.zero_mul, Nat.add_zero] at c0 c1 c2 c3
          go_wp2
          refine wp_region_pure (by kernel_rfl) (by kernel_rfl) ?_
          repeat (go_big_quiet_step ((go_at_call 111; rename_i x; have h1 := fenceOk_any l[0] x.1; exact pure_of h1)))
          refine wpQuiet_nil ?_
          rintro _ ⟨⟨w1, hb1⟩, rfl⟩
          clear hlc
          go_wp2
          exact ⟨⟨0 + 1, by omega, by go_num, S, bnext hba hb1⟩, by simp [intOf]; omega⟩
        · have hkp : 0 < k := by omega
          obtain ⟨b', o', he, _, d0, d1, d2, d3⟩ := (h.below hb).fence (k := k - 1) (by omega)
          simp only [Option.some.injEq, Addr.mk.injEq, and_true] at he
          obtain ⟨rfl, rfl⟩ := he
          have hki : (0 : Int) < (k : Int) := by omega
          cases t2 : fBe l[k-1] l[k]
          · have H := bad (.inr ⟨hkp, t2⟩)
            clear step bad
            go_wp2
            refine wp_region_pure (by kernel_rfl) (by kernel_rfl) ?_
            repeat (go_big_quiet_step ((first
              | (go_at_call 111; rename_i x; have h1 := fenceOk_any l[k] x.1; exact pure_of h1)
              | (go_at_call 112; rename_i x; have h1 := fBe_any _ (.inl rfl) l[k-1] l[k] x.1; exact pure_of h1))))
            refine wpQuiet_nil ?_
            rintro _ ⟨⟨w1, hb1⟩, rfl⟩
            clear hlc
            go_wp2
            go_ret
            exact ⟨ret_bool H.out.symm, bnext hba hb1⟩
          · have S := step t1 (fun _ => t2)
            clear step bad
            go_wp2
            refine wp_region_pure (by kernel_rfl) (by kernel_rfl) ?_
            repeat (go_big_quiet_step ((first
              | (go_at_call 111; rename_i x; have h1 := fenceOk_any l[k] x.1; exact pure_of h1)
              | (go_at_call 112; rename_i x; have h1 := fBe_any _ (.inl rfl) l[k-1] l[k] x.1; exact pure_of h1))))
            refine wpQuiet_nil ?_
            rintro _ ⟨⟨w1, hb1⟩, rfl⟩
            clear hlc
            go_wp2
            exact ⟨⟨k + 1, by omega, by go_num, S, bnext hba hb1⟩, by simp [intOf]; omega⟩
    · have hdone : fsOk l l.length := fun j hj _ => hok.out j hj (by omega)
      have H := Lib.hid (show decide (l.length ≤ 60) = fencesOk l by simp [fencesOk, hdone])
      clear hdone
      go_wp2
      go_ret
      refine ⟨ret_bool ?_, hb⟩
      rw [← H.out]
      exact decide_eq_decide.2 (by omega)
end Go.Proofs.Ytoccmpijfggmkaa
