/-
  FnExactEndOf: the law's walk, out of the contracts.
-/
import Derived.Test.YtoccmpijfggmkaaEnd
namespace Go.Proofs.Ytoccmpijfggmkaa
open Go.RowKit
set_option maxRecDepth 100000
set_option maxHeartbeats 400000

theorem lawEndOf_walk (v : Value) (l : List Slot) (w : World) (hl : l.length ≤ 9223372036854775807) (h : Rd slotE w w.heap.size v l) :
    Calls Try.prog 3 #[v] w fun e w' => e = .returned (.bool true) ∧ Below w.heap.size w w' := by
  by_cases hbig : (1048576 : Int) < l.length
  · go_enter Try.func3, Try.ntmps3
    go_wp2_with (go_at_call 29; refine (szSlotS_any _ l _ _ (by omega) (by omega) hl (let ⟨A, c, hv, _⟩ := h; ⟨A, c, hv⟩)).mono ?_; rintro e w1 ⟨rfl, rfl⟩; rw [if_pos hbig])
    go_ret
    exact ⟨rfl, Below.refl _ _⟩
  · have hl2 : l.length ≤ 2000000 := by omega
    go_enter Try.func3, Try.ntmps3
    go_wp2_with (go_at_call 29; refine (szSlotS_any _ l _ _ (by omega) (by omega) hl (let ⟨A, c, hv, _⟩ := h; ⟨A, c, hv⟩)).mono ?_; rintro e w1 ⟨rfl, rfl⟩; rw [if_neg hbig])
    refine (toSlotS_any _ l _ hl2 h).mono ?_
    rintro e w1 ⟨v1, rfl, o1, b1⟩
    go_wp2_with fail
    refine (specEndOf_any _ l _ hl2 (Rd.of_own o1)).mono ?_
    rintro e w' ⟨rfl, rfl⟩
    go_wp2_with fail
    refine (toSlotS_any _ l _ hl2 ((h.below b1).more b1.size)).mono ?_
    rintro e w2 ⟨v2, rfl, o2, b2⟩
    go_wp2_with fail
    refine (implEndOf_any _ l _ hl2 (Rd.of_own o2)).mono ?_
    rintro e w3 ⟨rfl, b3⟩
    go_wp2_with fail
    have b13 := b1.trans ((b2.trans (b3.mono b2.size)).mono b1.size)
    refine (toSlotS_any _ l _ hl2 ((h.below b13).more b13.size)).mono ?_
    rintro e w4 ⟨v4, rfl, o4, b4⟩
    go_wp2_with fail
    have o2' := (o2.below b3).below b4
    refine (eqSlotS_any _ _ l l _ hl2 hl2 ((Rd.of_own o2').more (Nat.le_refl _)) (Rd.of_own o4)).mono ?_
    rintro e w5 ⟨rfl, b5⟩
    go_wp2_with fail
    go_ret
    exact ⟨rfl, bnext (bnext b13 b4) b5⟩
end Go.Proofs.Ytoccmpijfggmkaa
