/-
  The law FnExactIdleOf: its walk, out of the contracts of what it calls. Written by program (law.py).
-/
import Derived.Test.YtoccmpijfggmkaaIe
namespace Go.Proofs.Ytoccmpijfggmkaa
open Go.RowKit
set_option maxRecDepth 100000
set_option maxHeartbeats 400000

theorem lawIdleOf_walk (vlist : Value) (llist : List Slot) (many : Int) (w : World) (hllist : llist.length ≤ 9223372036854775807) (hlist : Rd slotE w w.heap.size vlist llist) :
    Calls Try.prog 6 #[vlist, .int .i64 many] w fun e w' => e = .returned (.bool true) ∧ Below w.heap.size w w' := by
  go_enter Try.func6, Try.ntmps6
  go_wp2_with fail
  have b0 : Below w.heap.size w w := Below.refl _ _
  refine (szSlotS_any _ llist _ _ (by omega) (by omega) hllist ((hlist.below b0).more b0.size)).mono ?_
  rintro e w1 ⟨r1, rfl, hr1, c1⟩
  have b1 := bnext b0 c1
  rcases hr1 with rfl | ⟨q1, s1⟩
  · go_wp2_with fail
    go_ret
    exact ⟨rfl, b1⟩
  go_wp2_with fail
  have hmlist : llist.length ≤ 2000000 := by omega
  refine (toSlotS_any _ llist _ hmlist ((hlist.below b1).more b1.size)).mono ?_
  rintro e w2 ⟨uslist, rfl, oslist, c2⟩
  have b2 := bnext b1 c2
  go_wp2_with fail
  refine (specIdleOf_any _ llist many _ hmlist (Rd.of_own oslist)).mono ?_
  rintro e w3 ⟨rfl, c3⟩
  have b3 := bnext b2 c3
  have oslist := oslist.below c3
  go_wp2_with fail
  refine (toSlotS_any _ llist _ hmlist ((hlist.below b3).more b3.size)).mono ?_
  rintro e w4 ⟨uxlist, rfl, oxlist, c4⟩
  have b4 := bnext b3 c4
  go_wp2_with fail
  refine (implIdleOf_any _ llist many _ hmlist (Rd.of_own oxlist)).mono ?_
  rintro e w5 ⟨rfl, c5⟩
  have b5 := bnext b4 c5
  have oxlist := oxlist.below c5
  go_wp2_with fail
  refine (toSlotS_any _ llist _ hmlist ((hlist.below b5).more b5.size)).mono ?_
  rintro e w6 ⟨uylist, rfl, oylist, c6⟩
  have b6 := bnext b5 c6
  have oxlist := oxlist.below c6
  go_wp2_with fail
  refine (eqSlotS_any _ _ llist llist _ hmlist hmlist (Rd.of_own oxlist) (Rd.of_own oylist)).mono ?_
  rintro e w7 ⟨rfl, c7⟩
  have b7 := bnext b6 c7
  have oxlist := oxlist.below c7
  have oylist := oylist.below c7
  go_wp2_with fail
  go_ret
  exact ⟨rfl, b7⟩
end Go.Proofs.Ytoccmpijfggmkaa
