/-
  WeightsOk of the program.
-/
import Derived.Test.YtoccmpijfggmkaaPj
import Derived.Test.YtoccmpijfggmkaaPs
namespace Go.Proofs.Ytoccmpijfggmkaa
open Go.RowKit
set_option maxRecDepth 100000
set_option maxHeartbeats 1000000

noncomputable def weightsOk (p : Plan) (l : List Int) : Bool := decide (planFault p = 0) && decide ((l.length : Int) = p.tasks) && l.all fun x => inB x 1 1000

theorem weightsOk_take {p : Plan} {l : List Int} {k : Nat} (hk : k < l.length) (h : inB l[k] 1 1000 = false) : weightsOk p l = false := by
  have : l.all (fun x => inB x 1 1000) = false := by
    rw [List.all_eq_false]
    exact ⟨l[k], List.getElem_mem hk, by rw [h]; simp⟩
  simp [weightsOk, this]

theorem implWeightsOk_any (p : Plan) (ve v : Value) (l : List Int) (w : World) (hl : p.edges.length ≤ 2000000) (hl2 : l.length ≤ 2000000) (h : Rd edgeE w w.heap.size ve p.edges) (h2 : Rd intE w w.heap.size v l) :
    Calls Try.prog 50 #[planV p ve, v] w fun e w' => e = .returned (.bool (weightsOk p l)) ∧ Below w.heap.size w w' := by
  obtain ⟨A, c, rfl, -⟩ := id h2
  have hb0 := planBox_below 47 p ve w
  by_cases hf : planFault p = 0
  · have hfb : (planFault p != 0) = false := by simp [hf]
    have Hf := Lib.hid hf
    by_cases hn : (l.length : Int) = p.tasks
    · have hnb : ((l.length : Int) != p.tasks) = false := by simp [hn]
      have Hn := Lib.hid hn
      clear hf hn
      unfold planV
      go_enter Try.func50, Try.ntmps50
      go_wp2_with fail
      refine (implPlanFault_any p ve _ hl ((h.below hb0).more hb0.size)).mono ?_
      rintro e w1 ⟨rfl, hb1⟩
      obtain ⟨x0, x1, x2, x3, x4, hs, hbw⟩ := planBox_cells (T := 47) (p := p) (ve := ve) (w := w) hb1
      go_wp2
      go_loopw [19] (fun i wr => ∃ k : Nat, k ≤ l.length ∧ i = .int .i64 k ∧ Hid (∀ j (hj : j < l.length), j < k → inB l[j] 1 1000 = true) ∧ Below w.heap.size w wr) (fun i _ => l.length - (intOf i).toNat)
      case atStart => exact ⟨0, Nat.zero_le _, rfl, fun j hj h0 => absurd h0 (by omega), hbw⟩
      case round =>
        clear hb1 x0 x1 x2 x3 x4 hs hbw
        obtain ⟨k, hk, rfl, hok, hb⟩ := hrel
        by_cases hlt : k < l.length
        · obtain ⟨b, o, rfl, hbb, c0⟩ := (h2.below hb).int hlt
          have i1 : (k : Int) < (l.length : Int) := by omega
          cases g : inB l[k] 1 1000
          · have H := Lib.hid (weightsOk_take (p := p) hlt g)
            go_wp2_with (go_at_call 114; refine (within_any _ _ _ _).mono ?_; rintro e w' ⟨rfl, rfl⟩)
            go_ret
            exact ⟨ret_bool H.out.symm, hb⟩
          · have S : Hid (∀ j (hj : j < l.length), j < k + 1 → inB l[j] 1 1000 = true) := by
              intro j hj hjk
              by_cases e : j = k
              · subst e; exact g
              · exact hok.out j hj (by omega)
            go_wp2_with (go_at_call 114; refine (within_any _ _ _ _).mono ?_; rintro e w' ⟨rfl, rfl⟩)
            exact ⟨⟨k + 1, by omega, by go_num, S, hb⟩, by simp [intOf]; omega⟩
        · have H : Hid (weightsOk p l = true) := by
            show weightsOk p l = true
            simp only [weightsOk, Hf.out, Hn.out, decide_true, Bool.true_and, List.all_eq_true]
            intro x hx
            obtain ⟨j, hj, rfl⟩ := List.getElem_of_mem hx
            exact hok.out j hj (by omega)
          go_wp2
          go_ret
          exact ⟨ret_bool H.out.symm, hb⟩
    · have hnb : ((l.length : Int) != p.tasks) = true := by simp [hn]
      have H := Lib.hid (show weightsOk p l = false by simp [weightsOk, hn])
      clear hf hn
      unfold planV
      go_enter Try.func50, Try.ntmps50
      go_wp2_with fail
      refine (implPlanFault_any p ve _ hl ((h.below hb0).more hb0.size)).mono ?_
      rintro e w1 ⟨rfl, hb1⟩
      obtain ⟨x0, x1, x2, x3, x4, hs, hbw⟩ := planBox_cells (T := 47) (p := p) (ve := ve) (w := w) hb1
      go_wp2
      go_ret
      exact ⟨ret_bool H.out.symm, hbw⟩
  · have hfb : (planFault p != 0) = true := by simp [hf]
    have H := Lib.hid (show weightsOk p l = false by simp [weightsOk, hf])
    clear hf
    unfold planV
    go_enter Try.func50, Try.ntmps50
    go_wp2_with fail
    refine (implPlanFault_any p ve _ hl ((h.below hb0).more hb0.size)).mono ?_
    rintro e w1 ⟨rfl, hb1⟩
    go_wp2
    go_ret
    exact ⟨ret_bool H.out.symm, bnext hb0 hb1⟩
end Go.Proofs.Ytoccmpijfggmkaa
