/-
  WorkOf of both.
-/
import Derived.Test.YtoccmpijfggmkaaWs
namespace Go.Proofs.Ytoccmpijfggmkaa
open Go.RowKit
set_option maxRecDepth 100000
set_option maxHeartbeats 1000000

open Classical in
noncomputable def workOf (p : Plan) (l : List Int) : Int := if weightsOk p l = true then l.sum else 0

theorem weightsOk_all {p : Plan} {l : List Int} (h : weightsOk p l = true) : planFault p = 0 ∧ (l.length : Int) = p.tasks ∧ ∀ x ∈ l, 1 ≤ x ∧ x ≤ 1000 := by
  simp only [weightsOk, Bool.and_eq_true, decide_eq_true_eq, List.all_eq_true, inB_iff] at h
  exact ⟨h.1.1, h.1.2, h.2⟩
theorem weightsOk_len {p : Plan} {l : List Int} (h : weightsOk p l = true) : l.length ≤ 12 := by
  obtain ⟨h1, h2, _⟩ := weightsOk_all h
  have := manyOk_tasks (planFault_zero.1 h1).1
  omega
theorem sum_bound : ∀ {l : List Int}, (∀ x ∈ l, 1 ≤ x ∧ x ≤ 1000) → 0 ≤ l.sum ∧ l.sum ≤ 1000 * l.length
  | [], _ => by simp
  | a :: l, h => by
    have h1 := h a List.mem_cons_self
    have h2 := sum_bound (l := l) (fun x hx => h x (List.mem_cons_of_mem _ hx))
    simp only [List.sum_cons, List.length_cons]
    omega
theorem sum_take {l : List Int} {k : Nat} (hk : k < l.length) : (l.take (k + 1)).sum = (l.take k).sum + l[k] := by
  rw [take_snoc l k hk, List.sum_append]
  simp

theorem implWorkOf_any (p : Plan) (ve v : Value) (l : List Int) (w : World) (hl : p.edges.length ≤ 2000000) (hl2 : l.length ≤ 2000000) (h : Rd edgeE w w.heap.size ve p.edges) (h2 : Rd intE w w.heap.size v l) :
    Calls Try.prog 61 #[planV p ve, v] w fun e w' => e = .returned (.int .i64 (workOf p l)) ∧ Below w.heap.size w w' := by
  obtain ⟨A, c, rfl, -⟩ := id h2
  have hb0 := planBox_below 47 p ve w
  cases hf : weightsOk p l
  · have H := Lib.hid (show workOf p l = 0 by simp [workOf, hf])
    unfold planV
    go_enter Try.func61, Try.ntmps61
    go_wp2_with fail
    refine (implWeightsOk_any p ve (.slice A l.length c) l _ hl hl2 ((h.below hb0).more hb0.size) ((h2.below hb0).more hb0.size)).mono ?_
    rintro e w1 ⟨rfl, hb1⟩
    rw [hf]
    go_wp2
    go_ret
    exact ⟨ret_int H.out.symm, bnext hb0 hb1⟩
  · have H := Lib.hid (show workOf p l = l.sum by simp [workOf, hf])
    have hall := Lib.hid (weightsOk_all hf)
    have hlen := weightsOk_len hf
    unfold planV
    go_enter Try.func61, Try.ntmps61
    go_wp2_with fail
    refine (implWeightsOk_any p ve (.slice A l.length c) l _ hl hl2 ((h.below hb0).more hb0.size) ((h2.below hb0).more hb0.size)).mono ?_
    rintro e w1 ⟨rfl, hb1⟩
    rw [hf]
    clear hf
    have hbw := bnext hb0 hb1
    go_wp2
    clear hb1
    go_loopw [5, 14] (fun n i wr => ∃ k : Nat, k ≤ l.length ∧ i = .int .i64 k ∧ n = .int .i64 (l.take k).sum ∧ Below w.heap.size w wr) (fun _ i _ => l.length - (intOf i).toNat)
    case atStart => exact ⟨0, Nat.zero_le _, rfl, by simp, hbw⟩
    case round =>
      clear hbw
      obtain ⟨k, hk, rfl, rfl, hb⟩ := hrel
      by_cases hlt : k < l.length
      · obtain ⟨b, o, rfl, hbb, c0⟩ := (h2.below hb).int hlt
        have i1 : (k : Int) < (l.length : Int) := by omega
        have hsum := Lib.hid (sum_take hlt)
        have hs1 := sum_bound (l := l.take k) (fun x hx => hall.out.2.2 x (List.mem_of_mem_take hx))
        have hs2 := hall.out.2.2 l[k] (List.getElem_mem hlt)
        rw [List.length_take, Nat.min_eq_left hk] at hs1
        have hw : IntKind.i64.wrap ((l.take k).sum + l[k]) = (l.take k).sum + l[k] := IntWalk.i64_in _ (by omega)
        clear hs1 hs2
        go_wp2
        exact ⟨⟨k + 1, by omega, by go_num, by rw [hsum.out], hb⟩, by simp [intOf]; omega⟩
      · go_wp2
        go_ret
        refine ⟨ret_int ?_, hb⟩
        rw [H.out, List.take_of_length_le (by omega)]
theorem specWorkOf_any (p : Plan) (ve v : Value) (l : List Int) (w : World) (hl : p.edges.length ≤ 2000000) (hl2 : l.length ≤ 2000000) (h : Rd edgeE w w.heap.size ve p.edges) (h2 : Rd intE w w.heap.size v l) :
    Calls Try.prog 57 #[planV p ve, v] w fun e w' => e = .returned (.int .i64 (workOf p l)) ∧ Below w.heap.size w w' := by
  obtain ⟨A, c, rfl, -⟩ := id h2
  have hb0 := planBox_below 47 p ve w
  cases hf : weightsOk p l
  · have H := Lib.hid (show workOf p l = 0 by simp [workOf, hf])
    unfold planV
    go_enter Try.func57, Try.ntmps57
    go_wp2_with fail
    refine (specWeightsOk_any p ve (.slice A l.length c) l _ hl hl2 ((h.below hb0).more hb0.size) ((h2.below hb0).more hb0.size)).mono ?_
    rintro e w1 ⟨rfl, hb1⟩
    rw [hf]
    go_wp2
    go_ret
    exact ⟨ret_int H.out.symm, bnext hb0 hb1⟩
  · have H := Lib.hid (show workOf p l = l.sum by simp [workOf, hf])
    have hall := Lib.hid (weightsOk_all hf)
    have hlen := weightsOk_len hf
    unfold planV
    go_enter Try.func57, Try.ntmps57
    go_wp2_with fail
    refine (specWeightsOk_any p ve (.slice A l.length c) l _ hl hl2 ((h.below hb0).more hb0.size) ((h2.below hb0).more hb0.size)).mono ?_
    rintro e w1 ⟨rfl, hb1⟩
    rw [hf]
    clear hf
    have hbw := bnext hb0 hb1
    go_wp2
    clear hb1
    go_loopw [5, 6] (fun n i wr => ∃ k : Nat, k ≤ l.length ∧ i = .int .i64 k ∧ n = .int .i64 (l.take k).sum ∧ Below w.heap.size w wr) (fun _ i _ => l.length - (intOf i).toNat)
    case atStart => exact ⟨0, Nat.zero_le _, rfl, by simp, hbw⟩
    case round =>
      clear hbw
      obtain ⟨k, hk, rfl, rfl, hb⟩ := hrel
      by_cases hlt : k < l.length
      · obtain ⟨b, o, rfl, hbb, c0⟩ := (h2.below hb).int hlt
        have i1 : (k : Int) < (l.length : Int) := by omega
        have hsum := Lib.hid (sum_take hlt)
        have hs1 := sum_bound (l := l.take k) (fun x hx => hall.out.2.2 x (List.mem_of_mem_take hx))
        have hs2 := hall.out.2.2 l[k] (List.getElem_mem hlt)
        rw [List.length_take, Nat.min_eq_left hk] at hs1
        have hw : IntKind.i64.wrap ((l.take k).sum + l[k]) = (l.take k).sum + l[k] := IntWalk.i64_in _ (by omega)
        clear hs1 hs2
        go_wp2
        exact ⟨⟨k + 1, by omega, by go_num, by rw [hsum.out], hb⟩, by simp [intOf]; omega⟩
      · go_wp2
        go_ret
        refine ⟨ret_int ?_, hb⟩
        rw [H.out, List.take_of_length_le (by omega)]
end Go.Proofs.Ytoccmpijfggmkaa
