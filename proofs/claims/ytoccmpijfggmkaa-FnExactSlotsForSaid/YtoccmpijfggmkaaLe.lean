/-
  LeastEnd of both.
-/
import Derived.Test.YtoccmpijfggmkaaLo
namespace Go.Proofs.Ytoccmpijfggmkaa
open Go.RowKit
set_option maxRecDepth 100000
set_option maxHeartbeats 2000000

noncomputable def leastEnd (p : Plan) (l : List Int) (many : Int) : Int := if weightsOk p l = true ∧ inB many 1 8 = true then max (longestOf p l) ((workOf p l + many - 1) / many) else 0
theorem leastEnd_no {p : Plan} {l : List Int} {many : Int} (h : ¬ (weightsOk p l = true ∧ inB many 1 8 = true)) : leastEnd p l many = 0 := by unfold leastEnd; rw [if_neg h]
theorem leastEnd_yes {p : Plan} {l : List Int} {many : Int} (h : weightsOk p l = true ∧ inB many 1 8 = true) : leastEnd p l many = max (longestOf p l) ((workOf p l + many - 1) / many) := by unfold leastEnd; rw [if_pos h]
theorem longestOf_bd {p : Plan} {l : List Int} (h : weightsOk p l = true) : 0 ≤ longestOf p l ∧ longestOf p l ≤ 145000 := longUpto_bd (earliestOf_bd p l) (weightsOk_all h).2.2 _
theorem workOf_bd {p : Plan} {l : List Int} (h : weightsOk p l = true) : 0 ≤ workOf p l ∧ workOf p l ≤ 12000 := by
  have h1 := sum_bound (weightsOk_all h).2.2
  have h2 := weightsOk_len h
  simp only [workOf, if_pos h]
  omega

theorem implLeast_any (p : Plan) (ve v : Value) (l : List Int) (many : Int) (w : World) (hl : p.edges.length ≤ 2000000) (hl2 : l.length ≤ 2000000) (h : Rd edgeE w w.heap.size ve p.edges) (h2 : Rd intE w w.heap.size v l) :
    Calls Try.prog 59 #[planV p ve, v, .int .i64 many] w fun e w' => e = .returned (.int .i64 (leastEnd p l many)) ∧ Below w.heap.size w w' := by
  have hb0 := planBox_below 47 p ve w
  have D0 := BoxAt.new 47 p ve w
  cases hf : weightsOk p l
  · have H := Lib.hid (leastEnd_no (p := p) (l := l) (many := many) (fun x => by rw [hf] at x; cases x.1))
    have HF := Lib.hid hf
    clear hf
    unfold planV
    go_enter Try.func59, Try.ntmps59
    go_wp2_with fail
    refine (implWeightsOk_any p ve v l _ hl hl2 ((h.below hb0).more hb0.size) ((h2.below hb0).more hb0.size)).mono ?_
    rintro e w1 ⟨rfl, hb1⟩
    rw [HF.out]
    go_wp2
    go_ret
    exact ⟨ret_int H.out.symm, bnext hb0 hb1⟩
  cases hm : inB many 1 8
  · have H := Lib.hid (leastEnd_no (p := p) (l := l) (many := many) (fun x => by rw [hm] at x; cases x.2))
    have HF := Lib.hid hf
    clear hf
    unfold planV
    go_enter Try.func59, Try.ntmps59
    go_wp2_with fail
    refine (implWeightsOk_any p ve v l _ hl hl2 ((h.below hb0).more hb0.size) ((h2.below hb0).more hb0.size)).mono ?_
    rintro e w1 ⟨rfl, hb1⟩
    rw [HF.out]
    have hb := bnext hb0 hb1
    go_wp2_with (go_at_call 114; refine (within_any _ _ _ _).mono ?_; rintro e w' ⟨rfl, rfl⟩)
    go_ret
    exact ⟨ret_int H.out.symm, hb⟩
  have H := Lib.hid (leastEnd_yes ⟨hf, hm⟩)
  have HF := Lib.hid hf
  obtain ⟨m1, m2⟩ := inB_iff.1 hm
  obtain ⟨l1, l2⟩ := longestOf_bd hf
  obtain ⟨k1, k2⟩ := workOf_bd hf
  clear hf
  unfold planV
  go_enter Try.func59, Try.ntmps59
  go_wp2_with fail
  refine (implWeightsOk_any p ve v l _ hl hl2 ((h.below hb0).more hb0.size) ((h2.below hb0).more hb0.size)).mono ?_
  rintro e w1 ⟨rfl, hb1⟩
  rw [HF.out]
  have hb := bnext hb0 hb1
  have D := D0.below hb1
  clear hb0 hb1 D0
  obtain ⟨x0, x1, x2, x3, x4, xs⟩ := D.cells
  generalize hL : longestOf p l = L at *
  have HL := Lib.hid hL
  generalize hK : workOf p l = K at *
  have HK := Lib.hid hK
  clear hL hK
  have hs1 : IntKind.i64.wrap (K + many) = K + many := IntWalk.i64_in _ (by omega)
  have hs2 : IntKind.i64.wrap (K + many - 1) = K + many - 1 := IntWalk.i64_in _ (by omega)
  have hq : 0 ≤ (K + many - 1) / many ∧ (K + many - 1) / many ≤ 20000 := by
    refine ⟨Int.ediv_nonneg (by omega) (by omega), ?_⟩
    have := Int.ediv_le_self many (a := K + many - 1) (by omega)
    omega
  obtain ⟨q1, q2⟩ := hq
  go_wp2_with (go_at_call 114; refine (within_any _ _ _ _).mono ?_; rintro e w' ⟨rfl, rfl⟩)
  have hlc := later_cell w1
  refine wp_region_pure (by kernel_rfl) (by kernel_rfl) ?_
  repeat (go_big_quiet_step ((first
    | (go_at_call 80; rename_i x; have h1 := implLongest_any p ve v l x.1 hl hl2 ((h.below (bnext hb x.2)).more (bnext hb x.2).size) ((h2.below (bnext hb x.2)).more (bnext hb x.2).size); rw [HL.out] at h1; unfold planV at h1; with_reducible exact pure_of h1)
    | (go_at_call 61; rename_i x; have h1 := implWorkOf_any p ve v l x.1 hl hl2 ((h.below (bnext hb x.2)).more (bnext hb x.2).size) ((h2.below (bnext hb x.2)).more (bnext hb x.2).size); rw [HK.out] at h1; unfold planV at h1; with_reducible exact pure_of h1))))
  refine wpQuiet_nil ?_
  rintro _ ⟨⟨w3, hb3⟩, rfl⟩
  clear hlc
  go_wp2
  go_ret
  exact ⟨ret_int H.out.symm, bnext hb hb3⟩
theorem specLeast_any (p : Plan) (ve v : Value) (l : List Int) (many : Int) (w : World) (hl : p.edges.length ≤ 2000000) (hl2 : l.length ≤ 2000000) (h : Rd edgeE w w.heap.size ve p.edges) (h2 : Rd intE w w.heap.size v l) :
    Calls Try.prog 60 #[planV p ve, v, .int .i64 many] w fun e w' => e = .returned (.int .i64 (leastEnd p l many)) ∧ Below w.heap.size w w' := by
  have hb0 := planBox_below 47 p ve w
  have D0 := BoxAt.new 47 p ve w
  cases hf : weightsOk p l
  · have H := Lib.hid (leastEnd_no (p := p) (l := l) (many := many) (fun x => by rw [hf] at x; cases x.1))
    have HF := Lib.hid hf
    clear hf
    unfold planV
    go_enter Try.func60, Try.ntmps60
    go_wp2_with fail
    refine (specWeightsOk_any p ve v l _ hl hl2 ((h.below hb0).more hb0.size) ((h2.below hb0).more hb0.size)).mono ?_
    rintro e w1 ⟨rfl, hb1⟩
    rw [HF.out]
    go_wp2
    go_ret
    exact ⟨ret_int H.out.symm, bnext hb0 hb1⟩
  cases hm : inB many 1 8
  · have H := Lib.hid (leastEnd_no (p := p) (l := l) (many := many) (fun x => by rw [hm] at x; cases x.2))
    have HF := Lib.hid hf
    clear hf
    unfold planV
    go_enter Try.func60, Try.ntmps60
    go_wp2_with fail
    refine (specWeightsOk_any p ve v l _ hl hl2 ((h.below hb0).more hb0.size) ((h2.below hb0).more hb0.size)).mono ?_
    rintro e w1 ⟨rfl, hb1⟩
    rw [HF.out]
    have hb := bnext hb0 hb1
    go_wp2_with (go_at_call 113; refine (l01In_any _ _ _ _).mono ?_; rintro e w' ⟨rfl, rfl⟩)
    go_ret
    exact ⟨ret_int H.out.symm, hb⟩
  have H := Lib.hid (leastEnd_yes ⟨hf, hm⟩)
  have HF := Lib.hid hf
  obtain ⟨m1, m2⟩ := inB_iff.1 hm
  obtain ⟨l1, l2⟩ := longestOf_bd hf
  obtain ⟨k1, k2⟩ := workOf_bd hf
  clear hf
  unfold planV
  go_enter Try.func60, Try.ntmps60
  go_wp2_with fail
  refine (specWeightsOk_any p ve v l _ hl hl2 ((h.below hb0).more hb0.size) ((h2.below hb0).more hb0.size)).mono ?_
  rintro e w1 ⟨rfl, hb1⟩
  rw [HF.out]
  have hb := bnext hb0 hb1
  have D := D0.below hb1
  clear hb0 hb1 D0
  obtain ⟨x0, x1, x2, x3, x4, xs⟩ := D.cells
  generalize hL : longestOf p l = L at *
  have HL := Lib.hid hL
  generalize hK : workOf p l = K at *
  have HK := Lib.hid hK
  clear hL hK
  have hs1 : IntKind.i64.wrap (K + many) = K + many := IntWalk.i64_in _ (by omega)
  have hs2 : IntKind.i64.wrap (K + many - 1) = K + many - 1 := IntWalk.i64_in _ (by omega)
  have hq : 0 ≤ (K + many - 1) / many ∧ (K + many - 1) / many ≤ 20000 := by
    refine ⟨Int.ediv_nonneg (by omega) (by omega), ?_⟩
    have := Int.ediv_le_self many (a := K + many - 1) (by omega)
    omega
  obtain ⟨q1, q2⟩ := hq
  go_wp2_with (go_at_call 113; refine (l01In_any _ _ _ _).mono ?_; rintro e w' ⟨rfl, rfl⟩)
  clear x0 x1 x2 x3 x4 xs
  refine (specWorkOf_any p ve v l _ hl hl2 ((h.below hb).more hb.size) ((h2.below hb).more hb.size)).mono ?_
  rintro e w2 ⟨rfl, hb2⟩
  rw [HK.out]
  have D := D.below hb2
  have hb := bnext hb hb2
  obtain ⟨x0, x1, x2, x3, x4, xs⟩ := D.cells
  go_wp2_with fail
  clear x0 x1 x2 x3 x4 xs
  refine (specLongest_any p ve v l _ hl hl2 ((h.below hb).more hb.size) ((h2.below hb).more hb.size)).mono ?_
  rintro e w3 ⟨rfl, hb3⟩
  rw [HL.out]
  have D := D.below hb3
  have hb := bnext hb hb3
  obtain ⟨x0, x1, x2, x3, x4, xs⟩ := D.cells
  by_cases hgt : (K + many - 1) / many < L
  · have hmax := Lib.hid (show max L ((K + many - 1) / many) = L by omega)
    go_wp2_with fail
    clear x0 x1 x2 x3 x4 xs
    refine (specLongest_any p ve v l _ hl hl2 ((h.below hb).more hb.size) ((h2.below hb).more hb.size)).mono ?_
    rintro e w4 ⟨rfl, hb4⟩
    rw [HL.out]
    have hb := bnext hb hb4
    go_wp2
    go_ret
    exact ⟨ret_int (by rw [H.out, hmax.out]), hb⟩
  · have hmax := Lib.hid (show max L ((K + many - 1) / many) = (K + many - 1) / many by omega)
    go_wp2
    go_ret
    exact ⟨ret_int (by rw [H.out, hmax.out]), hb⟩
end Go.Proofs.Ytoccmpijfggmkaa
