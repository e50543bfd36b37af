/-
  SameOrder of the program.
-/
import Derived.Test.YtoccmpijfggmkaaRe
namespace Go.Proofs.Ytoccmpijfggmkaa
open Go.RowKit
set_option maxRecDepth 100000
set_option maxHeartbeats 1000000

/-- the same tasks wait for the same tasks -/
def SameReach (p q : Plan) : Prop := ∀ a b : Nat, a < p.tasks.toNat → b < p.tasks.toNat → (Pg.Reach (esOf p) a b ↔ Pg.Reach (esOf q) a b)
open Classical in
noncomputable def sameOrder (p q : Plan) : Bool := decide (planFault p = 0 ∧ planFault q = 0 ∧ p.tasks = q.tasks ∧ SameReach p q)
theorem sameOrder_iff {p q : Plan} : sameOrder p q = true ↔ planFault p = 0 ∧ planFault q = 0 ∧ p.tasks = q.tasks ∧ SameReach p q := by
  simp [sameOrder]
theorem sameOrder_no {p q : Plan} (h : ¬ (planFault p = 0 ∧ planFault q = 0 ∧ p.tasks = q.tasks ∧ SameReach p q)) : sameOrder p q = false := by
  cases hs : sameOrder p q
  · rfl
  · exact absurd (sameOrder_iff.1 hs) h

theorem implSameOrder_any (p : Plan) (ve : Value) (q : Plan) (vf : Value) (w : World) (hl : p.edges.length ≤ 2000000) (hl' : q.edges.length ≤ 2000000) (h : Rd edgeE w w.heap.size ve p.edges) (h' : Rd edgeE w w.heap.size vf q.edges) :
    Calls Try.prog 46 #[planV p ve, planV q vf] w fun e w' => e = .returned (.bool (sameOrder p q)) ∧ Below w.heap.size w w' := by
  obtain ⟨D0, E0, hb0⟩ := twoBox_at 47 p ve q vf w
  by_cases hf : planFault p = 0
  case neg =>
    have hfb : (planFault p != 0) = true := by simp [hf]
    have H := Lib.hid (sameOrder_no (p := p) (q := q) (fun x => hf x.1))
    clear hf
    unfold planV
    go_enter Try.func46, Try.ntmps46
    go_wp2_with fail
    refine (implPlanFault_any p ve _ hl ((h.below hb0).more hb0.size)).mono ?_
    rintro e w1 ⟨rfl, hb1⟩
    go_wp2
    go_ret
    exact ⟨ret_bool H.out.symm, bnext hb0 hb1⟩
  have hfb : (planFault p != 0) = false := by simp [hf]
  by_cases hg : planFault q = 0
  case neg =>
    have hgb : (planFault q != 0) = true := by simp [hg]
    have H := Lib.hid (sameOrder_no (p := p) (q := q) (fun x => hg x.2.1))
    clear hf hg
    unfold planV
    go_enter Try.func46, Try.ntmps46
    go_wp2_with fail
    refine (implPlanFault_any p ve _ hl ((h.below hb0).more hb0.size)).mono ?_
    rintro e w1 ⟨rfl, hb1⟩
    have hbw := bnext hb0 hb1
    obtain ⟨x0, x1, x2, x3, x4, xs⟩ := (E0.below hb1).cells
    go_wp2_with fail
    clear x0 x1 x2 x3 x4 xs
    refine (implPlanFault_any q vf _ hl' ((h'.below hbw).more hbw.size)).mono ?_
    rintro e w2 ⟨rfl, hb2⟩
    go_wp2
    go_ret
    exact ⟨ret_bool H.out.symm, bnext hbw hb2⟩
  have hgb : (planFault q != 0) = false := by simp [hg]
  by_cases ht : p.tasks = q.tasks
  case neg =>
    have htb : (p.tasks != q.tasks) = true := by simp [ht]
    have H := Lib.hid (sameOrder_no (p := p) (q := q) (fun x => ht x.2.2.1))
    clear hf hg ht
    unfold planV
    go_enter Try.func46, Try.ntmps46
    go_wp2_with fail
    refine (implPlanFault_any p ve _ hl ((h.below hb0).more hb0.size)).mono ?_
    rintro e w1 ⟨rfl, hb1⟩
    have hbw := bnext hb0 hb1
    obtain ⟨x0, x1, x2, x3, x4, xs⟩ := (E0.below hb1).cells
    go_wp2_with fail
    clear x0 x1 x2 x3 x4 xs
    refine (implPlanFault_any q vf _ hl' ((h'.below hbw).more hbw.size)).mono ?_
    rintro e w2 ⟨rfl, hb2⟩
    obtain ⟨x0, x1, x2, x3, x4, xs⟩ := ((E0.below hb1).below hb2).cells
    obtain ⟨y0, y1, y2, y3, y4, ys⟩ := ((D0.below hb1).below hb2).cells
    go_wp2
    go_ret
    exact ⟨ret_bool H.out.symm, bnext hbw hb2⟩
  have htb : (p.tasks != q.tasks) = false := by simp [ht]
  obtain ⟨t1, t2⟩ := manyOk_tasks (planFault_zero.1 hf).1
  obtain ⟨T, hT⟩ := Int.eq_ofNat_of_zero_le (show 0 ≤ p.tasks by omega)
  have hT2 : T ≤ 12 := by omega
  have HF := Lib.hid hf
  have HG := Lib.hid hg
  have HQ := Lib.hid ht
  have HT := Lib.hid hT
  clear hf hg ht hT
  unfold planV
  go_enter Try.func46, Try.ntmps46
  go_wp2_with fail
  refine (implPlanFault_any p ve _ hl ((h.below hb0).more hb0.size)).mono ?_
  rintro e w1 ⟨rfl, hb1⟩
  have hbw := bnext hb0 hb1
  obtain ⟨x0, x1, x2, x3, x4, xs⟩ := (E0.below hb1).cells
  go_wp2_with fail
  clear x0 x1 x2 x3 x4 xs
  refine (implPlanFault_any q vf _ hl' ((h'.below hbw).more hbw.size)).mono ?_
  rintro e w2 ⟨rfl, hb2⟩
  have hbw := bnext hbw hb2
  have D := (D0.below hb1).below hb2
  have E := (E0.below hb1).below hb2
  obtain ⟨x0, x1, x2, x3, x4, xs⟩ := E.cells
  obtain ⟨y0, y1, y2, y3, y4, ys⟩ := D.cells
  clear hb1 hb2 hb0 D0 E0
  go_wp2
  clear x0 x1 x2 x3 x4 xs y0 y1 y2 y3 y4 ys
  go_loopw [5] (fun i wr => ∃ k : Nat, k ≤ T ∧ i = .int .i64 k ∧ Hid (∀ x y : Nat, x < k → y < T → reachB p x y = reachB q x y) ∧ BoxAt w.heap.size p ve wr ∧ BoxAt (w.heap.size + 1) q vf wr ∧ Below w.heap.size w wr) (fun i _ => T - (intOf i).toNat)
  case atStart => exact ⟨0, Nat.zero_le _, rfl, fun x y hx => absurd hx (by omega), D, E, hbw⟩
  case round =>
    clear D E hbw
    obtain ⟨k, hk, rfl, hok, D, E, hb⟩ := hrel
    obtain ⟨y0, y1, y2, y3, y4, ys⟩ := D.cells
    by_cases hlt : k < T
    · have hltI : (k : Int) < p.tasks := by rw [HT.out]; omega
      obtain ⟨wo, rfl⟩ : ∃ wo : World, wo = wr := ⟨_, rfl⟩
      go_wp2
      clear y0 y1 y2 y3 y4 ys
      go_loopw [6] (fun i wr => ∃ j : Nat, j ≤ T ∧ i = .int .i64 j ∧ Hid (∀ y : Nat, y < j → reachB p k y = reachB q k y) ∧ BoxAt w.heap.size p ve wr ∧ BoxAt (w.heap.size + 1) q vf wr ∧ Below w.heap.size w wr) (fun i _ => T - (intOf i).toNat)
      case atStart => exact ⟨0, Nat.zero_le _, rfl, fun y hy => absurd hy (by omega), D, E, hb⟩
      case round =>
        clear D E hb
        obtain ⟨j, hj, rfl, hok2, D, E, hb⟩ := hrel
        obtain ⟨y0, y1, y2, y3, y4, ys⟩ := D.cells
        obtain ⟨x0, x1, x2, x3, x4, xs⟩ := E.cells
        by_cases hjt : j < T
        · have hjtI : (j : Int) < p.tasks := by rw [HT.out]; omega
          cases hr : reachB p k j == reachB q k j
          · have H := Lib.hid (sameOrder_no (p := p) (q := q) (fun x => by
              have h1 := reachB_iff HF.out (a := k) (b := j) (by rw [HT.out]; omega) (by rw [HT.out]; omega)
              have h2 := reachB_iff HG.out (a := k) (b := j) (by rw [← HQ.out, HT.out]; omega) (by rw [← HQ.out, HT.out]; omega)
              have h3 := x.2.2.2 k j (by rw [HT.out]; omega) (by rw [HT.out]; omega)
              have : reachB p k j = reachB q k j := by rw [Bool.eq_iff_iff, h1, h2]; exact h3
              rw [this] at hr
              simp at hr))
            have hrr : Hid (reachB p k j = true ∧ reachB q k j = false) ∨ Hid (reachB p k j = false ∧ reachB q k j = true) := by
              cases h1 : reachB p k j <;> cases h2 : reachB q k j <;> simp_all [Hid]
            clear hr
            rcases hrr with hr | hr
            all_goals
              go_wp2
              have hlc := later_cell wr
              refine wp_region_pure (by kernel_rfl) (by kernel_rfl) ?_
              repeat (go_big_quiet_step ((first
                | (go_at_call 81; rename_i x; have h1 := implReaches_any p ve k j x.1 hl ((h.below (bnext hb x.2)).more (bnext hb x.2).size); rw [hr.out.1] at h1; unfold planV at h1; with_reducible exact pure_of h1)
                | (go_at_call 81; rename_i x; have h1 := implReaches_any q vf k j x.1 hl' ((h'.below (bnext hb x.2)).more (bnext hb x.2).size); rw [hr.out.2] at h1; unfold planV at h1; with_reducible exact pure_of h1))))
              refine wpQuiet_nil ?_
              rintro _ ⟨⟨w3, hb3⟩, rfl⟩
              clear hlc
              go_wp2
              go_ret
              exact ⟨ret_bool H.out.symm, bnext hb hb3⟩
          · have S : Hid (∀ y : Nat, y < j + 1 → reachB p k y = reachB q k y) := by
              intro y hy
              by_cases e : y = j
              · subst e; simpa using hr
              · exact hok2.out y (by omega)
            obtain ⟨r, hr1, hr2⟩ : ∃ r, Hid (reachB p k j = r) ∧ Hid (reachB q k j = r) := ⟨_, rfl, (eq_of_beq hr).symm⟩
            clear hr
            go_wp2
            have hlc := later_cell wr
            refine wp_region_pure (by kernel_rfl) (by kernel_rfl) ?_
            repeat (go_big_quiet_step ((first
              | (go_at_call 81; rename_i x; have h1 := implReaches_any p ve k j x.1 hl ((h.below (bnext hb x.2)).more (bnext hb x.2).size); rw [hr1.out] at h1; unfold planV at h1; with_reducible exact pure_of h1)
              | (go_at_call 81; rename_i x; have h1 := implReaches_any q vf k j x.1 hl' ((h'.below (bnext hb x.2)).more (bnext hb x.2).size); rw [hr2.out] at h1; unfold planV at h1; with_reducible exact pure_of h1))))
            refine wpQuiet_nil ?_
            rintro _ ⟨⟨w3, hb3⟩, rfl⟩
            clear hlc
            go_wp2
            exact ⟨⟨j + 1, by omega, by go_num, S, D.below hb3, E.below hb3, bnext hb hb3⟩, by simp [intOf]; omega⟩
        · have hjtI : ¬ (j : Int) < p.tasks := by rw [HT.out]; omega
          have S : Hid (∀ x y : Nat, x < k + 1 → y < T → reachB p x y = reachB q x y) := by
            intro x y hx hy
            by_cases e : x = k
            · subst e; exact hok2.out y (by omega)
            · exact hok.out x y (by omega) hy
          go_wp2
          exact ⟨⟨k + 1, by omega, by go_num, S, D, E, hb⟩, by simp [intOf]; omega⟩
    · have hltI : ¬ (k : Int) < p.tasks := by rw [HT.out]; omega
      have H : Hid (sameOrder p q = true) := sameOrder_iff.2 ⟨HF.out, HG.out, HQ.out, fun a b ha hb' => by
        have h1 := reachB_iff HF.out ha hb'
        have h2 := reachB_iff HG.out (a := a) (b := b) (by rw [← HQ.out]; exact ha) (by rw [← HQ.out]; exact hb')
        rw [HT.out] at ha hb'
        rw [← h1, ← h2, hok.out a b (by omega) (by omega)]⟩
      go_wp2
      go_ret
      exact ⟨ret_bool H.out.symm, hb⟩
end Go.Proofs.Ytoccmpijfggmkaa
