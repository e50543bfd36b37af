/-
  Reduced of the reference.
-/
import Derived.Test.YtoccmpijfggmkaaRx
namespace Go.Proofs.Ytoccmpijfggmkaa
open Go.RowKit
set_option maxRecDepth 100000
set_option maxHeartbeats 2000000

theorem specReduced_any (p : Plan) (ve : Value) (w : World) (hl : p.edges.length ≤ 2000000) (h : Rd edgeE w w.heap.size ve p.edges) :
    Calls Try.prog 68 #[planV p ve] w (ToPlanPost (reduced p) w) := by
  obtain ⟨B0, e0, rfl, -⟩ := id h
  have D0 := BoxAt.new 47 p (.slice B0 p.edges.length e0) w
  have Z0 := BoxAt.new' 47 zeroPlan (.slice none 0 0) (planBox 47 p (.slice B0 p.edges.length e0) w) (b := w.heap.size + 1) (by simp [planBox])
  have hW0 := planBox_below 47 p (.slice B0 p.edges.length e0) w
  have hW1 : Below w.heap.size w ((planBox 47 p (.slice B0 p.edges.length e0) w).alloc (.cells #[.int .i64 0, .int .i64 0, .int .i64 0, .int .i64 0, .slice none 0 0] 47)) := hW0.alloc (by simp [planBox]) _
  have D1 := D0.below ((Below.refl _ _).alloc (Nat.le_refl _) (.cells #[.int .i64 0, .int .i64 0, .int .i64 0, .int .i64 0, .slice none 0 0] 47))
  have hS1 : ((planBox 47 p (.slice B0 p.edges.length e0) w).alloc (.cells #[.int .i64 0, .int .i64 0, .int .i64 0, .int .i64 0, .slice none 0 0] 47)).heap.size = w.heap.size + 2 := by simp [planBox]
  have HS1 := Lib.hid hS1
  clear hS1
  unfold planV
  go_enter Try.func68, Try.ntmps68
  go_wp2_with fail
  refine (specCopy_any p (.slice B0 p.edges.length e0) _ hl ((h.below hW1).more hW1.size)).mono ?_
  rintro e w1 ⟨v1, rfl, o1, b1⟩
  have D := D1.below b1
  have Z := Z0.below b1
  have hW := bnext hW1 b1
  have hsz := b1.size
  have o1 : Ow edgeE 91 w1 (w.heap.size + 2) v1 p.edges := by rw [← HS1.out]; exact o1
  clear D0 Z0 hW0 hW1 D1 b1
  obtain ⟨A1, c1, rfl, -⟩ := id (Rd.of_own o1)
  obtain ⟨x0, x1, x2, x3, x4, xs⟩ := D.cells
  go_wp2_with fail
  clear x0 x1 x2 x3 x4 xs
  generalize hw2 : w1.alloc (.cells #[.int .i64 p.prio, .int .i64 p.most, .int .i64 p.wait, .int .i64 p.tasks, .slice A1 p.edges.length c1] 47) = w2
  have b2 : Below w1.heap.size w1 w2 := by rw [← hw2]; exact (Below.refl _ _).alloc (Nat.le_refl _) _
  have X : BoxAt w1.heap.size p (.slice A1 p.edges.length c1) w2 := by rw [← hw2]; exact BoxAt.new 47 p _ w1
  clear hw2
  have o2 := o1.below b2
  have D := D.below b2
  have Z := Z.below b2
  have hW := bnext hW b2
  refine (specPlanFault_any p (.slice B0 p.edges.length e0) _ hl ((h.below hW).more hW.size)).mono ?_
  rintro e w3 ⟨rfl, b3⟩
  have o3 := o2.below b3
  have D := D.below b3
  have Z := Z.below b3
  have X := X.below b3
  have hW := bnext hW b3
  have hg1 := o1.within
  have hs12 : w.heap.size + 2 ≤ w1.heap.size := by rw [← HS1.out]; exact hsz
  have hs13 : w1.heap.size < w3.heap.size := X.lt
  clear o1 o2 b2 b3
  by_cases hf : planFault p = 0
  case neg =>
    have hfb : (planFault p != 0) = true := by simp [hf]
    have H := Lib.hid (show reduced p = p by unfold reduced; rw [if_neg hf])
    clear hf
    obtain ⟨x0, x1, x2, x3, x4, xs⟩ := X.cells
    obtain ⟨z0, z1, z2, z3, z4, zs⟩ := Z.cells
    have zf := Z.free
    go_wp2
    have oq := o3.more (base' := w.heap.size + 2) (Nat.le_refl _)
    refine bodyPost_ret (v := planV p (.slice A1 p.edges.length c1)) ?_ rfl ⟨.slice A1 p.edges.length c1, by rw [H.out], ?_, ?_⟩
    · simp [planV, results, Try.results68, go_sem, *]
    · rw [H.out]
      refine Ow.more (base := w.heap.size + 2) ?_ (by omega)
      unfold Ow at oq ⊢
      repeat (first | (with_reducible exact oq) | refine ownsRow_setCell_below ?_ (by simp <;> omega) _)
    · repeat (first | (with_reducible exact hW) | refine Below.setCell ?_ (by simp <;> omega) _)
  have hfb : (planFault p != 0) = false := by simp [hf]
  have H := Lib.hid (show reduced p = { p with edges := redL p p.edges.length } by unfold reduced redL; rw [if_pos hf, List.take_length])
  have G0 := Lib.hid (planFault_zero.1 hf)
  obtain ⟨t1, t2⟩ := manyOk_tasks G0.out.1
  have hlen := manyOk_edges G0.out.1
  obtain ⟨T, hT⟩ := Int.eq_ofNat_of_zero_le (show 0 ≤ p.tasks by omega)
  have HT := Lib.hid hT
  have HTn := Lib.hid (show p.tasks.toNat = T by omega)
  have hT2 : T ≤ 12 := by omega
  clear hf hT
  obtain ⟨i0, hi0, hz0, hz1, hz2⟩ := info_parts edge_info
  obtain ⟨x0, x1, x2, x3, x4, xs⟩ := X.cells
  obtain ⟨y0, y1, y2, y3, y4, ys⟩ := D.cells
  have xf := X.free
  go_wp2
  clear x0 x1 x2 x3 x4 xs xf y0 y1 y2 y3 y4 ys
  go_loopw [4] (fun i wr => ∃ (k : Nat) (v : Value), k ≤ p.edges.length ∧ i = .int .i64 k ∧ BoxAt w.heap.size p (.slice B0 p.edges.length e0) wr ∧ BoxAt (w.heap.size + 1) zeroPlan (.slice none 0 0) wr ∧ BoxAt w1.heap.size { p with edges := redL p k } v wr ∧ Ow edgeE 91 wr (w1.heap.size + 1) v (redL p k) ∧ Below w.heap.size w wr) (fun i _ => p.edges.length - (intOf i).toNat)
  case atStart =>
    have ha : ∀ w : World, Below w.heap.size w (w.alloc (.cells #[] 91)) := fun w => (Below.refl _ _).alloc (Nat.le_refl _) _
    refine ⟨0, .slice (some ⟨w3.heap.size, 0, none⟩) 0 0, Nat.zero_le _, rfl, (D.other (by simp; omega) _).below (ha _), (Z.other (by simp; omega) _).below (ha _), (X.setEdges _ _).below (ha _), ?_, bnext (hW.setCell (by simp; omega) _) (ha _)⟩
    have := Ow.empty edgeE 91 (w3.setCell ⟨w1.heap.size, 4, none⟩ (.slice (some ⟨w3.heap.size, 0, none⟩) 0 0)) (g := w3.heap.size) (by simp [World.setCell])
    exact this.more (by omega)
  case round =>
    clear o3 Z X hW D hs13
    obtain ⟨k, v, hk, rfl, D, Z, X, ho, hW⟩ := hrel
    obtain ⟨y0, y1, y2, y3, y4, ys⟩ := D.cells
    by_cases hlt : k < p.edges.length
    · have hltI : (k : Int) < (p.edges.length : Int) := by omega
      obtain ⟨b, o, rfl, hbb, c0, c1'⟩ := (h.below hW).edge hlt
      obtain ⟨f1, f2, f3, f4⟩ := edgesIn_get G0.out.2.1 hlt
      obtain ⟨wo, rfl⟩ : ∃ wo : World, wo = wr := ⟨_, rfl⟩
      have hbb2 : b < wo.heap.size := Nat.lt_of_lt_of_le hbb hW.size
      go_wp2
      clear y0 y1 y2 y3 y4 ys c0 c1'
      generalize hwi : wo.alloc (.cells #[.int .i64 p.edges[k].fr, .int .i64 p.edges[k].to] 91) = wi
      have bi : Below wo.heap.size wo wi := by rw [← hwi]; exact (Below.refl _ _).alloc (Nat.le_refl _) _
      have E := show EdgeAt wo.heap.size p.edges[k] wi by rw [← hwi]; exact EdgeAt.new 91 _ wo
      clear hwi
      have D := D.below bi
      have Z := Z.below bi
      have X := X.below bi
      have ho := ho.below bi
      have hW := bnext hW bi
      generalize hpe : p.edges[k] = e at *
      have HPE := Lib.hid hpe
      clear hpe
      go_loopw [6, 7] (fun y i wr => ∃ j : Nat, j ≤ T ∧ i = .int .i64 j ∧ y = .bool (redUpto p e j) ∧ Below wi.heap.size wi wr) (fun _ i _ => T - (intOf i).toNat)
      case atStart => exact ⟨0, Nat.zero_le _, rfl, rfl, Below.refl _ _⟩
      case round =>
        obtain ⟨j, hj, rfl, rfl, hb⟩ := hrel
        have D := D.below hb
        have Z := Z.below hb
        have X := X.below hb
        have E := E.below hb
        have ho := ho.below hb
        have hW := bnext hW hb
        obtain ⟨y0, y1, y2, y3, y4, ys⟩ := D.cells
        obtain ⟨e1, e2, es⟩ := E.cells
        by_cases hjt : j < T
        · have hjI : (j : Int) < p.tasks := by rw [HT.out]; omega
          have hun := Lib.hid (redUpto_succ p e j)
          cases hu : redUpto p e j
          · cases h1 : reachB p e.fr j
            · have S := Lib.hid (show redUpto p e (j + 1) = false by rw [hun.out, hu, h1]; rfl)
              have H1 := Lib.hid h1
              clear h1
              go_wp2_with fail
              refine (specReaches_any p (.slice (some ⟨b, o, none⟩) p.edges.length e0) e.fr j _ hl ((h.below hW).more hW.size)).mono ?_
              rintro en w4 ⟨rfl, b4⟩
              rw [H1.out]
              go_wp2
              exact ⟨⟨j + 1, by omega, by go_num, by rw [S.out], bnext hb b4⟩, by simp [intOf]; omega⟩
            · cases h2 : reachB p j e.to
              all_goals
                have S := Lib.hid (hun.out)
                rw [hu, h1, h2] at S
                have H1 := Lib.hid h1
                have H2 := Lib.hid h2
                clear h1 h2
                go_wp2_with fail
                refine (specReaches_any p (.slice (some ⟨b, o, none⟩) p.edges.length e0) e.fr j _ hl ((h.below hW).more hW.size)).mono ?_
                rintro en w4 ⟨rfl, b4⟩
                rw [H1.out]
                clear y0 y1 y2 y3 y4 ys e1 e2 es
                have D := D.below b4
                have E := E.below b4
                have hW := bnext hW b4
                obtain ⟨y0, y1, y2, y3, y4, ys⟩ := D.cells
                obtain ⟨e1, e2, es⟩ := E.cells
                go_wp2_with fail
                refine (specReaches_any p (.slice (some ⟨b, o, none⟩) p.edges.length e0) j e.to _ hl ((h.below hW).more hW.size)).mono ?_
                rintro en w5 ⟨rfl, b5⟩
                rw [H2.out]
                go_wp2
                exact ⟨⟨j + 1, by omega, by go_num, by rw [S.out]; rfl, bnext (bnext hb b4) b5⟩, by simp [intOf]; omega⟩
          · have S := Lib.hid (show redUpto p e (j + 1) = true by rw [hun.out, hu]; rfl)
            go_wp2
            exact ⟨⟨j + 1, by omega, by go_num, by rw [S.out], hb⟩, by simp [intOf]; omega⟩
        · have hjI : ¬ (j : Int) < p.tasks := by rw [HT.out]; omega
          have hj' : j = T := by omega
          subst hj'
          obtain ⟨x0, x1, x2, x3, x4, xs⟩ := X.cells
          have xf := X.free
          cases hu : redUpto p e j
          · have S := Lib.hid (redL_add (p := p) hlt (by rw [HPE.out, HTn.out]; exact hu))
            rw [HPE.out] at S
            have hll : (redL p k).length ≤ 3000000 := by have := redL_len p k; omega
            have hoi := ho.within
            have ho2 := ho.below ((Below.refl _ _).alloc (Nat.le_refl _) (.cells #[.int .i64 e.fr, .int .i64 e.to] 91))
            have hX2 := X.below ((Below.refl _ _).alloc (Nat.le_refl _) (.cells #[.int .i64 e.fr, .int .i64 e.to] 91))
            have hD2 := D.below ((Below.refl _ _).alloc (Nat.le_refl _) (.cells #[.int .i64 e.fr, .int .i64 e.to] 91))
            have hZ2 := Z.below ((Below.refl _ _).alloc (Nat.le_refl _) (.cells #[.int .i64 e.fr, .int .i64 e.to] 91))
            have hW2 := hW.alloc hW.size (.cells #[.int .i64 e.fr, .int .i64 e.to] 91)
            have hXl := X.lt
            go_wp2_with (at_builtin; refine wpList_push (v := v) edgeE (by decide) rfl (.tmp 52) (.tmp 54) rfl Try.underlying45 hi0 hz0 hz1 hz2 rfl e rfl ho2 ⟨wr.heap.size, 0, none⟩ 1 rfl (news_new _ #[.int .i64 e.fr, .int .i64 e.to] _ (by simp)) hll (by decide) (by simp; omega) ?_; intro v' w5 o5 g5; clear x0 x1 x2 x3 x4 xs xf y0 y1 y2 y3 y4 ys; obtain ⟨A5, c5, rfl, -⟩ := id (Rd.of_own o5); have X5 := hX2.far g5 (fun e => by have := hoi _ e.symm; omega); obtain ⟨x0, x1, x2, x3, x4, xs⟩ := X5.cells; have xf := X5.free)
            have D5 := hD2.far g5 (fun e => by have := hoi _ e.symm; omega)
            have Z5 := hZ2.far g5 (fun e => by have := hoi _ e.symm; omega)
            have W5 := hW2.grown g5 hW2.size (fun g hg => by have := hoi _ hg; omega)
            rw [List.length_append, List.length_singleton] at o5
            refine ⟨⟨k + 1, .slice A5 ((redL p k).length + 1) c5, by omega, by go_num, D5.other (by simp; omega) _, Z5.other (by simp; omega) _, ?_, ?_, W5.setCell (by simp; omega) _⟩, by simp [intOf]; omega⟩
            · exact X5.setEdges _ _
            · rw [S.out]
              exact ownsRow_setCell_below o5 (by simp) _
          · have S := Lib.hid (redL_skip (p := p) hlt (by rw [HPE.out, HTn.out]; exact hu))
            go_wp2
            exact ⟨⟨k + 1, v, by omega, by go_num, D, Z, by rw [S.out]; exact X, by rw [S.out]; exact ho, hW⟩, by simp [intOf]; omega⟩
    · have hltI : ¬ (k : Int) < (p.edges.length : Int) := by omega
      obtain ⟨x0, x1, x2, x3, x4, xs⟩ := X.cells
      obtain ⟨z0, z1, z2, z3, z4, zs⟩ := Z.cells
      have zf := Z.free
      have hk' : k = p.edges.length := by omega
      subst hk'
      obtain ⟨A6, c6, rfl, -⟩ := id (Rd.of_own ho)
      go_wp2
      refine bodyPost_ret (v := planV { p with edges := redL p p.edges.length } (.slice A6 (redL p p.edges.length).length c6)) ?_ rfl ⟨.slice A6 (redL p p.edges.length).length c6, by rw [H.out], ?_, ?_⟩
      · simp [planV, results, Try.results68, go_sem, *]
      · rw [H.out]
        refine Ow.more (base := w1.heap.size + 1) ?_ (by omega)
        unfold Ow at ho ⊢
        repeat (first | (with_reducible exact ho) | refine ownsRow_setCell_below ?_ (by simp <;> omega) _)
      · repeat (first | (with_reducible exact hW) | refine Below.setCell ?_ (by simp <;> omega) _)
end Go.Proofs.Ytoccmpijfggmkaa
