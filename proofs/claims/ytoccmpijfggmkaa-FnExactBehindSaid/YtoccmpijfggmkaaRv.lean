/-
  Reversed of the program and of the reference.
-/
import Derived.Test.YtoccmpijfggmkaaCp
import Derived.Test.YtoccmpijfggmkaaPj
import Derived.Test.YtoccmpijfggmkaaPs
namespace Go.Proofs.Ytoccmpijfggmkaa
open Go.RowKit
set_option maxRecDepth 100000
set_option maxHeartbeats 1000000

def flipE (e : Edge) : Edge := ⟨e.to, e.fr⟩
open Classical in
noncomputable def reversed (p : Plan) : Plan := if planFault p = 0 then { p with edges := p.edges.map flipE } else p
theorem flip_get (l : List Edge) (k : Nat) (h : k < l.length) (h' : k < ((l.take k).map flipE ++ l.drop k).length) : ((l.take k).map flipE ++ l.drop k)[k] = l[k] := by
  rw [List.getElem_append_right (by simp; omega)]
  simp [Nat.min_eq_left (Nat.le_of_lt h)]
theorem flip_set (l : List Edge) (k : Nat) (h : k < l.length) : ((l.take k).map flipE ++ l.drop k).set k (flipE l[k]) = (l.take (k + 1)).map flipE ++ l.drop (k + 1) := by
  rw [List.set_append_right _ _ (by simp; omega), List.length_map, List.length_take, Nat.min_eq_left (Nat.le_of_lt h), Nat.sub_self, take_snoc l k h, List.map_append, ← List.getElem_cons_drop h, List.set_cons_zero, List.append_assoc]
  rfl
theorem reversed_len (p : Plan) : (reversed p).edges.length = p.edges.length := by
  unfold reversed
  split <;> simp
def zeroPlan : Plan := ⟨0, 0, 0, 0, []⟩

theorem implReversed_any (p : Plan) (ve : Value) (w : World) (hl : p.edges.length ≤ 2000000) (h : Rd edgeE w w.heap.size ve p.edges) :
    Calls Try.prog 63 #[planV p ve] w (ToPlanPost (reversed p) w) := by
  have D0 := BoxAt.new 47 p ve w
  have Z0 := BoxAt.new' 47 zeroPlan (.slice none 0 0) (planBox 47 p ve w) (b := w.heap.size + 1) (by simp [planBox])
  have hW0 := planBox_below 47 p ve w
  have hW1 : Below w.heap.size w ((planBox 47 p ve w).alloc (.cells #[.int .i64 0, .int .i64 0, .int .i64 0, .int .i64 0, .slice none 0 0] 47)) := hW0.alloc (by simp [planBox]) _
  have D1 := D0.below ((Below.refl _ _).alloc (Nat.le_refl _) (.cells #[.int .i64 0, .int .i64 0, .int .i64 0, .int .i64 0, .slice none 0 0] 47))
  have hS1 : ((planBox 47 p ve w).alloc (.cells #[.int .i64 0, .int .i64 0, .int .i64 0, .int .i64 0, .slice none 0 0] 47)).heap.size = w.heap.size + 2 := by simp [planBox]
  have HS1 := Lib.hid hS1
  clear hS1
  unfold planV
  go_enter Try.func63, Try.ntmps63
  go_wp2_with fail
  refine (implCopy_any p ve _ hl ((h.below hW1).more hW1.size)).mono ?_
  rintro e w1 ⟨v1, rfl, o1, b1⟩
  have D := D1.below b1
  have Z := Z0.below b1
  have hW := bnext hW1 b1
  have hsz := b1.size
  have o1 : Ow edgeE 91 w1 (w.heap.size + 2) v1 p.edges := by rw [← HS1.out]; exact o1
  clear D0 Z0 hW0 hW1 D1 b1 hsz
  obtain ⟨A1, c1, rfl, -⟩ := id (Rd.of_own o1)
  obtain ⟨x0, x1, x2, x3, x4, xs⟩ := D.cells
  go_wp2_with fail
  clear x0 x1 x2 x3 x4 xs
  generalize hw2 : w1.alloc (.cells #[.int .i64 p.prio, .int .i64 p.most, .int .i64 p.wait, .int .i64 p.tasks, .slice A1 p.edges.length c1] 47) = w2
  have b2 : Below w1.heap.size w1 w2 := by rw [← hw2]; exact (Below.refl _ _).alloc (Nat.le_refl _) _
  have X : BoxAt w1.heap.size p (.slice A1 p.edges.length c1) w2 := by rw [← hw2]; exact BoxAt.new 47 p _ w1
  clear hw2
  have o2 := o1.below b2
  have D := D.below b2
  have Z := Z.below b2
  have hW := bnext hW b2
  refine (implPlanFault_any p ve _ hl ((h.below hW).more hW.size)).mono ?_
  rintro e w3 ⟨rfl, b3⟩
  have o3 := o2.below b3
  have D := D.below b3
  have Z := Z.below b3
  have X := X.below b3
  have hW := bnext hW b3
  have hg1 := o1.within
  clear o1 o2 b2 b3
  by_cases hf : planFault p = 0
  case neg =>
    have hfb : (planFault p == 0) = false := by simp [hf]
    have H := Lib.hid (show reversed p = p by unfold reversed; rw [if_neg hf])
    clear hf
    obtain ⟨x0, x1, x2, x3, x4, xs⟩ := X.cells
    obtain ⟨z0, z1, z2, z3, z4, zs⟩ := Z.cells
    have zf := Z.free
    go_wp2
    have oq := o3.more (base' := w.heap.size + 2) (Nat.le_refl _)
    refine bodyPost_ret (v := planV p (.slice A1 p.edges.length c1)) ?_ rfl ⟨.slice A1 p.edges.length c1, by rw [H.out], ?_, ?_⟩
    · simp [planV, results, Try.results63, go_sem, *]
    · rw [H.out]
      refine Ow.more (base := w.heap.size + 2) ?_ (by omega)
      unfold Ow at oq ⊢
      repeat (first | (with_reducible exact oq) | refine ownsRow_setCell_below ?_ (by simp <;> omega) _)
    · repeat (first | (with_reducible exact hW) | refine Below.setCell ?_ (by simp <;> omega) _)
  have hfb : (planFault p == 0) = true := by simp [hf]
  have H := Lib.hid (show reversed p = { p with edges := p.edges.map flipE } by unfold reversed; rw [if_pos hf])
  clear hf
  obtain ⟨x0, x1, x2, x3, x4, xs⟩ := X.cells
  go_wp2
  clear x0 x1 x2 x3 x4 xs
  go_loopw [14] (fun i wr => ∃ k : Nat, k ≤ p.edges.length ∧ i = .int .i64 k ∧ Ow edgeE 91 wr (w.heap.size + 2) (.slice A1 p.edges.length c1) ((p.edges.take k).map flipE ++ p.edges.drop k) ∧ BoxAt (w.heap.size + 1) zeroPlan (.slice none 0 0) wr ∧ BoxAt w1.heap.size p (.slice A1 p.edges.length c1) wr ∧ Below w.heap.size w wr) (fun i _ => p.edges.length - (intOf i).toNat)
  case atStart => exact ⟨0, Nat.zero_le _, rfl, o3, Z, X, hW⟩
  case round =>
    clear o3 Z X hW D
    obtain ⟨k, hk, rfl, ho, Z, X, hW⟩ := hrel
    obtain ⟨x0, x1, x2, x3, x4, xs⟩ := X.cells
    by_cases hlt : k < p.edges.length
    · have hltI : (k : Int) < (p.edges.length : Int) := by omega
      have hll : ((p.edges.take k).map flipE ++ p.edges.drop k).length = p.edges.length := by simp; omega
      obtain ⟨g, rfl, hg2, hg3⟩ := ho.some_ (by rw [hll]; omega)
      have hg4 := (hg1 g rfl).2
      have hf := ho.free
      obtain ⟨c0, c1'⟩ := ho.edge (k := k) (by rw [hll]; exact hlt)
      rw [flip_get p.edges k hlt] at c0 c1'
      have hp := Ow.put ho hll k hlt (flipE p.edges[k])
      rw [flip_set p.edges k hlt] at hp
      have Hp := Lib.hid hp
      have HX := X.far hp.2 (by simp; omega)
      have HZ := Z.far hp.2 (by simp; omega)
      have HW := hW.grown hp.2 hW.size (fun g' hg' => by simp at hg'; omega)
      clear hp
      go_wp2
      have ha : ∀ w : World, Below w.heap.size w (w.alloc (.cells #[.int .i64 p.edges[k].fr, .int .i64 p.edges[k].to] 91)) := fun w => (Below.refl _ _).alloc (Nat.le_refl _) _
      exact ⟨⟨k + 1, by omega, by go_num, Hp.out.1.below (ha _), HZ.below (ha _), HX.below (ha _), bnext HW (ha _)⟩, by simp [intOf]; omega⟩
    · have hltI : ¬ (k : Int) < (p.edges.length : Int) := by omega
      obtain ⟨z0, z1, z2, z3, z4, zs⟩ := Z.cells
      have zf := Z.free
      have hk' : k = p.edges.length := by omega
      subst hk'
      rw [List.take_length, List.drop_length, List.append_nil] at ho
      go_wp2
      refine bodyPost_ret (v := planV { p with edges := p.edges.map flipE } (.slice A1 p.edges.length c1)) ?_ rfl ⟨.slice A1 p.edges.length c1, by rw [H.out], ?_, ?_⟩
      · simp [planV, results, Try.results63, go_sem, *]
      · rw [H.out]
        refine Ow.more (base := w.heap.size + 2) ?_ (by omega)
        unfold Ow at ho ⊢
        repeat (first | (with_reducible exact ho) | refine ownsRow_setCell_below ?_ (by simp <;> omega) _)
      · repeat (first | (with_reducible exact hW) | refine Below.setCell ?_ (by simp <;> omega) _)
theorem specReversed_any (p : Plan) (ve : Value) (w : World) (hl : p.edges.length ≤ 2000000) (h : Rd edgeE w w.heap.size ve p.edges) :
    Calls Try.prog 62 #[planV p ve] w (ToPlanPost (reversed p) w) := by
  obtain ⟨B0, e0, rfl, -⟩ := id h
  have D0 := BoxAt.new 47 p (.slice B0 p.edges.length e0) w
  have Z0 := BoxAt.new' 47 zeroPlan (.slice none 0 0) (planBox 47 p (.slice B0 p.edges.length e0) w) (b := w.heap.size + 1) (by simp [planBox])
  have hW0 := planBox_below 47 p (.slice B0 p.edges.length e0) w
  have hW1 : Below w.heap.size w ((planBox 47 p (.slice B0 p.edges.length e0) w).alloc (.cells #[.int .i64 0, .int .i64 0, .int .i64 0, .int .i64 0, .slice none 0 0] 47)) := hW0.alloc (by simp [planBox]) _
  have D1 := D0.below ((Below.refl _ _).alloc (Nat.le_refl _) (.cells #[.int .i64 0, .int .i64 0, .int .i64 0, .int .i64 0, .slice none 0 0] 47))
  have hS1 : ((planBox 47 p (.slice B0 p.edges.length e0) w).alloc (.cells #[.int .i64 0, .int .i64 0, .int .i64 0, .int .i64 0, .slice none 0 0] 47)).heap.size = w.heap.size + 2 := by simp [planBox]
  have HS1 := Lib.hid hS1
  clear hS1
  unfold planV
  go_enter Try.func62, Try.ntmps62
  go_wp2_with fail
  refine (specCopy_any p (.slice B0 p.edges.length e0) _ hl ((h.below hW1).more hW1.size)).mono ?_
  rintro e w1 ⟨v1, rfl, o1, b1⟩
  have D := D1.below b1
  have Z := Z0.below b1
  have hW := bnext hW1 b1
  have hsz := b1.size
  have o1 : Ow edgeE 91 w1 (w.heap.size + 2) v1 p.edges := by rw [← HS1.out]; exact o1
  clear D0 Z0 hW0 hW1 D1 b1 hsz
  obtain ⟨A1, c1, rfl, -⟩ := id (Rd.of_own o1)
  obtain ⟨x0, x1, x2, x3, x4, xs⟩ := D.cells
  go_wp2_with fail
  clear x0 x1 x2 x3 x4 xs
  generalize hw2 : w1.alloc (.cells #[.int .i64 p.prio, .int .i64 p.most, .int .i64 p.wait, .int .i64 p.tasks, .slice A1 p.edges.length c1] 47) = w2
  have b2 : Below w1.heap.size w1 w2 := by rw [← hw2]; exact (Below.refl _ _).alloc (Nat.le_refl _) _
  have X : BoxAt w1.heap.size p (.slice A1 p.edges.length c1) w2 := by rw [← hw2]; exact BoxAt.new 47 p _ w1
  clear hw2
  have o2 := o1.below b2
  have D := D.below b2
  have Z := Z.below b2
  have hW := bnext hW b2
  refine (specPlanFault_any p (.slice B0 p.edges.length e0) _ hl ((h.below hW).more hW.size)).mono ?_
  rintro e w3 ⟨rfl, b3⟩
  have o3 := o2.below b3
  have D := D.below b3
  have Z := Z.below b3
  have X := X.below b3
  have hW := bnext hW b3
  have hg1 := o1.within
  clear o1 o2 b2 b3
  by_cases hf : planFault p = 0
  case neg =>
    have hfb : (planFault p != 0) = true := by simp [hf]
    have H := Lib.hid (show reversed p = p by unfold reversed; rw [if_neg hf])
    clear hf
    obtain ⟨x0, x1, x2, x3, x4, xs⟩ := X.cells
    obtain ⟨z0, z1, z2, z3, z4, zs⟩ := Z.cells
    have zf := Z.free
    go_wp2
    have oq := o3.more (base' := w.heap.size + 2) (Nat.le_refl _)
    refine bodyPost_ret (v := planV p (.slice A1 p.edges.length c1)) ?_ rfl ⟨.slice A1 p.edges.length c1, by rw [H.out], ?_, ?_⟩
    · simp [planV, results, Try.results62, go_sem, *]
    · rw [H.out]
      refine Ow.more (base := w.heap.size + 2) ?_ (by omega)
      unfold Ow at oq ⊢
      repeat (first | (with_reducible exact oq) | refine ownsRow_setCell_below ?_ (by simp <;> omega) _)
    · repeat (first | (with_reducible exact hW) | refine Below.setCell ?_ (by simp <;> omega) _)
  have hfb : (planFault p != 0) = false := by simp [hf]
  have H := Lib.hid (show reversed p = { p with edges := p.edges.map flipE } by unfold reversed; rw [if_pos hf])
  clear hf
  obtain ⟨x0, x1, x2, x3, x4, xs⟩ := X.cells
  go_wp2
  clear x0 x1 x2 x3 x4 xs
  go_loopw [4] (fun i wr => ∃ k : Nat, k ≤ p.edges.length ∧ BoxAt w.heap.size p (.slice B0 p.edges.length e0) wr ∧ i = .int .i64 k ∧ Ow edgeE 91 wr (w.heap.size + 2) (.slice A1 p.edges.length c1) ((p.edges.take k).map flipE ++ p.edges.drop k) ∧ BoxAt (w.heap.size + 1) zeroPlan (.slice none 0 0) wr ∧ BoxAt w1.heap.size p (.slice A1 p.edges.length c1) wr ∧ Below w.heap.size w wr) (fun i _ => p.edges.length - (intOf i).toNat)
  case atStart => exact ⟨0, Nat.zero_le _, D, rfl, o3, Z, X, hW⟩
  case round =>
    clear o3 Z X hW D
    obtain ⟨k, hk, D, rfl, ho, Z, X, hW⟩ := hrel
    obtain ⟨y0, y1, y2, y3, y4, ys⟩ := D.cells
    obtain ⟨x0, x1, x2, x3, x4, xs⟩ := X.cells
    by_cases hlt : k < p.edges.length
    · have hltI : (k : Int) < (p.edges.length : Int) := by omega
      have hll : ((p.edges.take k).map flipE ++ p.edges.drop k).length = p.edges.length := by simp; omega
      obtain ⟨g, rfl, hg2, hg3⟩ := ho.some_ (by rw [hll]; omega)
      have hg4 := (hg1 g rfl).2
      have hf := ho.free
      obtain ⟨d0, d1⟩ := ho.edge (k := k) (by rw [hll]; exact hlt)
      obtain ⟨b, o, rfl, hbb, c0, c1'⟩ := (h.below hW).edge hlt
      have hp := Ow.put ho hll k hlt (flipE p.edges[k])
      rw [flip_set p.edges k hlt] at hp
      have Hp := Lib.hid hp
      have HX := X.far hp.2 (by simp; omega)
      have HZ := Z.far hp.2 (by simp; omega)
      have HW := hW.grown hp.2 hW.size (fun g' hg' => by simp at hg'; omega)
      have HD := D.far hp.2 (by simp; omega)
      clear hp
      go_wp2
      go_still_tail 17, (by kernel_rfl)
      go_wp2
      exact ⟨⟨k + 1, by omega, HD.below ((Below.refl _ _).drew), by go_num, Hp.out.1.below ((Below.refl _ _).drew), HZ.below ((Below.refl _ _).drew), HX.below ((Below.refl _ _).drew), HW.drew⟩, by simp [intOf]; omega⟩
    · have hltI : ¬ (k : Int) < (p.edges.length : Int) := by omega
      obtain ⟨z0, z1, z2, z3, z4, zs⟩ := Z.cells
      have zf := Z.free
      have hk' : k = p.edges.length := by omega
      subst hk'
      rw [List.take_length, List.drop_length, List.append_nil] at ho
      go_wp2
      refine bodyPost_ret (v := planV { p with edges := p.edges.map flipE } (.slice A1 p.edges.length c1)) ?_ rfl ⟨.slice A1 p.edges.length c1, by rw [H.out], ?_, ?_⟩
      · simp [planV, results, Try.results62, go_sem, *]
      · rw [H.out]
        refine Ow.more (base := w.heap.size + 2) ?_ (by omega)
        unfold Ow at ho ⊢
        repeat (first | (with_reducible exact ho) | refine ownsRow_setCell_below ?_ (by simp <;> omega) _)
      · repeat (first | (with_reducible exact hW) | refine Below.setCell ?_ (by simp <;> omega) _)
end Go.Proofs.Ytoccmpijfggmkaa
