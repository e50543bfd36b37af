/-
  Reversed of the program and of the reference. isTask and Reaches of the program. More on a variable that lies as a row of cells: one cell is written. The order in which tasks come: plain facts. WeightsOk of the reference. joined and Beside of the program. Reaches of the reference. SameOrder of the program. Draws: the cursor over the bytes of a draw, and what is drawn with it. slices.Index, slices.Contains at ints; allIn of the program. WorkOf of both. A plan's variable that is written over by a whole plan (a law's 'w0, w1 := F(..)' whose variable was made first). Beside of the program. Reduced
-/
import Derived.Test.YtnaicippgocdfaaZJ1
import Derived.IntWalk
section
namespace Go.Proofs.Ytnaicippgocdfaa
open Go.RowKit
set_option maxRecDepth 100000
set_option maxHeartbeats 1000000

def flipE (e : Edge) : Edge := ⟨e.to, e.fr⟩
open Classical in
noncomputable def reversed (p : Plan) : Plan := if planFault p = 0 then { p with edges := p.edges.map flipE } else p
theorem flip_get (l : List Edge) (k : Nat) (h : k < l.length) (h' : k < ((l.take k).map flipE ++ l.drop k).length) : ((l.take k).map flipE ++ l.drop k)[k] = l[k] := by
  rw [List.getElem_append_right (by simp; omega)]
  simp [Nat.min_eq_left (Nat.le_of_lt h)]
theorem flip_set (l : List Edge) (k : Nat) (h : k < l.length) : ((l.take k).map flipE ++ l.drop k).set k (flipE l[k]) = (l.take (k + 1)).map flipE ++ l.drop (k + 1) := by
  rw [List.set_append_right _ _ (by simp; omega), List.length_map, List.length_take, Nat.min_eq_left (Nat.le_of_lt h), Nat.sub_self, take_snoc l k h, List.map_append, ← List.getElem_cons_drop h, List.set_cons_zero, List.append_assoc]
  rfl
theorem reversed_len (p : Plan) : (reversed p).edges.length = p.edges.length := by
  unfold reversed
  split <;> simp
def zeroPlan : Plan := ⟨0, 0, 0, 0, []⟩

theorem implReversed_any (p : Plan) (ve : Value) (w : World) (hl : p.edges.length ≤ 2000000) (h : Rd edgeE w w.heap.size ve p.edges) :
    Calls Try.prog 18 #[planV p ve] w (ToPlanPost (reversed p) w) := by
  have D0 := BoxAt.new 26 p ve w
  have Z0 := BoxAt.new' 26 zeroPlan (.slice none 0 0) (planBox 26 p ve w) (b := w.heap.size + 1) (by simp [planBox])
  have hW0 := planBox_below 26 p ve w
  have hW1 : Below w.heap.size w ((planBox 26 p ve w).alloc (.cells #[.int .i64 0, .int .i64 0, .int .i64 0, .int .i64 0, .slice none 0 0] 26)) := hW0.alloc (by simp [planBox]) _
  have D1 := D0.below ((Below.refl _ _).alloc (Nat.le_refl _) (.cells #[.int .i64 0, .int .i64 0, .int .i64 0, .int .i64 0, .slice none 0 0] 26))
  have hS1 : ((planBox 26 p ve w).alloc (.cells #[.int .i64 0, .int .i64 0, .int .i64 0, .int .i64 0, .slice none 0 0] 26)).heap.size = w.heap.size + 2 := by simp [planBox]
  have HS1 := Lib.hid hS1
  clear hS1
  unfold planV
  go_enter Try.func18, Try.ntmps18
  go_wp2_with fail
  refine (implCopy_any p ve _ hl ((h.below hW1).more hW1.size)).mono ?_
  rintro e w1 ⟨v1, rfl, o1, b1⟩
  have D := D1.below b1
  have Z := Z0.below b1
  have hW := bnext hW1 b1
  have hsz := b1.size
  have o1 : Ow edgeE 52 w1 (w.heap.size + 2) v1 p.edges := by rw [← HS1.out]; exact o1
  clear D0 Z0 hW0 hW1 D1 b1 hsz
  obtain ⟨A1, c1, rfl, -⟩ := id (Rd.of_own o1)
  obtain ⟨x0, x1, x2, x3, x4, xs⟩ := D.cells
  go_wp2_with fail
  clear x0 x1 x2 x3 x4 xs
  generalize hw2 : w1.alloc (.cells #[.int .i64 p.prio, .int .i64 p.most, .int .i64 p.wait, .int .i64 p.tasks, .slice A1 p.edges.length c1] 26) = w2
  have b2 : Below w1.heap.size w1 w2 := by rw [← hw2]; exact (Below.refl _ _).alloc (Nat.le_refl _) _
  have X : BoxAt w1.heap.size p (.slice A1 p.edges.length c1) w2 := by rw [← hw2]; exact BoxAt.new 26 p _ w1
  clear hw2
  have o2 := o1.below b2
  have D := D.below b2
  have Z := Z.below b2
  have hW := bnext hW b2
  refine (implPlanFault_any p ve _ hl ((h.below hW).more hW.size)).mono ?_
  rintro e w3 ⟨rfl, b3⟩
  have o3 := o2.below b3
  have D := D.below b3
  have Z := Z.below b3
  have X := X.below b3
  have hW := bnext hW b3
  have hg1 := o1.within
  clear o1 o2 b2 b3
  by_cases hf : planFault p = 0
  case neg =>
    have hfb : (planFault p == 0) = false := by simp [hf]
    have H := Lib.hid (show reversed p = p by unfold reversed; rw [if_neg hf])
    clear hf
    obtain ⟨x0, x1, x2, x3, x4, xs⟩ := X.cells
    obtain ⟨z0, z1, z2, z3, z4, zs⟩ := Z.cells
    have zf := Z.free
    go_wp2
    have oq := o3.more (base' := w.heap.size + 2) (Nat.le_refl _)
    refine bodyPost_ret (v := planV p (.slice A1 p.edges.length c1)) ?_ rfl ⟨.slice A1 p.edges.length c1, by rw [H.out], ?_, ?_⟩
    · simp [planV, results, Try.results18, go_sem, *]
    · rw [H.out]
      refine Ow.more (base := w.heap.size + 2) ?_ (by omega)
      unfold Ow at oq ⊢
      repeat (first | (with_reducible exact oq) | refine ownsRow_setCell_below ?_ (by simp <;> omega) _)
    · repeat (first | (with_reducible exact hW) | refine Below.setCell ?_ (by simp <;> omega) _)
  have hfb : (planFault p == 0) = true := by simp [hf]
  have H := Lib.hid (show reversed p = { p with edges := p.edges.map flipE } by unfold reversed; rw [if_pos hf])
  clear hf
  obtain ⟨x0, x1, x2, x3, x4, xs⟩ := X.cells
  go_wp2
  clear x0 x1 x2 x3 x4 xs
  go_loopw [14] (fun i wr => ∃ k : Nat, k ≤ p.edges.length ∧ i = .int .i64 k ∧ Ow edgeE 52 wr (w.heap.size + 2) (.slice A1 p.edges.length c1) ((p.edges.take k).map flipE ++ p.edges.drop k) ∧ BoxAt (w.heap.size + 1) zeroPlan (.slice none 0 0) wr ∧ BoxAt w1.heap.size p (.slice A1 p.edges.length c1) wr ∧ Below w.heap.size w wr) (fun i _ => p.edges.length - (intOf i).toNat)
  case atStart => exact ⟨0, Nat.zero_le _, rfl, o3, Z, X, hW⟩
  case round =>
    clear o3 Z X hW D
    obtain ⟨k, hk, rfl, ho, Z, X, hW⟩ := hrel
    obtain ⟨x0, x1, x2, x3, x4, xs⟩ := X.cells
    by_cases hlt : k < p.edges.length
    · have hltI : (k : Int) < (p.edges.length : Int) := by omega
      have hll : ((p.edges.take k).map flipE ++ p.edges.drop k).length = p.edges.length := by simp; omega
      obtain ⟨g, rfl, hg2, hg3⟩ := ho.some_ (by rw [hll]; omega)
      have hg4 := (hg1 g rfl).2
      have hf := ho.free
      obtain ⟨c0, c1'⟩ := ho.edge (k := k) (by rw [hll]; exact hlt)
      rw [flip_get p.edges k hlt] at c0 c1'
      have hp := Ow.put ho hll k hlt (flipE p.edges[k])
      rw [flip_set p.edges k hlt] at hp
      have Hp := Lib.hid hp
      have HX := X.far hp.2 (by simp; omega)
      have HZ := Z.far hp.2 (by simp; omega)
      have HW := hW.grown hp.2 hW.size (fun g' hg' => by simp at hg'; omega)
      clear hp
      go_wp2
      have ha : ∀ w : World, Below w.heap.size w (w.alloc (.cells #[.int .i64 p.edges[k].fr, .int .i64 p.edges[k].to] 52)) := fun w => (Below.refl _ _).alloc (Nat.le_refl _) _
      exact ⟨⟨k + 1, by omega, by go_num, Hp.out.1.below (ha _), HZ.below (ha _), HX.below (ha _), bnext HW (ha _)⟩, by simp [intOf]; omega⟩
    · have hltI : ¬ (k : Int) < (p.edges.length : Int) := by omega
      obtain ⟨z0, z1, z2, z3, z4, zs⟩ := Z.cells
      have zf := Z.free
      have hk' : k = p.edges.length := by omega
      subst hk'
      rw [List.take_length, List.drop_length, List.append_nil] at ho
      go_wp2
      refine bodyPost_ret (v := planV { p with edges := p.edges.map flipE } (.slice A1 p.edges.length c1)) ?_ rfl ⟨.slice A1 p.edges.length c1, by rw [H.out], ?_, ?_⟩
      · simp [planV, results, Try.results18, go_sem, *]
      · rw [H.out]
        refine Ow.more (base := w.heap.size + 2) ?_ (by omega)
        unfold Ow at ho ⊢
        repeat (first | (with_reducible exact ho) | refine ownsRow_setCell_below ?_ (by simp <;> omega) _)
      · repeat (first | (with_reducible exact hW) | refine Below.setCell ?_ (by simp <;> omega) _)
end Go.Proofs.Ytnaicippgocdfaa
end
section
namespace Go.Proofs.Ytnaicippgocdfaa
open Go.RowKit
set_option maxRecDepth 100000
set_option maxHeartbeats 1000000

noncomputable def isTaskB (p : Plan) (t : Int) : Bool := decide (planFault p = 0) && inB t 0 (p.tasks - 1)
open Classical in
noncomputable def reachB (p : Plan) (a b : Int) : Bool := isTaskB p a && (isTaskB p b && decide (Pg.Reach (esOf p) a.toNat b.toNat))

theorem isTask_any (p : Plan) (ve : Value) (t : Int) (w : World) (hl : p.edges.length ≤ 2000000) (h : Rd edgeE w w.heap.size ve p.edges) :
    Calls Try.prog 65 #[planV p ve, .int .i64 t] w fun e w' => e = .returned (.bool (isTaskB p t)) ∧ Below w.heap.size w w' := by
  have hb0 := planBox_below 26 p ve w
  by_cases hf : planFault p = 0
  · obtain ⟨t1, t2⟩ := manyOk_tasks (planFault_zero.1 hf).1
    have hfb : (planFault p == 0) = true := by simp [hf]
    have H := Lib.hid (show isTaskB p t = inB t 0 (p.tasks - 1) by simp [isTaskB, hf])
    clear hf
    unfold planV
    go_enter Try.func65, Try.ntmps65
    go_wp2_with fail
    refine (implPlanFault_any p ve _ hl ((h.below hb0).more hb0.size)).mono ?_
    rintro e w1 ⟨rfl, hb1⟩
    obtain ⟨x0, x1, x2, x3, x4, hs, hbw⟩ := planBox_cells (T := 26) (p := p) (ve := ve) (w := w) hb1
    go_wp2_with (go_at_call 49; refine (within_any _ _ _ _).mono ?_; rintro e w' ⟨rfl, rfl⟩)
    go_ret
    exact ⟨ret_bool H.out.symm, hbw⟩
  · have hfb : (planFault p == 0) = false := by simp [hf]
    have H := Lib.hid (show isTaskB p t = false by simp [isTaskB, hf])
    clear hf
    unfold planV
    go_enter Try.func65, Try.ntmps65
    go_wp2_with fail
    refine (implPlanFault_any p ve _ hl ((h.below hb0).more hb0.size)).mono ?_
    rintro e w1 ⟨rfl, hb1⟩
    go_wp2
    go_ret
    exact ⟨ret_bool H.out.symm, bnext hb0 hb1⟩

theorem isTask_nat {p : Plan} {t : Int} (h : isTaskB p t = true) : planFault p = 0 ∧ 0 ≤ t ∧ t < p.tasks ∧ t.toNat < p.tasks.toNat := by
  simp only [isTaskB, Bool.and_eq_true, decide_eq_true_eq, inB_iff] at h
  refine ⟨h.1, by omega, by omega, by omega⟩

theorem reachB_iff {p : Plan} (h0 : planFault p = 0) {a b : Nat} (ha : a < p.tasks.toNat) (hb : b < p.tasks.toNat) : reachB p a b = true ↔ Pg.Reach (esOf p) a b := by
  have h1 : isTaskB p a = true := by simp [isTaskB, h0, inB_iff]; omega
  have h2 : isTaskB p b = true := by simp [isTaskB, h0, inB_iff]; omega
  simp [reachB, h1, h2]

theorem implReaches_any (p : Plan) (ve : Value) (a b : Int) (w : World) (hl : p.edges.length ≤ 2000000) (h : Rd edgeE w w.heap.size ve p.edges) :
    Calls Try.prog 32 #[planV p ve, .int .i64 a, .int .i64 b] w fun e w' => e = .returned (.bool (reachB p a b)) ∧ Below w.heap.size w w' := by
  have hb0 := planBox_below 26 p ve w
  cases h1 : isTaskB p a
  · have H := Lib.hid (show reachB p a b = false by simp [reachB, h1])
    have H1 := Lib.hid h1
    clear h1
    unfold planV
    go_enter Try.func32, Try.ntmps32
    go_wp2_with fail
    refine (isTask_any p ve a _ hl ((h.below hb0).more hb0.size)).mono ?_
    rintro e w1 ⟨rfl, hb1⟩
    rw [H1.out]
    go_wp2
    go_ret
    exact ⟨ret_bool H.out.symm, bnext hb0 hb1⟩
  · cases h2 : isTaskB p b
    · have H := Lib.hid (show reachB p a b = false by simp [reachB, h2])
      have H1 := Lib.hid h1
      have H2 := Lib.hid h2
      clear h1 h2
      unfold planV
      go_enter Try.func32, Try.ntmps32
      go_wp2_with fail
      refine (isTask_any p ve a _ hl ((h.below hb0).more hb0.size)).mono ?_
      rintro e w1 ⟨rfl, hb1⟩
      rw [H1.out]
      obtain ⟨x0, x1, x2, x3, x4, hs, hbw⟩ := planBox_cells (T := 26) (p := p) (ve := ve) (w := w) hb1
      go_wp2_with fail
      clear x0 x1 x2 x3 x4
      refine (isTask_any p ve b _ hl ((h.below hbw).more hbw.size)).mono ?_
      rintro e w2 ⟨rfl, hb2⟩
      rw [H2.out]
      go_wp2
      go_ret
      exact ⟨ret_bool H.out.symm, bnext hbw hb2⟩
    · obtain ⟨g0, a0, a1, a2⟩ := isTask_nat h1
      obtain ⟨-, b0, b1, b2⟩ := isTask_nat h2
      obtain ⟨x, rfl⟩ := Int.eq_ofNat_of_zero_le a0
      obtain ⟨y, rfl⟩ := Int.eq_ofNat_of_zero_le b0
      have G0 := Lib.hid (planFault_zero.1 g0)
      obtain ⟨t1, t2⟩ := manyOk_tasks G0.out.1
      obtain ⟨T, hT⟩ := Int.eq_ofNat_of_zero_le (show 0 ≤ p.tasks by omega)
      have hTT : p.tasks.toNat = T := by omega
      have hxT : x < T := by omega
      have hyT : y < T := by omega
      have hT2 : T ≤ 12 := by omega
      have H := Lib.hid (show reachB p x y = @decide (Pg.Reach (esOf p) x y) (Classical.propDecidable _) by
        unfold reachB
        simp [h1, h2])
      have H1 := Lib.hid h1
      have H2 := Lib.hid h2
      have hiff := Lib.hid (Pg.wrounds_iff (esOf p) T (by rw [← hTT]; exact (esOf_lt G0.out.2.1).1) (by rw [← hTT]; exact (esOf_lt G0.out.2.1).2) x y)
      have hOl : (Pg.wrounds (esOf p) T (List.replicate T 0)).length = T := by rw [Pg.wrounds_length, List.length_replicate]
      have hsm : ∀ x ∈ Pg.wrounds (esOf p) T (List.replicate T 0), x < 2 ^ T := Pg.wrounds_lt T _ _ (by rw [← hTT]; exact (esOf_lt G0.out.2.1).2) (fun x hx => by
            have := List.eq_of_mem_replicate hx
            subst this
            exact Nat.two_pow_pos T) T
      have HT := Lib.hid hTT
      clear h1 h2 g0 hT a0 b0 a1 b1 a2 b2 hTT
      unfold planV
      go_enter Try.func32, Try.ntmps32
      go_wp2_with fail
      refine (isTask_any p ve x _ hl ((h.below hb0).more hb0.size)).mono ?_
      rintro e w1 ⟨rfl, hb1⟩
      rw [H1.out]
      obtain ⟨x0, x1, x2, x3, x4, hs, hbw⟩ := planBox_cells (T := 26) (p := p) (ve := ve) (w := w) hb1
      go_wp2_with fail
      clear x0 x1 x2 x3 x4
      refine (isTask_any p ve y _ hl ((h.below hbw).more hbw.size)).mono ?_
      rintro e w2 ⟨rfl, hb2⟩
      rw [H2.out]
      have hbw2 := bnext hbw hb2
      obtain ⟨x0, x1, x2, x3, x4, hs2, -⟩ := planBox_cells (T := 26) (p := p) (ve := ve) (w := w) (bnext hb1 hb2)
      go_wp2_with fail
      clear x0 x1 x2 x3 x4
      refine (waits_any p ve _ G0.out.1 G0.out.2.1 ((h.below hbw2).more hbw2.size)).mono ?_
      rintro e w3 ⟨v1, rfl, o1, hb3⟩
      have hbw3 := bnext hbw2 hb3
      rw [HT.out] at o1
      generalize Pg.wrounds (esOf p) T (List.replicate T 0) = O at *
      rcases o1.form with ⟨_, e0⟩ | ⟨g, cap, rfl, _, hgl, _, _, _, _⟩
      · exfalso
        rw [e0] at hOl
        simp at hOl
        omega
      rw [hOl] at o1
      rw [hOl]
      have HOl := Lib.hid hOl
      clear hOl
      have ck := o1.nat (k := x) (by rw [HOl.out]; exact hxT)
      have hkO : x < O.length := by rw [HOl.out]; exact hxT
      have hx : O[x] < 9223372036854775808 := Nat.lt_of_lt_of_le (hsm _ (List.getElem_mem hkO)) (Nat.le_trans (Nat.pow_le_pow_right (by omega) hT2) (by decide))
      have hbt := bit_test O[x] y hx
      have hg : Hid (O.getD x 0 = O[x]) := by unfold Hid; rw [List.getD_eq_getElem?_getD, List.getElem?_eq_getElem hkO]; rfl
      have hfin : Hid (reachB p x y = O[x].testBit y) := by
        show reachB p x y = _
        rw [H.out, ← hg.out, Bool.eq_iff_iff]
        exact (@decide_eq_true_iff _ (Classical.propDecidable _)).trans hiff.out.symm
      have hxI : (x : Int) < (T : Int) := by omega
      clear hsm
      go_wp2
      go_ret
      exact ⟨ret_bool hfin.out.symm, hbw3⟩
end Go.Proofs.Ytnaicippgocdfaa
end
section
namespace Go.Proofs.Ytnaicippgocdfaa
open Go.RowKit
set_option maxRecDepth 100000

theorem DBox.put {b : Nat} {cs : List Value} {w : World} (h : DBox b cs w) (j : Nat) (hj : j < cs.length) (u : Value) : DBox b (cs.set j u) (w.setCell ⟨b, j, none⟩ u) := by
  refine ⟨fun i x hx => ?_, fun i => by rw [setCell_frozen]; exact h.free i, by simpa [World.setCell] using h.lt⟩
  have hi : i < cs.length := by
    have := (List.getElem?_eq_some_iff.1 hx).1
    simpa using this
  rw [setCell_cell w b i j u cs[i] (h.cell i _ (List.getElem?_eq_getElem hi)) ⟨_, h.cell j _ (List.getElem?_eq_getElem hj)⟩]
  by_cases e : i = j
  · subst e
    rw [List.getElem?_set_self hi] at hx
    rw [if_pos rfl]
    exact hx
  · rw [List.getElem?_set_ne (Ne.symm e), List.getElem?_eq_getElem hi] at hx
    rw [if_neg e]
    exact hx
end Go.Proofs.Ytnaicippgocdfaa
end
section
namespace Go.Proofs.Ytnaicippgocdfaa
open Go.RowKit

/-- t may come next behind those of out -/
def mayCome (es : List (Nat × Nat)) (out : List Nat) (t : Nat) : Bool := !decide (t ∈ out) && es.all fun e => !decide (e.2 = t) || decide (e.1 ∈ out)
def pickT (es : List (Nat × Nat)) (T : Nat) (out : List Nat) : Option Nat := (List.range T).find? (mayCome es out)
/-- the first n tasks of the order -/
def orderL (es : List (Nat × Nat)) (T : Nat) : Nat → List Nat
  | 0 => []
  | n + 1 => match pickT es T (orderL es T n) with
    | some t => orderL es T n ++ [t]
    | none => orderL es T n

theorem mayCome_iff {es : List (Nat × Nat)} {out : List Nat} {t : Nat} : mayCome es out t = true ↔ t ∉ out ∧ ∀ s, (s, t) ∈ es → s ∈ out := by
  unfold mayCome
  simp only [Bool.and_eq_true, Bool.not_eq_true', decide_eq_false_iff_not, List.all_eq_true, Bool.or_eq_true, decide_eq_true_eq, Prod.forall]
  constructor
  · rintro ⟨h1, h2⟩
    refine ⟨h1, fun s hs => ?_⟩
    rcases h2 s t hs with h | h
    · exact absurd rfl h
    · exact h
  · rintro ⟨h1, h2⟩
    refine ⟨h1, fun a b hab => ?_⟩
    by_cases hb : b = t
    · subst hb; exact .inr (h2 a hab)
    · exact .inl hb

theorem Way.lower {es : List (Nat × Nat)} {b : Nat} {U : Nat → Prop} (hU : ∀ u, U u → ∃ v, U v ∧ (v, u) ∈ es) (hb : U b) : ∀ n, ∃ a l, U a ∧ l.length = n ∧ Pg.Way es a l b ∧ ∀ x ∈ a :: l, U x
  | 0 => ⟨b, [], hb, rfl, .nil b, by simpa using hb⟩
  | n + 1 => by
    obtain ⟨a, l, ha, hl, hw, hx⟩ := Way.lower hU hb n
    obtain ⟨v, hv, he⟩ := hU a ha
    refine ⟨v, a :: l, hv, by simp [hl], .cons he hw, ?_⟩
    intro x hx'
    rcases List.mem_cons.1 hx' with rfl | h
    · exact hv
    · exact hx x h

theorem Way.head {es : List (Nat × Nat)} : ∀ {a x b : Nat} (l1 : List Nat) {l2 : List Nat}, Pg.Way es a (l1 ++ x :: l2) b → Pg.Way es a (l1 ++ [x]) x
  | _, _, _, [], _, h => by cases h with | cons h1 _ => exact .cons h1 (.nil _)
  | _, _, _, _ :: l1, _, h => by cases h with | cons h1 h2 => exact .cons h1 (Way.head l1 h2)

theorem Way.turn {es : List (Nat × Nat)} {b : Nat} : ∀ (l : List Nat) {a : Nat}, Pg.Way es a l b → ¬ (a :: l).Nodup → ∃ x ∈ a :: l, Pg.Reach es x x
  | [], a, _, h => absurd (by simp) h
  | c :: l, a, hw, hn => by
    by_cases ha : a ∈ c :: l
    · obtain ⟨l1, l2, he⟩ := List.append_of_mem ha
      rw [he] at hw
      exact ⟨a, by simp, l1 ++ [a], by simp, Way.head l1 hw⟩
    · have hn2 : ¬ (c :: l).Nodup := fun h => hn (List.nodup_cons.2 ⟨ha, h⟩)
      cases hw with
      | cons h1 h2 =>
        obtain ⟨x, hx, hr⟩ := Way.turn l h2 hn2
        exact ⟨x, List.mem_cons_of_mem _ hx, hr⟩

theorem pick_some {es : List (Nat × Nat)} {T : Nat} {out : List Nat} (h1 : ∀ e ∈ es, e.1 < T) (hac : ∀ t, t < T → ¬ Pg.Reach es t t) (hlt : ∃ t, t < T ∧ t ∉ out) : ∃ t, pickT es T out = some t ∧ t < T ∧ mayCome es out t = true := by
  cases hp : pickT es T out with
  | some t =>
    have hm := List.find?_some hp
    have hr := List.mem_of_find?_eq_some hp
    exact ⟨t, rfl, by simpa using hr, hm⟩
  | none =>
    exfalso
    unfold pickT at hp
    rw [List.find?_eq_none] at hp
    obtain ⟨t, htT, hto⟩ := hlt
    have hU : ∀ u, (u < T ∧ u ∉ out) → ∃ v, (v < T ∧ v ∉ out) ∧ (v, u) ∈ es := by
      rintro u ⟨hu, huo⟩
      have hno := hp u (by simpa using hu)
      rw [mayCome_iff] at hno
      have : ¬ ∀ s, (s, u) ∈ es → s ∈ out := fun h => hno ⟨huo, h⟩
      obtain ⟨s, hs'⟩ := Classical.not_forall.1 this
      obtain ⟨hs, hso⟩ := Classical.not_imp.1 hs'
      exact ⟨s, ⟨h1 _ hs, hso⟩, hs⟩
    obtain ⟨a, l, _, hl, hw, hx⟩ := Way.lower (U := fun u => u < T ∧ u ∉ out) hU ⟨htT, hto⟩ T
    have hnn : ¬ (a :: l).Nodup := fun hn => by
      have := Pg.nodup_le T (a :: l) hn (fun x hx' => (hx x hx').1)
      simp only [List.length_cons] at this
      omega
    obtain ⟨x, hx', hr⟩ := Way.turn l hw hnn
    exact hac x (hx x hx').1 hr

/-- what holds of the first tasks of the order -/
structure OrderInv (es : List (Nat × Nat)) (T n : Nat) (o : List Nat) : Prop where
  len : o.length = n
  nodup : o.Nodup
  lt : ∀ x ∈ o, x < T
  closed : ∀ i (h : i < o.length) s, (s, o[i]) ∈ es → s ∈ o.take i

theorem all_le : ∀ (T : Nat) (o : List Nat), (∀ t, t < T → t ∈ o) → T ≤ o.length
  | 0, _, _ => Nat.zero_le _
  | T + 1, o, h => by
    have h1 := all_le T (o.erase T) (fun t ht => (List.mem_erase_of_ne (by omega)).2 (h t (by omega)))
    have h2 := h T (by omega)
    have h3 := List.length_pos_of_mem h2
    rw [List.length_erase_of_mem h2] at h1
    omega
theorem exists_out {T : Nat} {o : List Nat} (hl : o.length < T) : ∃ t, t < T ∧ t ∉ o := by
  refine Classical.byContradiction fun h => ?_
  have := all_le T o (fun t ht => Classical.byContradiction fun hn => h ⟨t, ht, hn⟩)
  omega

theorem orderL_inv {es : List (Nat × Nat)} {T : Nat} (h1 : ∀ e ∈ es, e.1 < T) (hac : ∀ t, t < T → ¬ Pg.Reach es t t) : ∀ n, n ≤ T → OrderInv es T n (orderL es T n)
  | 0, _ => ⟨rfl, by simp [orderL], by simp [orderL], fun i h => absurd h (by simp [orderL])⟩
  | n + 1, hn => by
    have ih := orderL_inv h1 hac n (by omega)
    obtain ⟨t, hp, htT, hm⟩ := pick_some h1 hac (exists_out (T := T) (o := orderL es T n) (by rw [ih.len]; omega))
    obtain ⟨m1, m2⟩ := mayCome_iff.1 hm
    have he : orderL es T (n + 1) = orderL es T n ++ [t] := by
      show (match pickT es T (orderL es T n) with | some t => orderL es T n ++ [t] | none => orderL es T n) = _
      rw [hp]
    rw [he]
    refine ⟨by simp [ih.len], nodup_snoc.2 ⟨ih.nodup, m1⟩, ?_, ?_⟩
    · intro x hx
      rcases List.mem_append.1 hx with h | h
      · exact ih.lt x h
      · rw [List.mem_singleton.1 h]; exact htT
    · intro i hi s hs
      simp only [List.length_append, List.length_singleton] at hi
      by_cases hin : i < (orderL es T n).length
      · rw [List.getElem_append_left hin] at hs
        rw [List.take_append_of_le_length (by omega)]
        exact ih.closed i hin s hs
      · have hi' : i = (orderL es T n).length := by omega
        subst hi'
        rw [List.getElem_append_right (by omega)] at hs
        simp only [Nat.sub_self, List.getElem_cons_zero] at hs
        rw [List.take_append_of_le_length (Nat.le_refl _), List.take_length]
        exact m2 s hs

theorem orderL_succ {es : List (Nat × Nat)} {T n t : Nat} (hp : pickT es T (orderL es T n) = some t) : orderL es T (n + 1) = orderL es T n ++ [t] := by
  show (match pickT es T (orderL es T n) with | some t => orderL es T n ++ [t] | none => orderL es T n) = _
  rw [hp]
theorem pickT_first {es : List (Nat × Nat)} {T t : Nat} {out : List Nat} (htT : t < T) (hm : mayCome es out t = true) (hno : ∀ s, s < t → mayCome es out s = false) : pickT es T out = some t := by
  unfold pickT
  rw [List.find?_eq_some_iff_getElem]
  refine ⟨hm, t, by simpa using htT, by simp, fun j hj => ?_⟩
  simp [hno j hj]
end Go.Proofs.Ytnaicippgocdfaa
end
section
namespace Go.Proofs.Ytnaicippgocdfaa
open Go.RowKit
set_option maxRecDepth 100000
set_option maxHeartbeats 1000000

theorem specWeightsOk_any (p : Plan) (ve v : Value) (l : List Int) (w : World) (hl : p.edges.length ≤ 2000000) (hl2 : l.length ≤ 2000000) (h : Rd edgeE w w.heap.size ve p.edges) (h2 : Rd intE w w.heap.size v l) :
    Calls Try.prog 51 #[planV p ve, v] w fun e w' => e = .returned (.bool (weightsOk p l)) ∧ Below w.heap.size w w' := by
  obtain ⟨A, c, rfl, -⟩ := id h2
  have hb0 := planBox_below 26 p ve w
  by_cases hf : planFault p = 0
  · have hfb : (planFault p != 0) = false := by simp [hf]
    have Hf := Lib.hid hf
    by_cases hn : (l.length : Int) = p.tasks
    · have hnb : ((l.length : Int) != p.tasks) = false := by simp [hn]
      have Hn := Lib.hid hn
      clear hf hn
      unfold planV
      go_enter Try.func51, Try.ntmps51
      go_wp2_with fail
      refine (specPlanFault_any p ve _ hl ((h.below hb0).more hb0.size)).mono ?_
      rintro e w1 ⟨rfl, hb1⟩
      obtain ⟨x0, x1, x2, x3, x4, hs, hbw⟩ := planBox_cells (T := 26) (p := p) (ve := ve) (w := w) hb1
      go_wp2
      go_loopw [5] (fun i wr => ∃ k : Nat, k ≤ l.length ∧ i = .int .i64 k ∧ Hid (∀ j (hj : j < l.length), j < k → inB l[j] 1 1000 = true) ∧ Below w.heap.size w wr) (fun i _ => l.length - (intOf i).toNat)
      case atStart => exact ⟨0, Nat.zero_le _, rfl, fun j hj h0 => absurd h0 (by omega), hbw⟩
      case round =>
        clear hb1 x0 x1 x2 x3 x4 hs hbw
        obtain ⟨k, hk, rfl, hok, hb⟩ := hrel
        by_cases hlt : k < l.length
        · obtain ⟨b, o, rfl, hbb, c0⟩ := (h2.below hb).int hlt
          have i1 : (k : Int) < (l.length : Int) := by omega
          have hbb1 : b < wr.heap.size := Nat.lt_of_lt_of_le hbb hb.size
          cases g : inB l[k] 1 1000
          · have H := Lib.hid (weightsOk_take (p := p) hlt g)
            go_wp2_with (go_at_call 52; refine (l01In_any _ _ _ _).mono ?_; rintro e w' ⟨rfl, rfl⟩)
            go_ret
            exact ⟨ret_bool H.out.symm, hb⟩
          · have S : Hid (∀ j (hj : j < l.length), j < k + 1 → inB l[j] 1 1000 = true) := by
              intro j hj hjk
              by_cases e : j = k
              · subst e; exact g
              · exact hok.out j hj (by omega)
            go_wp2_with (go_at_call 52; refine (l01In_any _ _ _ _).mono ?_; rintro e w' ⟨rfl, rfl⟩)
            exact ⟨⟨k + 1, by omega, by go_num, S, hb⟩, by simp [intOf]; omega⟩
        · have H : Hid (weightsOk p l = true) := by
            show weightsOk p l = true
            simp only [weightsOk, Hf.out, Hn.out, decide_true, Bool.true_and, List.all_eq_true]
            intro x hx
            obtain ⟨j, hj, rfl⟩ := List.getElem_of_mem hx
            exact hok.out j hj (by omega)
          go_wp2
          go_ret
          exact ⟨ret_bool H.out.symm, hb⟩
    · have hnb : ((l.length : Int) != p.tasks) = true := by simp [hn]
      have H := Lib.hid (show weightsOk p l = false by simp [weightsOk, hn])
      clear hf hn
      unfold planV
      go_enter Try.func51, Try.ntmps51
      go_wp2_with fail
      refine (specPlanFault_any p ve _ hl ((h.below hb0).more hb0.size)).mono ?_
      rintro e w1 ⟨rfl, hb1⟩
      obtain ⟨x0, x1, x2, x3, x4, hs, hbw⟩ := planBox_cells (T := 26) (p := p) (ve := ve) (w := w) hb1
      go_wp2
      go_ret
      exact ⟨ret_bool H.out.symm, hbw⟩
  · have hfb : (planFault p != 0) = true := by simp [hf]
    have H := Lib.hid (show weightsOk p l = false by simp [weightsOk, hf])
    clear hf
    unfold planV
    go_enter Try.func51, Try.ntmps51
    go_wp2_with fail
    refine (specPlanFault_any p ve _ hl ((h.below hb0).more hb0.size)).mono ?_
    rintro e w1 ⟨rfl, hb1⟩
    go_wp2
    go_ret
    exact ⟨ret_bool H.out.symm, bnext hb0 hb1⟩
end Go.Proofs.Ytnaicippgocdfaa
end
section
namespace Go.Proofs.Ytnaicippgocdfaa
open Go.RowKit
set_option maxRecDepth 100000
set_option maxHeartbeats 2000000

def shiftE (t : Int) (e : Edge) : Edge := ⟨e.fr + t, e.to + t⟩
def joinL (p q : Plan) (k : Nat) : List Edge := p.edges ++ (q.edges.take k).map (shiftE p.tasks)
def joinP (p q : Plan) (m : List Edge) : Plan := { p with tasks := p.tasks + q.tasks, edges := joinL p q q.edges.length ++ m }
open Classical in
noncomputable def joined (p q : Plan) (m : List Edge) : Plan × Bool := if planFault p = 0 ∧ planFault q = 0 ∧ planFault (joinP p q m) = 0 then (joinP p q m, true) else (zeroPlan, false)
def JoinPost (r : Plan × Bool) (w : World) (e : Ending) (w' : World) : Prop := ∃ v, e = .returned (.tuple #[planV r.1 v, .bool r.2]) ∧ Ow edgeE 52 w' w.heap.size v r.1.edges ∧ Below w.heap.size w w'
theorem joinL_succ (p q : Plan) {k : Nat} (hk : k < q.edges.length) : joinL p q (k + 1) = joinL p q k ++ [shiftE p.tasks q.edges[k]] := by
  simp only [joinL, take_snoc _ k hk, List.map_append, List.append_assoc, List.map_cons, List.map_nil]
theorem joinL_len (p q : Plan) (k : Nat) : (joinL p q k).length ≤ p.edges.length + q.edges.length := by
  have := List.length_take_le' k q.edges
  simp only [joinL, List.length_append, List.length_map]
  omega
theorem joined_no {p q : Plan} {m : List Edge} (h : ¬ (planFault p = 0 ∧ planFault q = 0 ∧ planFault (joinP p q m) = 0)) : joined p q m = (zeroPlan, false) := by
  unfold joined; rw [if_neg h]
theorem joined_yes {p q : Plan} {m : List Edge} (h : planFault p = 0 ∧ planFault q = 0 ∧ planFault (joinP p q m) = 0) : joined p q m = (joinP p q m, true) := by
  unfold joined; rw [if_pos h]

/-- the world with two plans' variables and an empty one laid -/
theorem threeBox_at (p : Plan) (ve : Value) (q : Plan) (vf : Value) (w : World) :
    ∃ W, W = (twoBox 26 p ve q vf w).alloc (.cells #[.int .i64 0, .int .i64 0, .int .i64 0, .int .i64 0, .slice none 0 0] 26) ∧ BoxAt w.heap.size p ve W ∧ BoxAt (w.heap.size + 1) q vf W ∧ BoxAt (w.heap.size + 2) zeroPlan (.slice none 0 0) W ∧ Below w.heap.size w W ∧ W.heap.size = w.heap.size + 3 := by
  obtain ⟨D, E, hb⟩ := twoBox_at 26 p ve q vf w
  have ha := (Below.refl (twoBox 26 p ve q vf w).heap.size (twoBox 26 p ve q vf w)).alloc (Nat.le_refl _) (.cells #[.int .i64 0, .int .i64 0, .int .i64 0, .int .i64 0, .slice none 0 0] 26)
  refine ⟨_, rfl, D.below ha, E.below ha, ?_, bnext hb ha, by simp [twoBox, planBox]⟩
  exact BoxAt.new' 26 zeroPlan (.slice none 0 0) _ (by simp [twoBox, planBox])

theorem implJoined_any (p : Plan) (ve : Value) (q : Plan) (vf : Value) (vm : Value) (m : List Edge) (w : World) (hl : p.edges.length ≤ 2000000) (hl' : q.edges.length ≤ 2000000) (hl2 : m.length ≤ 1000000) (h : Rd edgeE w w.heap.size ve p.edges) (h' : Rd edgeE w w.heap.size vf q.edges) (hm : Rd edgeE w w.heap.size vm m) :
    Calls Try.prog 64 #[planV p ve, planV q vf, vm] w (JoinPost (joined p q m) w) := by
  obtain ⟨W, hWe, D, E, Z, hW, hsz⟩ := threeBox_at p ve q vf w
  unfold twoBox planBox at hWe
  have HWe := Lib.hid hWe
  have Hsz := Lib.hid hsz
  clear hWe hsz
  obtain ⟨Am, cm, rfl, -⟩ := id hm
  by_cases hf : planFault p = 0
  case neg =>
    have hfb : (planFault p != 0) = true := by simp [hf]
    have H := Lib.hid (joined_no (p := p) (q := q) (m := m) (fun x => hf x.1))
    clear hf
    unfold planV
    go_enter Try.func64, Try.ntmps64
    go_wp2_with fail
    rw [← HWe.out]
    refine (implPlanFault_any p ve _ hl ((h.below hW).more hW.size)).mono ?_
    rintro e w1 ⟨rfl, b1⟩
    obtain ⟨z0, z1, z2, z3, z4, zs⟩ := (Z.below b1).cells
    have zf := (Z.below b1).free
    have hW := bnext hW b1
    go_wp2
    refine bodyPost_ret (v := .tuple #[planV zeroPlan (.slice none 0 0), .bool false]) ?_ rfl ⟨.slice none 0 0, by rw [H.out], by rw [H.out]; exact Ow.nil _ _ _ _, ?_⟩
    · simp [planV, zeroPlan, results, Try.results64, go_sem, *]
    · repeat (first | (with_reducible exact hW) | refine Below.setCell ?_ (by simp <;> omega) _)
  have hfb : (planFault p != 0) = false := by simp [hf]
  by_cases hg : planFault q = 0
  case neg =>
    have hgb : (planFault q != 0) = true := by simp [hg]
    have H := Lib.hid (joined_no (p := p) (q := q) (m := m) (fun x => hg x.2.1))
    clear hf hg
    unfold planV
    go_enter Try.func64, Try.ntmps64
    go_wp2_with fail
    rw [← HWe.out]
    refine (implPlanFault_any p ve _ hl ((h.below hW).more hW.size)).mono ?_
    rintro e w1 ⟨rfl, b1⟩
    have hW := bnext hW b1
    have E := E.below b1
    have Z := Z.below b1
    obtain ⟨y0, y1, y2, y3, y4, ys⟩ := E.cells
    go_wp2_with fail
    clear y0 y1 y2 y3 y4 ys
    refine (implPlanFault_any q vf _ hl' ((h'.below hW).more hW.size)).mono ?_
    rintro e w2 ⟨rfl, b2⟩
    obtain ⟨z0, z1, z2, z3, z4, zs⟩ := (Z.below b2).cells
    have zf := (Z.below b2).free
    have hW := bnext hW b2
    go_wp2
    refine bodyPost_ret (v := .tuple #[planV zeroPlan (.slice none 0 0), .bool false]) ?_ rfl ⟨.slice none 0 0, by rw [H.out], by rw [H.out]; exact Ow.nil _ _ _ _, ?_⟩
    · simp [planV, zeroPlan, results, Try.results64, go_sem, *]
    · repeat (first | (with_reducible exact hW) | refine Below.setCell ?_ (by simp <;> omega) _)
  have hgb : (planFault q != 0) = false := by simp [hg]
  obtain ⟨P0, P1, -, -⟩ := planFault_zero.1 hf
  obtain ⟨Q0, Q1, -, -⟩ := planFault_zero.1 hg
  obtain ⟨t1, t2⟩ := manyOk_tasks P0
  obtain ⟨u1, u2⟩ := manyOk_tasks Q0
  have hpe := manyOk_edges P0
  have hqe := manyOk_edges Q0
  have HF := Lib.hid hf
  have HG := Lib.hid hg
  have HQ := Lib.hid Q1
  clear hf hg P0 Q0 P1 Q1
  obtain ⟨i0, hi0, hz0, hz1, hz2⟩ := info_parts edge_info
  obtain ⟨Aq, cq, rfl, -⟩ := id h'
  unfold planV
  go_enter Try.func64, Try.ntmps64
  go_wp2_with fail
  rw [← HWe.out]
  refine (implPlanFault_any p ve _ hl ((h.below hW).more hW.size)).mono ?_
  rintro e w1 ⟨rfl, b1⟩
  have hW := bnext hW b1
  have D := D.below b1
  have E := E.below b1
  have Z := Z.below b1
  obtain ⟨y0, y1, y2, y3, y4, ys⟩ := E.cells
  go_wp2_with fail
  clear y0 y1 y2 y3 y4 ys
  refine (implPlanFault_any q (.slice Aq q.edges.length cq) _ hl' ((h'.below hW).more hW.size)).mono ?_
  rintro e w2 ⟨rfl, b2⟩
  have hW := bnext hW b2
  have D := D.below b2
  have E := E.below b2
  have Z := Z.below b2
  obtain ⟨y0, y1, y2, y3, y4, ys⟩ := D.cells
  go_wp2_with fail
  clear y0 y1 y2 y3 y4 ys
  refine (implCopy_any p ve _ hl ((h.below hW).more hW.size)).mono ?_
  rintro e w3 ⟨v3, rfl, o3, b3⟩
  have hz3 := Z.lt
  have hW := bnext hW b3
  have D := D.below b3
  have E := E.below b3
  have Z := Z.below b3
  have o3 := o3.more (base' := w.heap.size + 3) (by omega)
  have hin3 := o3.within
  obtain ⟨A3, c3, rfl, -⟩ := id (Rd.of_own o3)
  obtain ⟨x0, x1, x2, x3, x4, xs⟩ := E.cells
  have hzz := Z.lt
  have H3 := Lib.hid hin3
  clear hin3
  go_wp2_with fail
  clear x0 x1 x2 x3 x4 xs
  generalize hw4 : w3.alloc (.cells #[.int .i64 p.prio, .int .i64 p.most, .int .i64 p.wait, .int .i64 (p.tasks + q.tasks), .slice A3 p.edges.length c3] 26) = w4
  have b4 : Below w3.heap.size w3 w4 := by rw [← hw4]; exact (Below.refl _ _).alloc (Nat.le_refl _) _
  have X : BoxAt w3.heap.size { p with tasks := p.tasks + q.tasks } (.slice A3 p.edges.length c3) w4 := by rw [← hw4]; exact BoxAt.new' 26 { p with tasks := p.tasks + q.tasks } _ w3 rfl
  clear hw4
  have o4 := o3.below b4
  have D := D.below b4
  have E := E.below b4
  have Z := Z.below b4
  have hW := bnext hW b4
  have hne : Hid ((Value.slice A3 p.edges.length c3).ownBlock ≠ some w3.heap.size) := fun e => by have := H3.out _ e; omega
  go_loopw [31] (fun i wr => ∃ (k : Nat) (v : Value), k ≤ q.edges.length ∧ i = .int .i64 k ∧ BoxAt w.heap.size p ve wr ∧ BoxAt (w.heap.size + 1) q (.slice Aq q.edges.length cq) wr ∧ BoxAt (w.heap.size + 2) zeroPlan (.slice none 0 0) wr ∧ BoxAt w3.heap.size { p with tasks := p.tasks + q.tasks, edges := joinL p q k } v wr ∧ Ow edgeE 52 wr (w.heap.size + 3) v (joinL p q k) ∧ Hid (v.ownBlock ≠ some w3.heap.size) ∧ Below w.heap.size w wr) (fun i _ => q.edges.length - (intOf i).toNat)
  case atStart =>
    refine ⟨0, _, Nat.zero_le _, rfl, D, E, Z, ?_, ?_, hne, hW⟩
    · exact ⟨X.cells, X.free⟩
    · simpa [joinL] using o4
  case round =>
    clear D E Z X hW hne o3 o4
    obtain ⟨k, v, hk, rfl, D, E, Z, X, ho, hne, hW⟩ := hrel
    by_cases hlt : k < q.edges.length
    · have hltI : (k : Int) < (q.edges.length : Int) := by omega
      obtain ⟨b, o, rfl, hbb, c0, c1⟩ := (h'.below hW).edge hlt
      obtain ⟨f1, f2, f3, f4⟩ := edgesIn_get HQ.out hlt
      have S := Lib.hid (joinL_succ p q hlt)
      have hll := joinL_len p q k
      have hll2 : (joinL p q k).length ≤ 3000000 := by omega
      clear hll
      generalize hpe : q.edges[k] = e at *
      have HPE := Lib.hid hpe
      clear hpe
      have ha1 : ∀ w : World, Below w.heap.size w ((w.alloc (.cells #[.int .i64 e.fr, .int .i64 e.to] 52)).alloc (.cells #[.int .i64 (e.fr + p.tasks), .int .i64 (e.to + p.tasks)] 52)) := fun w => ((Below.refl _ _).alloc (Nat.le_refl _) _).alloc (by simp) _
      have Ha := Lib.hid ha1
      clear ha1
      obtain ⟨x0, x1, x2, x3, x4, xs⟩ := X.cells
      obtain ⟨y0, y1, y2, y3, y4, ys⟩ := D.cells
      go_wp2_with (at_builtin; refine wpList_push_all _ edgeE (by decide) rfl (.tmp 36) (.tmp 48) rfl Try.underlying24 hi0 hz0 hz1 hz2 rfl (v := v) (l := joinL p q k) rfl (ho.below (Ha.out wr)) rfl (Rd.one edgeE _ _ (shiftE p.tasks e) (by simp) rfl 1 (Nat.le_refl _) (Nat.lt_succ_self _)) hll2 (by simp) (by decide) (by simp; omega) ?_; intro v5 w5 o5 g5 hat5; clear x0 x1 x2 x3 x4 xs y0 y1 y2 y3 y4 ys; obtain ⟨A5, c5, rfl, -⟩ := id (Rd.of_own o5); have X5 := (X.below (Ha.out wr)).far g5 (fun e => hne.out e.symm); obtain ⟨x0, x1, x2, x3, x4, xs⟩ := X5.cells; have xf := X5.free)
      have hXl := X.lt
      have D5 := (D.below (Ha.out wr)).far g5 (fun e => by have := ho.within _ e.symm; omega)
      have E5 := (E.below (Ha.out wr)).far g5 (fun e => by have := ho.within _ e.symm; omega)
      have Z5 := (Z.below (Ha.out wr)).far g5 (fun e => by have := ho.within _ e.symm; omega)
      have hWa := bnext hW (Ha.out wr)
      have W5 := hWa.grown g5 hWa.size (fun g hg => by have := ho.within _ hg; omega)
      have hne5 : Hid ((Value.slice A5 (joinL p q k ++ [shiftE p.tasks e]).length c5).ownBlock ≠ some w3.heap.size) := by
        intro e
        rcases hat5 with h1 | h1
        · rw [h1] at e; exact hne.out e
        · rw [h1] at e; simp at e; omega
      rw [List.length_append, List.length_singleton] at o5 hne5
      refine ⟨⟨k + 1, .slice A5 ((joinL p q k).length + 1) c5, by omega, by go_num, D5.other (by simp; omega) _, E5.other (by simp; omega) _, Z5.other (by simp; omega) _, ?_, ?_, hne5, W5.setCell (by simp; omega) _⟩, by simp [intOf]; omega⟩
      · exact X5.setEdges _ _
      · rw [S.out]
        exact o5.setOther hne5.out _
    · have hltI : ¬ (k : Int) < (q.edges.length : Int) := by omega
      have hk' : k = q.edges.length := by omega
      subst hk'
      have hll := joinL_len p q q.edges.length
      have hll2 : (joinL p q q.edges.length).length ≤ 3000000 := by omega
      have hXl := X.lt
      obtain ⟨x0, x1, x2, x3, x4, xs⟩ := X.cells
      go_wp2_with (at_builtin; refine wpList_push_all _ edgeE (by decide) rfl (.tmp 53) (.tmp 54) rfl Try.underlying24 hi0 hz0 hz1 hz2 rfl (v := v) (l := joinL p q q.edges.length) rfl ho rfl ((hm.below hW).more hW.size) hll2 (by omega) (by decide) (by omega) ?_; intro v5 w5 o5 g5 hat5; clear x0 x1 x2 x3 x4 xs; obtain ⟨A5, c5, rfl, -⟩ := id (Rd.of_own o5); have X5 := X.far g5 (fun e => hne.out e.symm); obtain ⟨x0, x1, x2, x3, x4, xs⟩ := X5.cells; have xf := X5.free)
      clear x0 x1 x2 x3 x4 xs xf
      have Z5 := (Z.far g5 (fun e => by have := ho.within _ e.symm; omega)).other (a := ⟨w3.heap.size, 4, none⟩) (by simp; omega) (.slice A5 ((joinL p q q.edges.length).length + m.length) c5)
      have W5 := (hW.grown g5 hW.size (fun g hg => by have := ho.within _ hg; omega)).setCell (p := ⟨w3.heap.size, 4, none⟩) (by simp; omega) (.slice A5 ((joinL p q q.edges.length).length + m.length) c5)
      have hne5 : Hid ((Value.slice A5 (joinL p q q.edges.length ++ m).length c5).ownBlock ≠ some w3.heap.size) := by
        intro e
        rcases hat5 with h1 | h1
        · rw [h1] at e; exact hne.out e
        · rw [h1] at e; simp at e; omega
      rw [List.length_append] at o5 hne5
      have X6 : BoxAt w3.heap.size (joinP p q m) (.slice A5 ((joinL p q q.edges.length).length + m.length) c5) (w5.setCell ⟨w3.heap.size, 4, none⟩ (.slice A5 ((joinL p q q.edges.length).length + m.length) c5)) := X5.setEdges _ _
      have o6 : Ow edgeE 52 (w5.setCell ⟨w3.heap.size, 4, none⟩ (.slice A5 ((joinL p q q.edges.length).length + m.length) c5)) (w.heap.size + 3) (.slice A5 ((joinL p q q.edges.length).length + m.length) c5) (joinP p q m).edges := o5.setOther hne5.out _
      clear o5 g5 hat5 X5
      generalize w5.setCell ⟨w3.heap.size, 4, none⟩ (.slice A5 ((joinL p q q.edges.length).length + m.length) c5) = w6 at *
      have hjl : (joinP p q m).edges.length ≤ 2000000 := by
        show (joinL p q q.edges.length ++ m).length ≤ _
        rw [List.length_append]
        omega
      refine (implPlanFault_any (joinP p q m) _ _ hjl (Rd.of_own o6)).mono ?_
      rintro e w7 ⟨rfl, b7⟩
      have o7 := o6.below b7
      have Z7 := Z5.below b7
      have X7 := X6.below b7
      have W7 := bnext W5 b7
      obtain ⟨z0, z1, z2, z3, z4, zs⟩ := Z7.cells
      have zf := Z7.free
      obtain ⟨x0, x1, x2, x3, x4, xs⟩ := X7.cells
      by_cases hj : planFault (joinP p q m) = 0
      · have hjb : (planFault (joinP p q m) != 0) = false := by simp [hj]
        have H := Lib.hid (joined_yes (m := m) ⟨HF.out, HG.out, hj⟩)
        clear hj
        go_wp2
        refine bodyPost_ret (v := .tuple #[planV (joinP p q m) (.slice A5 ((joinL p q q.edges.length).length + m.length) c5), .bool true]) ?_ rfl ⟨.slice A5 ((joinL p q q.edges.length).length + m.length) c5, by rw [H.out], ?_, ?_⟩
        · simp [planV, results, Try.results64, go_sem, *]
        · rw [H.out]
          refine Ow.more (base := w.heap.size + 3) ?_ (by omega)
          unfold Ow at o7 ⊢
          repeat (first | (with_reducible exact o7) | refine ownsRow_setCell_below ?_ (by simp <;> omega) _)
        · repeat (first | (with_reducible exact W7) | refine Below.setCell ?_ (by simp <;> omega) _)
      · have hjb : (planFault (joinP p q m) != 0) = true := by simp [hj]
        have H := Lib.hid (joined_no (p := p) (q := q) (m := m) (fun x => hj x.2.2))
        clear hj
        go_wp2
        refine bodyPost_ret (v := .tuple #[planV zeroPlan (.slice none 0 0), .bool false]) ?_ rfl ⟨.slice none 0 0, by rw [H.out], by rw [H.out]; exact Ow.nil _ _ _ _, ?_⟩
        · simp [planV, zeroPlan, results, Try.results64, go_sem, *]
        · repeat (first | (with_reducible exact W7) | refine Below.setCell ?_ (by simp <;> omega) _)
end Go.Proofs.Ytnaicippgocdfaa
end
section
namespace Go.Proofs.Ytnaicippgocdfaa
open Go.RowKit
set_option maxRecDepth 100000
set_option maxHeartbeats 1000000

theorem specReaches_any (p : Plan) (ve : Value) (a b : Int) (w : World) (hl : p.edges.length ≤ 2000000) (h : Rd edgeE w w.heap.size ve p.edges) :
    Calls Try.prog 63 #[planV p ve, .int .i64 a, .int .i64 b] w fun e w' => e = .returned (.bool (reachB p a b)) ∧ Below w.heap.size w w' := by
  have hb0 := planBox_below 26 p ve w
  by_cases hf : planFault p = 0
  case neg =>
    have hfb : (planFault p != 0) = true := by simp [hf]
    have H := Lib.hid (show reachB p a b = false by simp [reachB, isTaskB, hf])
    clear hf
    unfold planV
    go_enter Try.func63, Try.ntmps63
    go_wp2_with fail
    refine (specPlanFault_any p ve _ hl ((h.below hb0).more hb0.size)).mono ?_
    rintro e w1 ⟨rfl, hb1⟩
    go_wp2
    go_ret
    exact ⟨ret_bool H.out.symm, bnext hb0 hb1⟩
  have hfb : (planFault p != 0) = false := by simp [hf]
  have G0 := Lib.hid (planFault_zero.1 hf)
  obtain ⟨t1, t2⟩ := manyOk_tasks G0.out.1
  have HF := Lib.hid hf
  clear hf
  cases h1 : inB a 0 (p.tasks - 1)
  · have H := Lib.hid (show reachB p a b = false by simp [reachB, isTaskB, h1])
    unfold planV
    go_enter Try.func63, Try.ntmps63
    go_wp2_with fail
    refine (specPlanFault_any p ve _ hl ((h.below hb0).more hb0.size)).mono ?_
    rintro e w1 ⟨rfl, hb1⟩
    obtain ⟨x0, x1, x2, x3, x4, hs, hbw⟩ := planBox_cells (T := 26) (p := p) (ve := ve) (w := w) hb1
    go_wp2_with (go_at_call 52; refine (l01In_any _ _ _ _).mono ?_; rintro e w' ⟨rfl, rfl⟩)
    go_ret
    exact ⟨ret_bool H.out.symm, hbw⟩
  cases h2 : inB b 0 (p.tasks - 1)
  · have H := Lib.hid (show reachB p a b = false by simp [reachB, isTaskB, h2])
    unfold planV
    go_enter Try.func63, Try.ntmps63
    go_wp2_with fail
    refine (specPlanFault_any p ve _ hl ((h.below hb0).more hb0.size)).mono ?_
    rintro e w1 ⟨rfl, hb1⟩
    obtain ⟨x0, x1, x2, x3, x4, hs, hbw⟩ := planBox_cells (T := 26) (p := p) (ve := ve) (w := w) hb1
    go_wp2_with (go_at_call 52; refine (l01In_any _ _ _ _).mono ?_; rintro e w' ⟨rfl, rfl⟩)
    go_ret
    exact ⟨ret_bool H.out.symm, hbw⟩
  obtain ⟨a0, a1⟩ := inB_iff.1 h1
  obtain ⟨b0, b1⟩ := inB_iff.1 h2
  obtain ⟨x, rfl⟩ := Int.eq_ofNat_of_zero_le a0
  obtain ⟨y, rfl⟩ := Int.eq_ofNat_of_zero_le b0
  have hx : (x : Int) < p.tasks := by omega
  have hxT : x < p.tasks.toNat := by omega
  have hyT : y < p.tasks.toNat := by omega
  have H := Lib.hid (reachB_iff HF.out hxT hyT)
  unfold planV
  go_enter Try.func63, Try.ntmps63
  go_wp2_with fail
  refine (specPlanFault_any p ve _ hl ((h.below hb0).more hb0.size)).mono ?_
  rintro e w1 ⟨rfl, hb1⟩
  obtain ⟨x0, x1, x2, x3, x4, hs, hbw⟩ := planBox_cells (T := 26) (p := p) (ve := ve) (w := w) hb1
  go_wp2_with (go_at_call 52; refine (l01In_any _ _ _ _).mono ?_; rintro e w' ⟨rfl, rfl⟩)
  clear x0 x1 x2 x3 x4
  refine (from_any p ve x _ G0.out.1 G0.out.2.1 hx ((h.below hbw).more hbw.size)).mono ?_
  rintro e w2 ⟨v, O, rfl, o2, hb2, lO, hO⟩
  have hbw2 := bnext hbw hb2
  have hyO : y < O.length := by omega
  have HO := Lib.hid (hO y)
  have LO := Lib.hid lO
  have hyI : (y : Int) < (O.length : Int) := by omega
  clear hO lO
  rcases o2.form with ⟨_, e0⟩ | ⟨g, cap, rfl, _, hgl, _, _, _, _⟩
  · exfalso
    rw [e0] at hyO
    simp at hyO
  have ck := o2.bool hyO
  have hg := Lib.hid (show O.getD y false = O[y] by rw [List.getD_eq_getElem?_getD, List.getElem?_eq_getElem hyO]; rfl)
  go_wp2
  go_ret
  refine ⟨ret_bool ?_, hbw2⟩
  rw [Bool.eq_iff_iff, H.out, ← HO.out, hg.out]
end Go.Proofs.Ytnaicippgocdfaa
end
section
namespace Go.Proofs.Ytnaicippgocdfaa
open Go.RowKit
set_option maxRecDepth 100000
set_option maxHeartbeats 1000000

/-- the same tasks wait for the same tasks -/
def SameReach (p q : Plan) : Prop := ∀ a b : Nat, a < p.tasks.toNat → b < p.tasks.toNat → (Pg.Reach (esOf p) a b ↔ Pg.Reach (esOf q) a b)
open Classical in
noncomputable def sameOrder (p q : Plan) : Bool := decide (planFault p = 0 ∧ planFault q = 0 ∧ p.tasks = q.tasks ∧ SameReach p q)
theorem sameOrder_iff {p q : Plan} : sameOrder p q = true ↔ planFault p = 0 ∧ planFault q = 0 ∧ p.tasks = q.tasks ∧ SameReach p q := by
  simp [sameOrder]
theorem sameOrder_no {p q : Plan} (h : ¬ (planFault p = 0 ∧ planFault q = 0 ∧ p.tasks = q.tasks ∧ SameReach p q)) : sameOrder p q = false := by
  cases hs : sameOrder p q
  · rfl
  · exact absurd (sameOrder_iff.1 hs) h

theorem implSameOrder_any (p : Plan) (ve : Value) (q : Plan) (vf : Value) (w : World) (hl : p.edges.length ≤ 2000000) (hl' : q.edges.length ≤ 2000000) (h : Rd edgeE w w.heap.size ve p.edges) (h' : Rd edgeE w w.heap.size vf q.edges) :
    Calls Try.prog 26 #[planV p ve, planV q vf] w fun e w' => e = .returned (.bool (sameOrder p q)) ∧ Below w.heap.size w w' := by
  obtain ⟨D0, E0, hb0⟩ := twoBox_at 26 p ve q vf w
  by_cases hf : planFault p = 0
  case neg =>
    have hfb : (planFault p != 0) = true := by simp [hf]
    have H := Lib.hid (sameOrder_no (p := p) (q := q) (fun x => hf x.1))
    clear hf
    unfold planV
    go_enter Try.func26, Try.ntmps26
    go_wp2_with fail
    refine (implPlanFault_any p ve _ hl ((h.below hb0).more hb0.size)).mono ?_
    rintro e w1 ⟨rfl, hb1⟩
    go_wp2
    go_ret
    exact ⟨ret_bool H.out.symm, bnext hb0 hb1⟩
  have hfb : (planFault p != 0) = false := by simp [hf]
  by_cases hg : planFault q = 0
  case neg =>
    have hgb : (planFault q != 0) = true := by simp [hg]
    have H := Lib.hid (sameOrder_no (p := p) (q := q) (fun x => hg x.2.1))
    clear hf hg
    unfold planV
    go_enter Try.func26, Try.ntmps26
    go_wp2_with fail
    refine (implPlanFault_any p ve _ hl ((h.below hb0).more hb0.size)).mono ?_
    rintro e w1 ⟨rfl, hb1⟩
    have hbw := bnext hb0 hb1
    obtain ⟨x0, x1, x2, x3, x4, xs⟩ := (E0.below hb1).cells
    go_wp2_with fail
    clear x0 x1 x2 x3 x4 xs
    refine (implPlanFault_any q vf _ hl' ((h'.below hbw).more hbw.size)).mono ?_
    rintro e w2 ⟨rfl, hb2⟩
    go_wp2
    go_ret
    exact ⟨ret_bool H.out.symm, bnext hbw hb2⟩
  have hgb : (planFault q != 0) = false := by simp [hg]
  by_cases ht : p.tasks = q.tasks
  case neg =>
    have htb : (p.tasks != q.tasks) = true := by simp [ht]
    have H := Lib.hid (sameOrder_no (p := p) (q := q) (fun x => ht x.2.2.1))
    clear hf hg ht
    unfold planV
    go_enter Try.func26, Try.ntmps26
    go_wp2_with fail
    refine (implPlanFault_any p ve _ hl ((h.below hb0).more hb0.size)).mono ?_
    rintro e w1 ⟨rfl, hb1⟩
    have hbw := bnext hb0 hb1
    obtain ⟨x0, x1, x2, x3, x4, xs⟩ := (E0.below hb1).cells
    go_wp2_with fail
    clear x0 x1 x2 x3 x4 xs
    refine (implPlanFault_any q vf _ hl' ((h'.below hbw).more hbw.size)).mono ?_
    rintro e w2 ⟨rfl, hb2⟩
    obtain ⟨x0, x1, x2, x3, x4, xs⟩ := ((E0.below hb1).below hb2).cells
    obtain ⟨y0, y1, y2, y3, y4, ys⟩ := ((D0.below hb1).below hb2).cells
    go_wp2
    go_ret
    exact ⟨ret_bool H.out.symm, bnext hbw hb2⟩
  have htb : (p.tasks != q.tasks) = false := by simp [ht]
  obtain ⟨t1, t2⟩ := manyOk_tasks (planFault_zero.1 hf).1
  obtain ⟨T, hT⟩ := Int.eq_ofNat_of_zero_le (show 0 ≤ p.tasks by omega)
  have hT2 : T ≤ 12 := by omega
  have HF := Lib.hid hf
  have HG := Lib.hid hg
  have HQ := Lib.hid ht
  have HT := Lib.hid hT
  clear hf hg ht hT
  unfold planV
  go_enter Try.func26, Try.ntmps26
  go_wp2_with fail
  refine (implPlanFault_any p ve _ hl ((h.below hb0).more hb0.size)).mono ?_
  rintro e w1 ⟨rfl, hb1⟩
  have hbw := bnext hb0 hb1
  obtain ⟨x0, x1, x2, x3, x4, xs⟩ := (E0.below hb1).cells
  go_wp2_with fail
  clear x0 x1 x2 x3 x4 xs
  refine (implPlanFault_any q vf _ hl' ((h'.below hbw).more hbw.size)).mono ?_
  rintro e w2 ⟨rfl, hb2⟩
  have hbw := bnext hbw hb2
  have D := (D0.below hb1).below hb2
  have E := (E0.below hb1).below hb2
  obtain ⟨x0, x1, x2, x3, x4, xs⟩ := E.cells
  obtain ⟨y0, y1, y2, y3, y4, ys⟩ := D.cells
  clear hb1 hb2 hb0 D0 E0
  go_wp2
  clear x0 x1 x2 x3 x4 xs y0 y1 y2 y3 y4 ys
  go_loopw [5] (fun i wr => ∃ k : Nat, k ≤ T ∧ i = .int .i64 k ∧ Hid (∀ x y : Nat, x < k → y < T → reachB p x y = reachB q x y) ∧ BoxAt w.heap.size p ve wr ∧ BoxAt (w.heap.size + 1) q vf wr ∧ Below w.heap.size w wr) (fun i _ => T - (intOf i).toNat)
  case atStart => exact ⟨0, Nat.zero_le _, rfl, fun x y hx => absurd hx (by omega), D, E, hbw⟩
  case round =>
    clear D E hbw
    obtain ⟨k, hk, rfl, hok, D, E, hb⟩ := hrel
    obtain ⟨y0, y1, y2, y3, y4, ys⟩ := D.cells
    by_cases hlt : k < T
    · have hltI : (k : Int) < p.tasks := by rw [HT.out]; omega
      obtain ⟨wo, rfl⟩ : ∃ wo : World, wo = wr := ⟨_, rfl⟩
      go_wp2
      clear y0 y1 y2 y3 y4 ys
      go_loopw [6] (fun i wr => ∃ j : Nat, j ≤ T ∧ i = .int .i64 j ∧ Hid (∀ y : Nat, y < j → reachB p k y = reachB q k y) ∧ BoxAt w.heap.size p ve wr ∧ BoxAt (w.heap.size + 1) q vf wr ∧ Below w.heap.size w wr) (fun i _ => T - (intOf i).toNat)
      case atStart => exact ⟨0, Nat.zero_le _, rfl, fun y hy => absurd hy (by omega), D, E, hb⟩
      case round =>
        clear D E hb
        obtain ⟨j, hj, rfl, hok2, D, E, hb⟩ := hrel
        obtain ⟨y0, y1, y2, y3, y4, ys⟩ := D.cells
        obtain ⟨x0, x1, x2, x3, x4, xs⟩ := E.cells
        by_cases hjt : j < T
        · have hjtI : (j : Int) < p.tasks := by rw [HT.out]; omega
          cases hr : reachB p k j == reachB q k j
          · have H := Lib.hid (sameOrder_no (p := p) (q := q) (fun x => by
              have h1 := reachB_iff HF.out (a := k) (b := j) (by rw [HT.out]; omega) (by rw [HT.out]; omega)
              have h2 := reachB_iff HG.out (a := k) (b := j) (by rw [← HQ.out, HT.out]; omega) (by rw [← HQ.out, HT.out]; omega)
              have h3 := x.2.2.2 k j (by rw [HT.out]; omega) (by rw [HT.out]; omega)
              have : reachB p k j = reachB q k j := by rw [Bool.eq_iff_iff, h1, h2]; exact h3
              rw [this] at hr
              simp at hr))
            have hrr : Hid (reachB p k j = true ∧ reachB q k j = false) ∨ Hid (reachB p k j = false ∧ reachB q k j = true) := by
              cases h1 : reachB p k j <;> cases h2 : reachB q k j <;> simp_all [Hid]
            clear hr
            rcases hrr with hr | hr
            all_goals
              go_wp2
              have hlc := later_cell wr
              refine wp_region_pure (by kernel_rfl) (by kernel_rfl) ?_
              repeat (go_big_quiet_step ((first
                | (go_at_call 32; rename_i x; have h1 := implReaches_any p ve k j x.1 hl ((h.below (bnext hb x.2)).more (bnext hb x.2).size); rw [hr.out.1] at h1; unfold planV at h1; with_reducible exact pure_of h1)
                | (go_at_call 32; rename_i x; have h1 := implReaches_any q vf k j x.1 hl' ((h'.below (bnext hb x.2)).more (bnext hb x.2).size); rw [hr.out.2] at h1; unfold planV at h1; with_reducible exact pure_of h1))))
              refine wpQuiet_nil ?_
              rintro _ ⟨⟨w3, hb3⟩, rfl⟩
              clear hlc
              go_wp2
              go_ret
              exact ⟨ret_bool H.out.symm, bnext hb hb3⟩
          · have S : Hid (∀ y : Nat, y < j + 1 → reachB p k y = reachB q k y) := by
              intro y hy
              by_cases e : y = j
              · subst e; simpa using hr
              · exact hok2.out y (by omega)
            obtain ⟨r, hr1, hr2⟩ : ∃ r, Hid (reachB p k j = r) ∧ Hid (reachB q k j = r) := ⟨_, rfl, (eq_of_beq hr).symm⟩
            clear hr
            go_wp2
            have hlc := later_cell wr
            refine wp_region_pure (by kernel_rfl) (by kernel_rfl) ?_
            repeat (go_big_quiet_step ((first
              | (go_at_call 32; rename_i x; have h1 := implReaches_any p ve k j x.1 hl ((h.below (bnext hb x.2)).more (bnext hb x.2).size); rw [hr1.out] at h1; unfold planV at h1; with_reducible exact pure_of h1)
              | (go_at_call 32; rename_i x; have h1 := implReaches_any q vf k j x.1 hl' ((h'.below (bnext hb x.2)).more (bnext hb x.2).size); rw [hr2.out] at h1; unfold planV at h1; with_reducible exact pure_of h1))))
            refine wpQuiet_nil ?_
            rintro _ ⟨⟨w3, hb3⟩, rfl⟩
            clear hlc
            go_wp2
            exact ⟨⟨j + 1, by omega, by go_num, S, D.below hb3, E.below hb3, bnext hb hb3⟩, by simp [intOf]; omega⟩
        · have hjtI : ¬ (j : Int) < p.tasks := by rw [HT.out]; omega
          have S : Hid (∀ x y : Nat, x < k + 1 → y < T → reachB p x y = reachB q x y) := by
            intro x y hx hy
            by_cases e : x = k
            · subst e; exact hok2.out y (by omega)
            · exact hok.out x y (by omega) hy
          go_wp2
          exact ⟨⟨k + 1, by omega, by go_num, S, D, E, hb⟩, by simp [intOf]; omega⟩
    · have hltI : ¬ (k : Int) < p.tasks := by rw [HT.out]; omega
      have H : Hid (sameOrder p q = true) := sameOrder_iff.2 ⟨HF.out, HG.out, HQ.out, fun a b ha hb' => by
        have h1 := reachB_iff HF.out ha hb'
        have h2 := reachB_iff HG.out (a := a) (b := b) (by rw [← HQ.out]; exact ha) (by rw [← HQ.out]; exact hb')
        rw [HT.out] at ha hb'
        rw [← h1, ← h2, hok.out a b (by omega) (by omega)]⟩
      go_wp2
      go_ret
      exact ⟨ret_bool H.out.symm, hb⟩
end Go.Proofs.Ytnaicippgocdfaa
end
section
namespace Go.Proofs.Ytnaicippgocdfaa
open Go.RowKit
set_option maxRecDepth 100000
set_option maxHeartbeats 1000000
set_option linter.unusedVariables false

/-- a byte in a cell -/
def byteE : Enc UInt8 := { cells := fun x => [.int .u8 (x.toNat : Int)], sz := 1, len := fun _ => rfl, one := fun _ u hu => by simp at hu; subst hu; rfl }
/-- the cursor of a draw -/
structure Cur where
  i : Nat
  h : Int
abbrev curCells (v : Value) (c : Cur) : List Value := [v, .int .i64 (c.i : Int), .int .i64 c.h]
/-- block b is the cursor c over the bytes code -/
structure Drw (b : Nat) (v : Value) (code : List UInt8) (c : Cur) (w : World) : Prop where
  box : DBox b (curCells v c) w
  rd : Rd byteE w b v code
  small : code.length ≤ 1048576
  le : c.i ≤ code.length
/-- what a draw leaves -/
def DrP (b : Nat) (v : Value) (code : List UInt8) (r : Value) (c' : Cur) (w : World) (e : Ending) (w' : World) : Prop := e = .returned r ∧ Drw b v code c' w' ∧ Chg [b] w w'

theorem Rd.byte {w : World} {B : Nat} {A : Option Addr} {n c : Nat} {l : List UInt8} (h : Rd byteE w B (.slice A n c) l) {k : Nat} (hk : k < l.length) :
    ∃ b o, A = some ⟨b, o, none⟩ ∧ b < B ∧ w.cell? ⟨b, o + k, none⟩ = some (.int .u8 (l[k].toNat : Int)) := by
  obtain ⟨A', c', hv, _, hA⟩ := h
  obtain ⟨b, o, hA', hb, hc⟩ := hA (by omega)
  simp only [Value.slice.injEq] at hv
  obtain ⟨rfl, _, _⟩ := hv
  exact ⟨b, o, hA', hb, by simpa [byteE] using hc k hk 0 _ rfl⟩
theorem and_255 (a : Int) : 0 ≤ bits .and .i64 a 255 ∧ bits .and .i64 a 255 ≤ 255 := by
  show 0 ≤ IntKind.i64.wrap ((BitVec.ofInt 64 a &&& BitVec.ofInt 64 255).toNat : Int) ∧ IntKind.i64.wrap ((BitVec.ofInt 64 a &&& BitVec.ofInt 64 255).toNat : Int) ≤ 255
  have h : (BitVec.ofInt 64 a &&& BitVec.ofInt 64 255).toNat ≤ 255 := by
    rw [BitVec.toNat_and]
    exact Nat.and_le_right
  rw [IntKind.wrap_i64]
  omega
def mixH (h : Int) : Int := wrap64 (wrap64 (h * 6364136223846793005) + 1442695040888963407)
def xorH (h : Int) : Int := bits .and .i64 (bits .xor .i64 (h / 8589934592) (h / 35184372088832)) 255
def curByte (code : List UInt8) (c : Cur) : Int × Cur :=
  if h : c.i < code.length then (bits .and .i64 (xorH (mixH c.h) + (code[c.i].toNat : Int)) 255, ⟨c.i + 1, mixH c.h⟩) else (xorH (mixH c.h), ⟨c.i, mixH c.h⟩)
theorem curByte_bd (code : List UInt8) (c : Cur) : 0 ≤ (curByte code c).1 ∧ (curByte code c).1 ≤ 255 := by
  unfold curByte
  split
  · exact and_255 _
  · exact and_255 _
theorem Drw.chg {b : Nat} {v : Value} {code : List UInt8} {c : Cur} {w w' : World} {F : List Nat} (h : Drw b v code c w) (hc : Chg F w w') (hF : ∀ x ∈ F, b < x) : Drw b v code c w' :=
  ⟨h.box.chg hc (fun hm => by have := hF _ hm; omega), h.rd.keep (fun p hp => hc.cell (Nat.lt_trans hp h.box.lt) (fun hm => by have := hF _ hm; omega)), h.small, h.le⟩
theorem Drw.below {b : Nat} {v : Value} {code : List UInt8} {c : Cur} {w w' : World} (h : Drw b v code c w) (hb : Below w.heap.size w w') : Drw b v code c w' :=
  h.chg (Chg.of_below [] hb) (fun x hx => by cases hx)
theorem Drw.step {b : Nat} {v : Value} {code : List UInt8} {c c' : Cur} {w w' : World} (h : Drw b v code c w) (hb : DBox b (curCells v c') w') (hc : Chg [b] w w') (hl : c'.i ≤ code.length) : Drw b v code c' w' :=
  ⟨hb, h.rd.keep (fun p hp => hc.cell (Nat.lt_trans hp h.box.lt) (fun hm => by have : p.block = b := by simpa using hm
                                                                               omega)), h.small, hl⟩

theorem DBox.drewN {b : Nat} {cs : List Value} {w : World} (h : DBox b cs w) (n : Nat) : DBox b cs (w.drewN n) := ⟨h.cell, h.free, h.lt⟩
theorem Chg.drewN {F : List Nat} {a w : World} (h : Chg F a w) (n : Nat) : Chg F a (w.drewN n) := ⟨h.os, h.tape, h.output, h.size, h.block⟩
theorem DBox.put1 {b : Nat} {x i y u : Value} {w : World} (h : DBox b [x, i, y] w) : DBox b [x, u, y] (w.setCell ⟨b, 1, none⟩ u) := h.put 1 (by simp) u
theorem DBox.put2 {b : Nat} {x i y u : Value} {w : World} (h : DBox b [x, i, y] w) : DBox b [x, i, u] (w.setCell ⟨b, 2, none⟩ u) := h.put 2 (by simp) u
theorem Chg.setOwn {b o : Nat} {a w : World} {u : Value} (h : Chg [b] a w) : Chg [b] a (w.setCell ⟨b, o, none⟩ u) := h.trans (Chg.setCell w b o u)
theorem ret_val {a b : Value} (h : a = b) : Ending.returned a = .returned b := by rw [h]

theorem byte_any (b : Nat) (v : Value) (code : List UInt8) (c : Cur) (w : World) (h : Drw b v code c w) :
    Calls Try.prog 70 #[.pointer (some ⟨b, 0, none⟩)] w (DrP b v code (.int .i64 (curByte code c).1) (curByte code c).2 w) := by
  obtain ⟨A, cap, rfl, -⟩ := id h.rd
  have c0 := h.box.cell 0 _ rfl
  have c1 := h.box.cell 1 _ rfl
  have c2 := h.box.cell 2 _ rfl
  have cf := h.box.free
  have cl := h.box.lt
  have hs := h.small
  by_cases hlt : c.i < code.length
  · obtain ⟨g, o, rfl, hg, d0⟩ := h.rd.byte hlt
    have i1 : (c.i : Int) < (code.length : Int) := by omega
    have i0 : (0 : Int) ≤ (c.i : Int) := by omega
    have hne : ¬ g = b := by omega
    have hx := and_255 (bits .xor .i64 (wrap64 (wrap64 (c.h * 6364136223846793005) + 1442695040888963407) / 8589934592) (wrap64 (wrap64 (c.h * 6364136223846793005) + 1442695040888963407) / 35184372088832))
    have hy : (code[c.i].toNat : Int) ≤ 255 := by have := code[c.i].toNat_lt; omega
    go_enter Try.func70, Try.ntmps70
    go_wp2
    go_quiet (fail)
    go_wp2
    go_quiet (fail)
    go_wp2
    go_quiet (fail)
    go_wp2
    go_ret
    have e1 : curByte code c = (bits .and .i64 (xorH (mixH c.h) + (code[c.i].toNat : Int)) 255, ⟨c.i + 1, mixH c.h⟩) := by unfold curByte; rw [dif_pos hlt]
    rw [e1]
    refine ⟨rfl, h.step ?_ ?_ (by simp only; omega), ?_⟩
    · have e2 : curCells (Value.slice (some ⟨g, o, none⟩) code.length cap) ⟨c.i + 1, mixH c.h⟩ = [Value.slice (some ⟨g, o, none⟩) code.length cap, .int .i64 ((c.i : Int) + 1), .int .i64 (mixH c.h)] := by simp [curCells]
      show DBox b (curCells (Value.slice (some ⟨g, o, none⟩) code.length cap) ⟨c.i + 1, mixH c.h⟩) _
      rw [e2]
      repeat (first | exact h.box | refine DBox.drewN ?_ _ | apply DBox.put1 | apply DBox.put2)
    all_goals repeat (first | exact Chg.refl _ _ | refine Chg.drewN ?_ _ | refine Chg.setOwn ?_)
  · have hle := h.le
    have hq : decide ((c.i : Int) < (code.length : Int)) = false := by simp; omega
    go_enter Try.func70, Try.ntmps70
    go_wp2
    go_quiet (fail)
    go_wp2
    go_quiet (fail)
    go_wp2
    go_ret
    have e1 : curByte code c = (xorH (mixH c.h), ⟨c.i, mixH c.h⟩) := by unfold curByte; rw [dif_neg hlt]
    rw [e1]
    refine ⟨rfl, h.step ?_ ?_ hle, ?_⟩
    · show DBox b [_, .int .i64 (c.i : Int), .int .i64 (mixH c.h)] _
      repeat (first | exact h.box | refine DBox.drewN ?_ _ | apply DBox.put1 | apply DBox.put2)
    all_goals repeat (first | exact Chg.refl _ _ | refine Chg.drewN ?_ _ | refine Chg.setOwn ?_)

/-! the cursor at its start -/
theorem and_m30 (a : Int) : 0 ≤ bits .and .i64 a 1073741823 ∧ bits .and .i64 a 1073741823 ≤ 1073741823 := by
  show 0 ≤ IntKind.i64.wrap ((BitVec.ofInt 64 a &&& BitVec.ofInt 64 1073741823).toNat : Int) ∧ IntKind.i64.wrap ((BitVec.ofInt 64 a &&& BitVec.ofInt 64 1073741823).toNat : Int) ≤ 1073741823
  have h : (BitVec.ofInt 64 a &&& BitVec.ofInt 64 1073741823).toNat ≤ 1073741823 := by
    rw [BitVec.toNat_and]
    exact Nat.and_le_right
  rw [IntKind.wrap_i64]
  omega
def newH (code : List UInt8) : Nat → Int
  | 0 => 94701 + code.length
  | k + 1 => bits .and .i64 (newH code k * 131 + ((code.getD k 0).toNat : Int) + 7) 1073741823
theorem newH_bd (code : List UInt8) (hs : code.length ≤ 1048576) : ∀ k, 0 ≤ newH code k ∧ newH code k ≤ 1073741823
  | 0 => by unfold newH; omega
  | k + 1 => and_m30 _
theorem newH_succ (code : List UInt8) {k : Nat} (h : k < code.length) : newH code (k + 1) = bits .and .i64 (newH code k * 131 + (code[k].toNat : Int) + 7) 1073741823 := by
  rw [newH, List.getD_eq_getElem?_getD, List.getElem?_eq_getElem h]
  rfl
def curNew (code : List UInt8) : Cur := ⟨0, newH code (min code.length 4000)⟩
def NewP (v : Value) (code : List UInt8) (w : World) (e : Ending) (w' : World) : Prop := ∃ g, e = .returned (.pointer (some ⟨g, 0, none⟩)) ∧ g = w.heap.size ∧ Drw g v code (curNew code) w' ∧ Below w.heap.size w w'
theorem new_any (v : Value) (code : List UInt8) (w : World) (hs : code.length ≤ 1048576) (h : Rd byteE w w.heap.size v code) :
    Calls Try.prog 45 #[v] w (NewP v code w) := by
  obtain ⟨A, cap, rfl, -⟩ := id h
  go_enter Try.func45, Try.ntmps45
  go_wp2
  go_loop [3, 4] (fun x i => ∃ k : Nat, k ≤ min code.length 4000 ∧ i = .int .i64 k ∧ x = .int .i64 (newH code k)) (fun _ i => code.length - (intOf i).toNat)
  case atStart => exact ⟨0, Nat.zero_le _, rfl, rfl⟩
  case round =>
    obtain ⟨k, hk, rfl, rfl⟩ := hrel
    have hx := newH_bd code hs k
    by_cases hlt : k < min code.length 4000
    · have hl : k < code.length := by omega
      obtain ⟨g, o, rfl, hg, d0⟩ := h.byte hl
      have i1 : (k : Int) < (code.length : Int) := by omega
      have i2 : (k : Int) < 4000 := by omega
      have hy : (code[k].toNat : Int) ≤ 255 := by have := code[k].toNat_lt; omega
      have H := Lib.hid (newH_succ code hl)
      go_wp2
      go_round
      case rel => exact ⟨k + 1, by omega, by go_num, by rw [H.out]⟩
      case measure => simp [intOf]; omega
    · have hke := Lib.hid (show k = min code.length 4000 by omega)
      by_cases h4 : k < 4000
      · have i1 : ¬ (k : Int) < (code.length : Int) := by omega
        go_wp2
        go_ret
        refine ⟨w.heap.size, rfl, rfl, ⟨?_, ?_, hs, Nat.zero_le _⟩, (Below.refl _ _).alloc (Nat.le_refl _) _⟩
        · have e : curNew code = ⟨0, newH code k⟩ := by unfold curNew; rw [← hke.out]
          rw [e]
          exact DBox.new _ _ _ rfl
        · exact h.keep (fun p hp => ((Below.refl w.heap.size w).alloc (Nat.le_refl _) _).cell hp)
      · have hk4 : k = 4000 := by omega
        clear hlt h4
        subst hk4
        have hx0 := newH_bd code hs 4000
        clear hx
        by_cases h5 : 4000 < code.length
        · have i2 : (4000 : Int) < (code.length : Int) := by omega
          go_wp2
          go_ret
          refine ⟨w.heap.size, rfl, rfl, ⟨?_, ?_, hs, Nat.zero_le _⟩, (Below.refl _ _).alloc (Nat.le_refl _) _⟩
          · have e : curNew code = ⟨0, newH code 4000⟩ := by unfold curNew; rw [← hke.out]
            rw [e]
            exact DBox.new _ _ _ rfl
          · exact h.keep (fun p hp => ((Below.refl w.heap.size w).alloc (Nat.le_refl _) _).cell hp)
        · have i2 : ¬ (4000 : Int) < (code.length : Int) := by omega
          go_wp2
          go_ret
          refine ⟨w.heap.size, rfl, rfl, ⟨?_, ?_, hs, Nat.zero_le _⟩, (Below.refl _ _).alloc (Nat.le_refl _) _⟩
          · have e : curNew code = ⟨0, newH code 4000⟩ := by unfold curNew; rw [← hke.out]
            rw [e]
            exact DBox.new _ _ _ rfl
          · exact h.keep (fun p hp => ((Below.refl w.heap.size w).alloc (Nat.le_refl _) _).cell hp)

/-! a number below another one -/
def curBelow (code : List UInt8) (n : Int) (c : Cur) : Int × Cur :=
  if n ≤ 0 then (0, c) else if n ≤ 256 then ((curByte code c).1 % n, (curByte code c).2) else
    let a := curByte code c
    let b := curByte code a.2
    let d := curByte code b.2
    let e := curByte code d.2
    ((a.1 * 16777216 + b.1 * 65536 + d.1 * 256 + e.1) % n, e.2)
theorem curBelow_bd (code : List UInt8) {n : Int} (c : Cur) (h : 0 < n) : 0 ≤ (curBelow code n c).1 ∧ (curBelow code n c).1 < n := by
  unfold curBelow
  rw [if_neg (by omega)]
  split
  · exact ⟨Int.emod_nonneg _ (by omega), Int.emod_lt_of_pos _ h⟩
  · exact ⟨Int.emod_nonneg _ (by omega), Int.emod_lt_of_pos _ h⟩
theorem DrP.next {b : Nat} {v : Value} {code : List UInt8} {r : Value} {c' : Cur} {w w1 : World} {e : Ending} {w' : World} (hc : Chg [b] w w1) (h : DrP b v code r c' w1 e w') : DrP b v code r c' w e w' := ⟨h.1, h.2.1, hc.trans h.2.2⟩
theorem below_any (n : Int) (b : Nat) (v : Value) (code : List UInt8) (c : Cur) (w : World) (hn : n ≤ 1000000000000) (h : Drw b v code c w) :
    Calls Try.prog 48 #[.pointer (some ⟨b, 0, none⟩), .int .i64 n] w (DrP b v code (.int .i64 (curBelow code n c).1) (curBelow code n c).2 w) := by
  by_cases h0 : n ≤ 0
  · have e : curBelow code n c = (0, c) := by unfold curBelow; rw [if_pos h0]
    have E := Lib.hid e
    clear e
    go_enter Try.func48, Try.ntmps48
    go_wp2
    go_ret
    rw [E.out]
    exact ⟨rfl, h, Chg.refl _ _⟩
  by_cases h1 : n ≤ 256
  · have e : curBelow code n c = ((curByte code c).1 % n, (curByte code c).2) := by unfold curBelow; rw [if_neg h0, if_pos h1]
    have E := Lib.hid e
    clear e
    have hb := curByte_bd code c
    go_enter Try.func48, Try.ntmps48
    go_wp2_with fail
    refine (byte_any b v code c _ h).mono ?_
    rintro e w1 ⟨rfl, h1, c1⟩
    go_wp2
    go_ret
    rw [E.out]
    exact ⟨rfl, h1, c1⟩
  · have e : curBelow code n c = (((curByte code c).1 * 16777216 + (curByte code (curByte code c).2).1 * 65536 + (curByte code (curByte code (curByte code c).2).2).1 * 256 + (curByte code (curByte code (curByte code (curByte code c).2).2).2).1) % n, (curByte code (curByte code (curByte code (curByte code c).2).2).2).2) := by
      unfold curBelow; rw [if_neg h0, if_neg h1]
    have E := Lib.hid e
    clear e
    have b1 := curByte_bd code c
    have b2 := curByte_bd code (curByte code c).2
    have b3 := curByte_bd code (curByte code (curByte code c).2).2
    have b4 := curByte_bd code (curByte code (curByte code (curByte code c).2).2).2
    go_enter Try.func48, Try.ntmps48
    go_wp2_with fail
    refine (byte_any b v code c _ h).mono ?_
    rintro e w1 ⟨rfl, k1, c1⟩
    go_wp2_with fail
    refine (byte_any b v code _ _ k1).mono ?_
    rintro e w2 ⟨rfl, k2, c2⟩
    go_wp2_with fail
    refine (byte_any b v code _ _ k2).mono ?_
    rintro e w3 ⟨rfl, k3, c3⟩
    go_wp2_with fail
    refine (byte_any b v code _ _ k3).mono ?_
    rintro e w4 ⟨rfl, k4, c4⟩
    go_wp2
    go_ret
    rw [E.out]
    exact ⟨rfl, k4, ((c1.trans c2).trans c3).trans c4⟩
/-- one time out of n -/
def curOnce (code : List UInt8) (n : Int) (c : Cur) : Bool × Cur := ((curBelow code n c).1 == 0, (curBelow code n c).2)
theorem once_any (n : Int) (b : Nat) (v : Value) (code : List UInt8) (c : Cur) (w : World) (hn : n ≤ 1000000000000) (h : Drw b v code c w) :
    Calls Try.prog 69 #[.pointer (some ⟨b, 0, none⟩), .int .i64 n] w (DrP b v code (.bool (curOnce code n c).1) (curOnce code n c).2 w) := by
  go_enter Try.func69, Try.ntmps69
  go_wp2_with fail
  refine (below_any n b v code c _ hn h).mono ?_
  rintro e w1 ⟨rfl, h1, c1⟩
  go_wp2
  go_ret
  exact ⟨rfl, h1, c1⟩
end Go.Proofs.Ytnaicippgocdfaa
end
section
namespace Go.Proofs.Ytnaicippgocdfaa
open Go.RowKit
set_option maxRecDepth 100000
set_option maxHeartbeats 1000000

theorem idxOf_any {α : Type} {p : α → Bool} {l : List α} : (0 ≤ idxOf p l) ↔ ∃ x ∈ l, p x = true := by
  unfold idxOf
  cases h : l.findIdx? p with
  | none =>
    rw [List.findIdx?_eq_none_iff] at h
    simp only
    refine ⟨fun h => absurd h (by omega), ?_⟩
    rintro ⟨x, hx, hp⟩
    have := h x hx
    rw [hp] at this
    cases this
  | some i =>
    rw [List.findIdx?_eq_some_iff_getElem] at h
    obtain ⟨hi, hp, _⟩ := h
    simp only
    exact ⟨fun _ => ⟨_, List.getElem_mem hi, hp⟩, fun _ => by omega⟩

theorem indexInt_any (v : Value) (l : List Nat) (x : Nat) (B : Nat) (w : World) (hl : l.length ≤ 2000000) (h : Rd natE w B v l) :
    Calls Try.prog 80 #[v, .int .i64 (x : Int)] w fun e w' => e = .returned (.int .i64 (idxOf (fun y => decide (x = y)) l)) ∧ w = w' := by
  obtain ⟨A, c, rfl, -⟩ := id h
  go_enter Try.func80, Try.ntmps80
  go_wp2
  go_loop [8] (fun i => ∃ k : Nat, k ≤ l.length ∧ i = .int .i64 k ∧ Hid (∀ j (hj : j < k) (hj' : j < l.length), decide (x = l[j]) = false)) (fun i => l.length - (intOf i).toNat)
  case atStart => exact ⟨0, Nat.zero_le _, rfl, fun j hj => absurd hj (by omega)⟩
  case round =>
    obtain ⟨k, hk, rfl, hno⟩ := hrel
    by_cases hlt : k < l.length
    · obtain ⟨b, o, rfl, hbb, c0⟩ := h.nat hlt
      have hltI : (k : Int) < (l.length : Int) := by omega
      by_cases hx : x = l[k]
      · have H := Lib.hid (idxOf_found (p := fun y => decide (x = y)) hlt (fun j hj => hno.out j hj (by omega)) (show decide (x = l[k]) = true by simp [hx]))
        have hxb : ((x : Int) == (l[k] : Int)) = true := by simp [hx]
        clear hx
        go_wp2
        go_ret
        exact ⟨ret_int (by rw [H.out]), rfl⟩
      · have hxb : ((x : Int) == (l[k] : Int)) = false := beq_eq_false_iff_ne.2 (by omega)
        have S : Hid (∀ j (hj : j < k + 1) (hj' : j < l.length), decide (x = l[j]) = false) := by
          intro j hj hj'
          by_cases e : j = k
          · subst e; simpa using hx
          · exact hno.out j (by omega) hj'
        clear hx
        go_wp2
        exact ⟨⟨k + 1, by omega, by go_num, S⟩, by simp [intOf]; omega⟩
    · have hltI : ¬ (k : Int) < (l.length : Int) := by omega
      have H := Lib.hid (idxOf_none (p := fun y => decide (x = y)) (l := l) (fun j hj => hno.out j (by omega) hj))
      go_wp2
      go_ret
      exact ⟨ret_int (by rw [H.out]), rfl⟩

theorem containsInt_any (v : Value) (l : List Nat) (x : Nat) (B : Nat) (w : World) (hl : l.length ≤ 2000000) (h : Rd natE w B v l) :
    Calls Try.prog 75 #[v, .int .i64 (x : Int)] w fun e w' => e = .returned (.bool (decide (x ∈ l))) ∧ w = w' := by
  have H := Lib.hid (show decide (0 ≤ idxOf (fun y => decide (x = y)) l) = decide (x ∈ l) from decide_eq_decide.2 (idxOf_any.trans (by simp)))
  go_enter Try.func75, Try.ntmps75
  go_wp2_with fail
  refine (indexInt_any v l x B _ hl h).mono ?_
  rintro e w1 ⟨rfl, rfl⟩
  go_wp2_with fail
  go_ret
  exact ⟨ret_bool (by rw [← H.out]), rfl⟩

theorem allIn1_any (x : Nat) (q B : Nat) (vl : Value) (l : List Nat) (w : World) (hl : l.length ≤ 2000000) (hq : w.cell? ⟨q, 0, none⟩ = some vl) (h : Rd natE w B vl l) :
    Calls Try.prog 82 #[.int .i64 (x : Int), .pointer (some ⟨q, 0, none⟩)] w fun e w' => e = .returned (.bool (!decide (x ∈ l))) ∧ w = w' := by
  obtain ⟨A, c, rfl, -⟩ := id h
  go_enter Try.func82, Try.ntmps82
  go_wp2_with fail
  refine (containsInt_any _ l x B _ hl h).mono ?_
  rintro e w1 ⟨rfl, rfl⟩
  go_wp2_with fail
  go_ret
  exact ⟨rfl, rfl⟩

theorem indexFuncAll_any (v : Value) (s : List Nat) (q B B' : Nat) (vl : Value) (l : List Nat) (w : World) (hl : l.length ≤ 2000000) (hs : s.length ≤ 2000000) (h : Rd natE w B v s) (hq : w.cell? ⟨q, 0, none⟩ = some vl) (h' : Rd natE w B' vl l) :
    Calls Try.prog 94 #[v, .func (.func 82) #[] #[.pointer (some ⟨q, 0, none⟩)]] w
      fun e w' => e = .returned (.int .i64 (idxOf (fun x => !decide (x ∈ l)) s)) ∧ w = w' := by
  obtain ⟨A, c, rfl, -⟩ := id h
  go_enter Try.func94, Try.ntmps94
  go_wp2
  go_loop [8] (fun i => ∃ k : Nat, k ≤ s.length ∧ i = .int .i64 k ∧ Hid (∀ j (hj : j < k) (hj' : j < s.length), (!decide (s[j] ∈ l)) = false)) (fun i => s.length - (intOf i).toNat)
  case atStart => exact ⟨0, Nat.zero_le _, rfl, fun j hj => absurd hj (by omega)⟩
  case round =>
    obtain ⟨k, hk, rfl, hno⟩ := hrel
    by_cases hlt : k < s.length
    · obtain ⟨b, o, rfl, hbb, c0⟩ := h.nat hlt
      have hltI : (k : Int) < (s.length : Int) := by omega
      cases t1 : !decide (s[k] ∈ l)
      · have S : Hid (∀ j (hj : j < k + 1) (hj' : j < s.length), (!decide (s[j] ∈ l)) = false) := by
          intro j hj hj'
          by_cases e : j = k
          · subst e; exact t1
          · exact hno.out j (by omega) hj'
        have T1 := Lib.hid t1
        clear t1
        go_wp2_with (go_at_call 82; refine (allIn1_any s[k] q B' vl l _ hl hq h').mono ?_; rintro e w1 ⟨rfl, rfl⟩; rw [T1.out])
        exact ⟨⟨k + 1, by omega, by go_num, S⟩, by simp [intOf]; omega⟩
      · have H := Lib.hid (idxOf_found (p := fun x => !decide (x ∈ l)) hlt (fun j hj => hno.out j hj (by omega)) t1)
        have T1 := Lib.hid t1
        clear t1
        go_wp2_with (go_at_call 82; refine (allIn1_any s[k] q B' vl l _ hl hq h').mono ?_; rintro e w1 ⟨rfl, rfl⟩; rw [T1.out])
        go_ret
        exact ⟨ret_int (by rw [H.out]), rfl⟩
    · have hltI : ¬ (k : Int) < (s.length : Int) := by omega
      have H := Lib.hid (idxOf_none (p := fun x => !decide (x ∈ l)) (l := s) (fun j hj => hno.out j (by omega) hj))
      go_wp2
      go_ret
      exact ⟨ret_int (by rw [H.out]), rfl⟩

theorem containsFuncAll_any (v : Value) (s : List Nat) (q B B' : Nat) (vl : Value) (l : List Nat) (w : World) (hl : l.length ≤ 2000000) (hs : s.length ≤ 2000000) (h : Rd natE w B v s) (hq : w.cell? ⟨q, 0, none⟩ = some vl) (h' : Rd natE w B' vl l) :
    Calls Try.prog 81 #[v, .func (.func 82) #[] #[.pointer (some ⟨q, 0, none⟩)]] w
      fun e w' => e = .returned (.bool (!decide (∀ x ∈ s, x ∈ l))) ∧ w = w' := by
  have H := Lib.hid (show decide (0 ≤ idxOf (fun x => !decide (x ∈ l)) s) = !decide (∀ x ∈ s, x ∈ l) by
    rw [← decide_not]
    refine decide_eq_decide.2 (idxOf_any.trans ?_)
    simp only [Bool.not_eq_true', decide_eq_false_iff_not, Classical.not_forall, exists_prop])
  go_enter Try.func81, Try.ntmps81
  go_wp2_with fail
  refine (indexFuncAll_any v s q B B' vl l _ hl hs h hq h').mono ?_
  rintro e w1 ⟨rfl, rfl⟩
  go_wp2_with fail
  go_ret
  exact ⟨ret_bool (by rw [← H.out]), rfl⟩

theorem allIn_any (v : Value) (s : List Nat) (vl : Value) (l : List Nat) (w : World) (hl : l.length ≤ 2000000) (hs : s.length ≤ 2000000) (h : Rd natE w w.heap.size v s) (h' : Rd natE w w.heap.size vl l) :
    Calls Try.prog 76 #[v, vl] w fun e w' => e = .returned (.bool (decide (∀ x ∈ s, x ∈ l))) ∧ Below w.heap.size w w' := by
  obtain ⟨A, c, rfl, -⟩ := id h'
  have hb0 : Below w.heap.size w (w.alloc (.cells #[.slice A l.length c] 27)) := (Below.refl _ _).alloc (Nat.le_refl _) _
  go_enter Try.func76, Try.ntmps76
  go_wp2_with fail
  refine (containsFuncAll_any v s w.heap.size w.heap.size w.heap.size (.slice A l.length c) l _ hl hs (h.below hb0) (by go_simp) (h'.below hb0)).mono ?_
  rintro e w1 ⟨rfl, rfl⟩
  go_wp2_with fail
  go_ret
  exact ⟨ret_bool (by simp), hb0⟩
end Go.Proofs.Ytnaicippgocdfaa
end
section
namespace Go.Proofs.Ytnaicippgocdfaa
open Go.RowKit
set_option maxRecDepth 100000
set_option maxHeartbeats 1000000

open Classical in
noncomputable def workOf (p : Plan) (l : List Int) : Int := if weightsOk p l = true then l.sum else 0

theorem weightsOk_all {p : Plan} {l : List Int} (h : weightsOk p l = true) : planFault p = 0 ∧ (l.length : Int) = p.tasks ∧ ∀ x ∈ l, 1 ≤ x ∧ x ≤ 1000 := by
  simp only [weightsOk, Bool.and_eq_true, decide_eq_true_eq, List.all_eq_true, inB_iff] at h
  exact ⟨h.1.1, h.1.2, h.2⟩
theorem weightsOk_len {p : Plan} {l : List Int} (h : weightsOk p l = true) : l.length ≤ 12 := by
  obtain ⟨h1, h2, _⟩ := weightsOk_all h
  have := manyOk_tasks (planFault_zero.1 h1).1
  omega
theorem sum_bound : ∀ {l : List Int}, (∀ x ∈ l, 1 ≤ x ∧ x ≤ 1000) → 0 ≤ l.sum ∧ l.sum ≤ 1000 * l.length
  | [], _ => by simp
  | a :: l, h => by
    have h1 := h a List.mem_cons_self
    have h2 := sum_bound (l := l) (fun x hx => h x (List.mem_cons_of_mem _ hx))
    simp only [List.sum_cons, List.length_cons]
    omega
theorem sum_take {l : List Int} {k : Nat} (hk : k < l.length) : (l.take (k + 1)).sum = (l.take k).sum + l[k] := by
  rw [take_snoc l k hk, List.sum_append]
  simp

theorem implWorkOf_any (p : Plan) (ve v : Value) (l : List Int) (w : World) (hl : p.edges.length ≤ 2000000) (hl2 : l.length ≤ 2000000) (h : Rd edgeE w w.heap.size ve p.edges) (h2 : Rd intE w w.heap.size v l) :
    Calls Try.prog 44 #[planV p ve, v] w fun e w' => e = .returned (.int .i64 (workOf p l)) ∧ Below w.heap.size w w' := by
  obtain ⟨A, c, rfl, -⟩ := id h2
  have hb0 := planBox_below 26 p ve w
  cases hf : weightsOk p l
  · have H := Lib.hid (show workOf p l = 0 by simp [workOf, hf])
    unfold planV
    go_enter Try.func44, Try.ntmps44
    go_wp2_with fail
    refine (implWeightsOk_any p ve (.slice A l.length c) l _ hl hl2 ((h.below hb0).more hb0.size) ((h2.below hb0).more hb0.size)).mono ?_
    rintro e w1 ⟨rfl, hb1⟩
    rw [hf]
    go_wp2
    go_ret
    exact ⟨ret_int H.out.symm, bnext hb0 hb1⟩
  · have H := Lib.hid (show workOf p l = l.sum by simp [workOf, hf])
    have hall := Lib.hid (weightsOk_all hf)
    have hlen := weightsOk_len hf
    unfold planV
    go_enter Try.func44, Try.ntmps44
    go_wp2_with fail
    refine (implWeightsOk_any p ve (.slice A l.length c) l _ hl hl2 ((h.below hb0).more hb0.size) ((h2.below hb0).more hb0.size)).mono ?_
    rintro e w1 ⟨rfl, hb1⟩
    rw [hf]
    clear hf
    have hbw := bnext hb0 hb1
    go_wp2
    clear hb1
    go_loopw [5, 14] (fun n i wr => ∃ k : Nat, k ≤ l.length ∧ i = .int .i64 k ∧ n = .int .i64 (l.take k).sum ∧ Below w.heap.size w wr) (fun _ i _ => l.length - (intOf i).toNat)
    case atStart => exact ⟨0, Nat.zero_le _, rfl, by simp, hbw⟩
    case round =>
      clear hbw
      obtain ⟨k, hk, rfl, rfl, hb⟩ := hrel
      by_cases hlt : k < l.length
      · obtain ⟨b, o, rfl, hbb, c0⟩ := (h2.below hb).int hlt
        have i1 : (k : Int) < (l.length : Int) := by omega
        have hsum := Lib.hid (sum_take hlt)
        have hs1 := sum_bound (l := l.take k) (fun x hx => hall.out.2.2 x (List.mem_of_mem_take hx))
        have hs2 := hall.out.2.2 l[k] (List.getElem_mem hlt)
        rw [List.length_take, Nat.min_eq_left hk] at hs1
        have hw : IntKind.i64.wrap ((l.take k).sum + l[k]) = (l.take k).sum + l[k] := IntWalk.i64_in _ (by omega)
        clear hs1 hs2
        go_wp2
        exact ⟨⟨k + 1, by omega, by go_num, by rw [hsum.out], hb⟩, by simp [intOf]; omega⟩
      · go_wp2
        go_ret
        refine ⟨ret_int ?_, hb⟩
        rw [H.out, List.take_of_length_le (by omega)]
theorem specWorkOf_any (p : Plan) (ve v : Value) (l : List Int) (w : World) (hl : p.edges.length ≤ 2000000) (hl2 : l.length ≤ 2000000) (h : Rd edgeE w w.heap.size ve p.edges) (h2 : Rd intE w w.heap.size v l) :
    Calls Try.prog 12 #[planV p ve, v] w fun e w' => e = .returned (.int .i64 (workOf p l)) ∧ Below w.heap.size w w' := by
  obtain ⟨A, c, rfl, -⟩ := id h2
  have hb0 := planBox_below 26 p ve w
  cases hf : weightsOk p l
  · have H := Lib.hid (show workOf p l = 0 by simp [workOf, hf])
    unfold planV
    go_enter Try.func12, Try.ntmps12
    go_wp2_with fail
    refine (specWeightsOk_any p ve (.slice A l.length c) l _ hl hl2 ((h.below hb0).more hb0.size) ((h2.below hb0).more hb0.size)).mono ?_
    rintro e w1 ⟨rfl, hb1⟩
    rw [hf]
    go_wp2
    go_ret
    exact ⟨ret_int H.out.symm, bnext hb0 hb1⟩
  · have H := Lib.hid (show workOf p l = l.sum by simp [workOf, hf])
    have hall := Lib.hid (weightsOk_all hf)
    have hlen := weightsOk_len hf
    unfold planV
    go_enter Try.func12, Try.ntmps12
    go_wp2_with fail
    refine (specWeightsOk_any p ve (.slice A l.length c) l _ hl hl2 ((h.below hb0).more hb0.size) ((h2.below hb0).more hb0.size)).mono ?_
    rintro e w1 ⟨rfl, hb1⟩
    rw [hf]
    clear hf
    have hbw := bnext hb0 hb1
    go_wp2
    clear hb1
    go_loopw [5, 6] (fun n i wr => ∃ k : Nat, k ≤ l.length ∧ i = .int .i64 k ∧ n = .int .i64 (l.take k).sum ∧ Below w.heap.size w wr) (fun _ i _ => l.length - (intOf i).toNat)
    case atStart => exact ⟨0, Nat.zero_le _, rfl, by simp, hbw⟩
    case round =>
      clear hbw
      obtain ⟨k, hk, rfl, rfl, hb⟩ := hrel
      by_cases hlt : k < l.length
      · obtain ⟨b, o, rfl, hbb, c0⟩ := (h2.below hb).int hlt
        have i1 : (k : Int) < (l.length : Int) := by omega
        have hsum := Lib.hid (sum_take hlt)
        have hs1 := sum_bound (l := l.take k) (fun x hx => hall.out.2.2 x (List.mem_of_mem_take hx))
        have hs2 := hall.out.2.2 l[k] (List.getElem_mem hlt)
        rw [List.length_take, Nat.min_eq_left hk] at hs1
        have hw : IntKind.i64.wrap ((l.take k).sum + l[k]) = (l.take k).sum + l[k] := IntWalk.i64_in _ (by omega)
        clear hs1 hs2
        go_wp2
        exact ⟨⟨k + 1, by omega, by go_num, by rw [hsum.out], hb⟩, by simp [intOf]; omega⟩
      · go_wp2
        go_ret
        refine ⟨ret_int ?_, hb⟩
        rw [H.out, List.take_of_length_le (by omega)]
end Go.Proofs.Ytnaicippgocdfaa
end
section
namespace Go.Proofs.Ytnaicippgocdfaa
open Go.RowKit
set_option maxRecDepth 100000
set_option maxHeartbeats 1000000

/-- a plan's variable is written over -/
theorem setBox_cell {w : World} {g b o : Nat} (v0 v1 v2 v3 v4 : Value) (hne : ¬ b = g) : (((((w.setCell ⟨g, 0, none⟩ v0).setCell ⟨g, 1, none⟩ v1).setCell ⟨g, 2, none⟩ v2).setCell ⟨g, 3, none⟩ v3).setCell ⟨g, 4, none⟩ v4).cell? ⟨b, o, none⟩ = w.cell? ⟨b, o, none⟩ := by
  have h : ∀ (w : World) (j : Nat) (v : Value), (w.setCell ⟨g, j, none⟩ v).cell? ⟨b, o, none⟩ = w.cell? ⟨b, o, none⟩ := fun w j v => World.cell?_setCell_far w ⟨g, j, none⟩ ⟨b, o, none⟩ v (fun e => hne e.symm)
  rw [h, h, h, h, h]
theorem BoxAt.setAll {b : Nat} {p : Plan} {v : Value} {w : World} (h : BoxAt b p v w) (q : Plan) (v' : Value) : BoxAt b q v' (((((w.setCell ⟨b, 0, none⟩ (.int .i64 q.prio)).setCell ⟨b, 1, none⟩ (.int .i64 q.most)).setCell ⟨b, 2, none⟩ (.int .i64 q.wait)).setCell ⟨b, 3, none⟩ (.int .i64 q.tasks)).setCell ⟨b, 4, none⟩ v') := by
  obtain ⟨h0, h1, h2, h3, h4, h5⟩ := h.cells
  have hf := h.free
  refine ⟨⟨?_, ?_, ?_, ?_, ?_, by simpa [World.setCell] using h5⟩, fun j => ?_⟩
  all_goals simp [go_sem, h0, h1, h2, h3, h4, hf]
theorem BoxAt.setFar {b g : Nat} {p : Plan} {v : Value} {w : World} (h : BoxAt b p v w) (hne : ¬ b = g) (v0 v1 v2 v3 v4 : Value) : BoxAt b p v (((((w.setCell ⟨g, 0, none⟩ v0).setCell ⟨g, 1, none⟩ v1).setCell ⟨g, 2, none⟩ v2).setCell ⟨g, 3, none⟩ v3).setCell ⟨g, 4, none⟩ v4) :=
  ((((h.other hne v0).other hne v1).other hne v2).other hne v3).other hne v4
theorem Ow.setFar {α : Type} {e : Enc α} {E : TypeId} {w : World} {base g : Nat} {v : Value} {l : List α} (h : Ow e E w base v l) (hne : v.ownBlock ≠ some g) (v0 v1 v2 v3 v4 : Value) : Ow e E (((((w.setCell ⟨g, 0, none⟩ v0).setCell ⟨g, 1, none⟩ v1).setCell ⟨g, 2, none⟩ v2).setCell ⟨g, 3, none⟩ v3).setCell ⟨g, 4, none⟩ v4) base v l :=
  ((((h.setOther (a := ⟨g, 0, none⟩) hne v0).setOther (a := ⟨g, 1, none⟩) hne v1).setOther (a := ⟨g, 2, none⟩) hne v2).setOther (a := ⟨g, 3, none⟩) hne v3).setOther (a := ⟨g, 4, none⟩) hne v4
theorem Below.setFar {B g : Nat} {w0 w : World} (h : Below B w0 w) (hne : B ≤ g) (v0 v1 v2 v3 v4 : Value) : Below B w0 (((((w.setCell ⟨g, 0, none⟩ v0).setCell ⟨g, 1, none⟩ v1).setCell ⟨g, 2, none⟩ v2).setCell ⟨g, 3, none⟩ v3).setCell ⟨g, 4, none⟩ v4) :=
  ((((h.setCell (by exact hne) v0).setCell (by exact hne) v1).setCell (by exact hne) v2).setCell (by exact hne) v3).setCell (by exact hne) v4

end Go.Proofs.Ytnaicippgocdfaa
end
section
namespace Go.Proofs.Ytnaicippgocdfaa
open Go.RowKit
set_option maxRecDepth 100000
set_option maxHeartbeats 2000000

theorem joined_len {p q : Plan} {m : List Edge} : (joined p q m).1.edges.length ≤ p.edges.length + q.edges.length + m.length := by
  unfold joined
  split
  · have := joinL_len p q q.edges.length
    simp only [joinP, List.length_append]
    omega
  · simp [zeroPlan]

theorem implBeside_any (p : Plan) (ve : Value) (q : Plan) (vf : Value) (w : World) (hl : p.edges.length ≤ 2000000) (hl' : q.edges.length ≤ 2000000) (h : Rd edgeE w w.heap.size ve p.edges) (h' : Rd edgeE w w.heap.size vf q.edges) :
    Calls Try.prog 33 #[planV p ve, planV q vf] w (JoinPost (joined p q []) w) := by
  obtain ⟨W, hWe, D, E, Z, hW, hsz⟩ := threeBox_at p ve q vf w
  unfold twoBox planBox at hWe
  have HWe := Lib.hid hWe
  have Hsz := Lib.hid hsz
  clear hWe hsz
  unfold planV
  go_enter Try.func33, Try.ntmps33
  go_wp2_with fail
  rw [← HWe.out]
  refine (implJoined_any p ve q vf _ [] _ hl hl' (by simp) ((h.below hW).more hW.size) ((h'.below hW).more hW.size) (Rd.nil edgeE _ _ 0)).mono ?_
  rintro e w1 ⟨v1, rfl, o1, b1⟩
  obtain ⟨A1, c1, rfl, -⟩ := id (Rd.of_own o1)
  have hz := Z.lt
  have o1 := o1.more (base' := w.heap.size + 3) (by rw [Hsz.out]; omega)
  obtain ⟨z0, z1, z2, z3, z4, zs⟩ := (Z.below b1).cells
  have zf := (Z.below b1).free
  have hW := bnext hW b1
  go_wp2
  refine bodyPost_ret (v := .tuple #[planV (joined p q []).1 (.slice A1 (joined p q []).1.edges.length c1), .bool (joined p q []).2]) ?_ rfl ⟨.slice A1 (joined p q []).1.edges.length c1, rfl, ?_, ?_⟩
  · simp [planV, zeroPlan, results, Try.results33, go_sem, *]
  · refine Ow.more (base := w.heap.size + 3) ?_ (by omega)
    unfold Ow at o1 ⊢
    repeat (first | (with_reducible exact o1) | refine ownsRow_setCell_below ?_ (by simp <;> omega) _)
  · repeat (first | (with_reducible exact hW) | refine Below.setCell ?_ (by simp <;> omega) _)
end Go.Proofs.Ytnaicippgocdfaa
end
section
namespace Go.Proofs.Ytnaicippgocdfaa
open Go.RowKit
set_option maxRecDepth 100000
set_option maxHeartbeats 2000000

noncomputable def redUpto (p : Plan) (e : Edge) (j : Nat) : Bool := (List.range j).any fun k => reachB p e.fr k && reachB p k e.to
theorem redUpto_succ (p : Plan) (e : Edge) (j : Nat) : redUpto p e (j + 1) = (redUpto p e j || (reachB p e.fr j && reachB p j e.to)) := by
  simp [redUpto, List.range_succ, List.any_append]
/-- what goes without saying is left out of the first k edges -/
noncomputable def redL (p : Plan) (k : Nat) : List Edge := (p.edges.take k).filter fun e => !redUpto p e p.tasks.toNat
theorem redL_add {p : Plan} {k : Nat} (hk : k < p.edges.length) (h : redUpto p p.edges[k] p.tasks.toNat = false) : redL p (k + 1) = redL p k ++ [p.edges[k]] := by
  unfold redL
  rw [take_snoc _ k hk, List.filter_append, List.filter_cons, h]
  rfl
theorem redL_skip {p : Plan} {k : Nat} (hk : k < p.edges.length) (h : redUpto p p.edges[k] p.tasks.toNat = true) : redL p (k + 1) = redL p k := by
  unfold redL
  rw [take_snoc _ k hk, List.filter_append, List.filter_cons, h]
  simp
theorem redL_len (p : Plan) (k : Nat) : (redL p k).length ≤ p.edges.length := by
  have h1 := List.length_filter_le (fun e => !redUpto p e p.tasks.toNat) (p.edges.take k)
  have h2 := List.length_take_le k p.edges
  have h3 := List.length_take_le' k p.edges
  unfold redL
  omega
open Classical in
noncomputable def reduced (p : Plan) : Plan := if planFault p = 0 then { p with edges := p.edges.filter fun e => !redUpto p e p.tasks.toNat } else p
theorem reduced_len (p : Plan) : (reduced p).edges.length ≤ p.edges.length := by
  unfold reduced
  split
  · exact List.length_filter_le _ _
  · exact Nat.le_refl _

theorem implReduced_any (p : Plan) (ve : Value) (w : World) (hl : p.edges.length ≤ 2000000) (h : Rd edgeE w w.heap.size ve p.edges) :
    Calls Try.prog 19 #[planV p ve] w (ToPlanPost (reduced p) w) := by
  obtain ⟨B0, e0, rfl, -⟩ := id h
  have D0 := BoxAt.new 26 p (.slice B0 p.edges.length e0) w
  have Z0 := BoxAt.new' 26 zeroPlan (.slice none 0 0) (planBox 26 p (.slice B0 p.edges.length e0) w) (b := w.heap.size + 1) (by simp [planBox])
  have hW0 := planBox_below 26 p (.slice B0 p.edges.length e0) w
  have hW1 : Below w.heap.size w ((planBox 26 p (.slice B0 p.edges.length e0) w).alloc (.cells #[.int .i64 0, .int .i64 0, .int .i64 0, .int .i64 0, .slice none 0 0] 26)) := hW0.alloc (by simp [planBox]) _
  have D1 := D0.below ((Below.refl _ _).alloc (Nat.le_refl _) (.cells #[.int .i64 0, .int .i64 0, .int .i64 0, .int .i64 0, .slice none 0 0] 26))
  have hS1 : ((planBox 26 p (.slice B0 p.edges.length e0) w).alloc (.cells #[.int .i64 0, .int .i64 0, .int .i64 0, .int .i64 0, .slice none 0 0] 26)).heap.size = w.heap.size + 2 := by simp [planBox]
  have HS1 := Lib.hid hS1
  clear hS1
  unfold planV
  go_enter Try.func19, Try.ntmps19
  go_wp2_with fail
  refine (implCopy_any p (.slice B0 p.edges.length e0) _ hl ((h.below hW1).more hW1.size)).mono ?_
  rintro e w1 ⟨v1, rfl, o1, b1⟩
  have D := D1.below b1
  have Z := Z0.below b1
  have hW := bnext hW1 b1
  have hsz := b1.size
  have o1 : Ow edgeE 52 w1 (w.heap.size + 2) v1 p.edges := by rw [← HS1.out]; exact o1
  clear D0 Z0 hW0 hW1 D1 b1
  obtain ⟨A1, c1, rfl, -⟩ := id (Rd.of_own o1)
  obtain ⟨x0, x1, x2, x3, x4, xs⟩ := D.cells
  go_wp2_with fail
  clear x0 x1 x2 x3 x4 xs
  generalize hw2 : w1.alloc (.cells #[.int .i64 p.prio, .int .i64 p.most, .int .i64 p.wait, .int .i64 p.tasks, .slice A1 p.edges.length c1] 26) = w2
  have b2 : Below w1.heap.size w1 w2 := by rw [← hw2]; exact (Below.refl _ _).alloc (Nat.le_refl _) _
  have X : BoxAt w1.heap.size p (.slice A1 p.edges.length c1) w2 := by rw [← hw2]; exact BoxAt.new 26 p _ w1
  clear hw2
  have o2 := o1.below b2
  have D := D.below b2
  have Z := Z.below b2
  have hW := bnext hW b2
  refine (implPlanFault_any p (.slice B0 p.edges.length e0) _ hl ((h.below hW).more hW.size)).mono ?_
  rintro e w3 ⟨rfl, b3⟩
  have o3 := o2.below b3
  have D := D.below b3
  have Z := Z.below b3
  have X := X.below b3
  have hW := bnext hW b3
  have hg1 := o1.within
  have hs12 : w.heap.size + 2 ≤ w1.heap.size := by rw [← HS1.out]; exact hsz
  have hs13 : w1.heap.size < w3.heap.size := X.lt
  clear o1 o2 b2 b3
  by_cases hf : planFault p = 0
  case neg =>
    have hfb : (planFault p != 0) = true := by simp [hf]
    have H := Lib.hid (show reduced p = p by unfold reduced; rw [if_neg hf])
    clear hf
    obtain ⟨x0, x1, x2, x3, x4, xs⟩ := X.cells
    obtain ⟨z0, z1, z2, z3, z4, zs⟩ := Z.cells
    have zf := Z.free
    go_wp2
    have oq := o3.more (base' := w.heap.size + 2) (Nat.le_refl _)
    refine bodyPost_ret (v := planV p (.slice A1 p.edges.length c1)) ?_ rfl ⟨.slice A1 p.edges.length c1, by rw [H.out], ?_, ?_⟩
    · simp [planV, results, Try.results19, go_sem, *]
    · rw [H.out]
      refine Ow.more (base := w.heap.size + 2) ?_ (by omega)
      unfold Ow at oq ⊢
      repeat (first | (with_reducible exact oq) | refine ownsRow_setCell_below ?_ (by simp <;> omega) _)
    · repeat (first | (with_reducible exact hW) | refine Below.setCell ?_ (by simp <;> omega) _)
  have hfb : (planFault p != 0) = false := by simp [hf]
  have H := Lib.hid (show reduced p = { p with edges := redL p p.edges.length } by unfold reduced redL; rw [if_pos hf, List.take_length])
  have G0 := Lib.hid (planFault_zero.1 hf)
  obtain ⟨t1, t2⟩ := manyOk_tasks G0.out.1
  have hlen := manyOk_edges G0.out.1
  obtain ⟨T, hT⟩ := Int.eq_ofNat_of_zero_le (show 0 ≤ p.tasks by omega)
  have HT := Lib.hid hT
  have HTn := Lib.hid (show p.tasks.toNat = T by omega)
  have hT2 : T ≤ 12 := by omega
  clear hf hT
  obtain ⟨i0, hi0, hz0, hz1, hz2⟩ := info_parts edge_info
  obtain ⟨x0, x1, x2, x3, x4, xs⟩ := X.cells
  obtain ⟨y0, y1, y2, y3, y4, ys⟩ := D.cells
  have xf := X.free
  go_wp2
  clear x0 x1 x2 x3 x4 xs xf y0 y1 y2 y3 y4 ys
  go_loopw [18] (fun i wr => ∃ (k : Nat) (v : Value), k ≤ p.edges.length ∧ i = .int .i64 k ∧ BoxAt w.heap.size p (.slice B0 p.edges.length e0) wr ∧ BoxAt (w.heap.size + 1) zeroPlan (.slice none 0 0) wr ∧ BoxAt w1.heap.size { p with edges := redL p k } v wr ∧ Ow edgeE 52 wr (w1.heap.size + 1) v (redL p k) ∧ Below w.heap.size w wr) (fun i _ => p.edges.length - (intOf i).toNat)
  case atStart =>
    exact ⟨0, .slice none 0 0, Nat.zero_le _, rfl, D.other (by simp; omega) _, Z.other (by simp; omega) _, X.setEdges _ _, Ow.nil _ _ _ _, hW.setCell (by simp; omega) _⟩
  case round =>
    clear o3 Z X hW D hs13
    obtain ⟨k, v, hk, rfl, D, Z, X, ho, hW⟩ := hrel
    obtain ⟨y0, y1, y2, y3, y4, ys⟩ := D.cells
    by_cases hlt : k < p.edges.length
    · have hltI : (k : Int) < (p.edges.length : Int) := by omega
      obtain ⟨b, o, rfl, hbb, c0, c1'⟩ := (h.below hW).edge hlt
      obtain ⟨f1, f2, f3, f4⟩ := edgesIn_get G0.out.2.1 hlt
      obtain ⟨wo, rfl⟩ : ∃ wo : World, wo = wr := ⟨_, rfl⟩
      have hbb2 : b < wo.heap.size := Nat.lt_of_lt_of_le hbb hW.size
      go_wp2
      clear y0 y1 y2 y3 y4 ys c0 c1'
      generalize hwi : wo.alloc (.cells #[.int .i64 p.edges[k].fr, .int .i64 p.edges[k].to] 52) = wi
      have bi : Below wo.heap.size wo wi := by rw [← hwi]; exact (Below.refl _ _).alloc (Nat.le_refl _) _
      have E := show EdgeAt wo.heap.size p.edges[k] wi by rw [← hwi]; exact EdgeAt.new 52 _ wo
      clear hwi
      have D := D.below bi
      have Z := Z.below bi
      have X := X.below bi
      have ho := ho.below bi
      have hW := bnext hW bi
      generalize hpe : p.edges[k] = e at *
      have HPE := Lib.hid hpe
      clear hpe
      go_loopw [6, 7] (fun y i wr => ∃ j : Nat, j ≤ T ∧ i = .int .i64 j ∧ y = .bool (redUpto p e j) ∧ Below wi.heap.size wi wr) (fun _ i _ => T - (intOf i).toNat)
      case atStart => exact ⟨0, Nat.zero_le _, rfl, rfl, Below.refl _ _⟩
      case round =>
        obtain ⟨j, hj, rfl, rfl, hb⟩ := hrel
        have D := D.below hb
        have Z := Z.below hb
        have X := X.below hb
        have E := E.below hb
        have ho := ho.below hb
        have hW := bnext hW hb
        obtain ⟨y0, y1, y2, y3, y4, ys⟩ := D.cells
        obtain ⟨e1, e2, es⟩ := E.cells
        by_cases hjt : j < T
        · have hjI : (j : Int) < p.tasks := by rw [HT.out]; omega
          have hun := Lib.hid (redUpto_succ p e j)
          cases hu : redUpto p e j
          · cases h1 : reachB p e.fr j
            · have S := Lib.hid (show redUpto p e (j + 1) = false by rw [hun.out, hu, h1]; rfl)
              have H1 := Lib.hid h1
              clear h1
              go_wp2_with fail
              refine (implReaches_any p (.slice (some ⟨b, o, none⟩) p.edges.length e0) e.fr j _ hl ((h.below hW).more hW.size)).mono ?_
              rintro en w4 ⟨rfl, b4⟩
              rw [H1.out]
              go_wp2
              exact ⟨⟨j + 1, by omega, by go_num, by rw [S.out], bnext hb b4⟩, by simp [intOf]; omega⟩
            · cases h2 : reachB p j e.to
              all_goals
                have S := Lib.hid (hun.out)
                rw [hu, h1, h2] at S
                have H1 := Lib.hid h1
                have H2 := Lib.hid h2
                clear h1 h2
                go_wp2_with fail
                refine (implReaches_any p (.slice (some ⟨b, o, none⟩) p.edges.length e0) e.fr j _ hl ((h.below hW).more hW.size)).mono ?_
                rintro en w4 ⟨rfl, b4⟩
                rw [H1.out]
                clear y0 y1 y2 y3 y4 ys e1 e2 es
                have D := D.below b4
                have E := E.below b4
                have hW := bnext hW b4
                obtain ⟨y0, y1, y2, y3, y4, ys⟩ := D.cells
                obtain ⟨e1, e2, es⟩ := E.cells
                go_wp2_with fail
                refine (implReaches_any p (.slice (some ⟨b, o, none⟩) p.edges.length e0) j e.to _ hl ((h.below hW).more hW.size)).mono ?_
                rintro en w5 ⟨rfl, b5⟩
                rw [H2.out]
                go_wp2
                exact ⟨⟨j + 1, by omega, by go_num, by rw [S.out]; rfl, bnext (bnext hb b4) b5⟩, by simp [intOf]; omega⟩
          · have S := Lib.hid (show redUpto p e (j + 1) = true by rw [hun.out, hu]; rfl)
            go_wp2
            exact ⟨⟨j + 1, by omega, by go_num, by rw [S.out], hb⟩, by simp [intOf]; omega⟩
        · have hjI : ¬ (j : Int) < p.tasks := by rw [HT.out]; omega
          have hj' : j = T := by omega
          subst hj'
          obtain ⟨x0, x1, x2, x3, x4, xs⟩ := X.cells
          have xf := X.free
          cases hu : redUpto p e j
          · have S := Lib.hid (redL_add (p := p) hlt (by rw [HPE.out, HTn.out]; exact hu))
            rw [HPE.out] at S
            have hll : (redL p k).length ≤ 3000000 := by have := redL_len p k; omega
            have hoi := ho.within
            have ho2 := ho.below ((Below.refl _ _).alloc (Nat.le_refl _) (.cells #[.int .i64 e.fr, .int .i64 e.to] 52))
            have hX2 := X.below ((Below.refl _ _).alloc (Nat.le_refl _) (.cells #[.int .i64 e.fr, .int .i64 e.to] 52))
            have hD2 := D.below ((Below.refl _ _).alloc (Nat.le_refl _) (.cells #[.int .i64 e.fr, .int .i64 e.to] 52))
            have hZ2 := Z.below ((Below.refl _ _).alloc (Nat.le_refl _) (.cells #[.int .i64 e.fr, .int .i64 e.to] 52))
            have hW2 := hW.alloc hW.size (.cells #[.int .i64 e.fr, .int .i64 e.to] 52)
            have hXl := X.lt
            go_wp2_with (at_builtin; refine wpList_push (v := v) edgeE (by decide) rfl (.tmp 46) (.tmp 48) rfl Try.underlying24 hi0 hz0 hz1 hz2 rfl e rfl ho2 ⟨wr.heap.size, 0, none⟩ 1 rfl (news_new _ #[.int .i64 e.fr, .int .i64 e.to] _ (by simp)) hll (by decide) (by simp; omega) ?_; intro v' w5 o5 g5; clear x0 x1 x2 x3 x4 xs xf y0 y1 y2 y3 y4 ys; obtain ⟨A5, c5, rfl, -⟩ := id (Rd.of_own o5); have X5 := hX2.far g5 (fun e => by have := hoi _ e.symm; omega); obtain ⟨x0, x1, x2, x3, x4, xs⟩ := X5.cells; have xf := X5.free)
            have D5 := hD2.far g5 (fun e => by have := hoi _ e.symm; omega)
            have Z5 := hZ2.far g5 (fun e => by have := hoi _ e.symm; omega)
            have W5 := hW2.grown g5 hW2.size (fun g hg => by have := hoi _ hg; omega)
            rw [List.length_append, List.length_singleton] at o5
            refine ⟨⟨k + 1, .slice A5 ((redL p k).length + 1) c5, by omega, by go_num, D5.other (by simp; omega) _, Z5.other (by simp; omega) _, ?_, ?_, W5.setCell (by simp; omega) _⟩, by simp [intOf]; omega⟩
            · exact X5.setEdges _ _
            · rw [S.out]
              exact ownsRow_setCell_below o5 (by simp) _
          · have S := Lib.hid (redL_skip (p := p) hlt (by rw [HPE.out, HTn.out]; exact hu))
            go_wp2
            exact ⟨⟨k + 1, v, by omega, by go_num, D, Z, by rw [S.out]; exact X, by rw [S.out]; exact ho, hW⟩, by simp [intOf]; omega⟩
    · have hltI : ¬ (k : Int) < (p.edges.length : Int) := by omega
      obtain ⟨x0, x1, x2, x3, x4, xs⟩ := X.cells
      obtain ⟨z0, z1, z2, z3, z4, zs⟩ := Z.cells
      have zf := Z.free
      have hk' : k = p.edges.length := by omega
      subst hk'
      obtain ⟨A6, c6, rfl, -⟩ := id (Rd.of_own ho)
      go_wp2
      refine bodyPost_ret (v := planV { p with edges := redL p p.edges.length } (.slice A6 (redL p p.edges.length).length c6)) ?_ rfl ⟨.slice A6 (redL p p.edges.length).length c6, by rw [H.out], ?_, ?_⟩
      · simp [planV, results, Try.results19, go_sem, *]
      · rw [H.out]
        refine Ow.more (base := w1.heap.size + 1) ?_ (by omega)
        unfold Ow at ho ⊢
        repeat (first | (with_reducible exact ho) | refine ownsRow_setCell_below ?_ (by simp <;> omega) _)
      · repeat (first | (with_reducible exact hW) | refine Below.setCell ?_ (by simp <;> omega) _)
end Go.Proofs.Ytnaicippgocdfaa
end
