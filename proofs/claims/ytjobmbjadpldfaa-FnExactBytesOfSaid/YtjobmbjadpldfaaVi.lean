/-
  DeedOk of the reference at every deed; the numbers of a deed.
-/
import Derived.Test.YtjobmbjadpldfaaVh
namespace Go.Proofs.Ytjobmbjadpldfaa
open Go.RowKit
set_option maxRecDepth 100000
set_option maxHeartbeats 2000000
set_option linter.unusedVariables false
set_option linter.unusedSimpArgs false

theorem int_infoV : (Try.prog.info? 3).map (fun i => (i.zero, i.size, i.bytes)) = some (some (.int .i64 0), 1, 8) := by kernel_rfl

theorem specDeedOk_any (d : Deed) (s : Sl) (w : World) (h : deedD.rd w w.heap.size d s) :
    Calls Try.prog 55 #[deedW d s] w fun e w' => e = .returned (.bool (deedOk d)) ∧ Below w.heap.size w w' := by
  cases a0 : inB d.kind 1 8
  case true =>
    have : d.kind = 1 ∨ d.kind = 2 ∨ d.kind = 3 ∨ d.kind = 4 ∨ d.kind = 5 ∨ d.kind = 6 ∨ d.kind = 7 ∨ d.kind = 8 := by
      simp [inB] at a0
      omega
    rcases this with e | e | e | e | e | e | e | e
    · exact specDeedOk1 d s w e h
    · exact specDeedOk2 d s w e h
    · exact specDeedOk3 d s w e h
    · exact specDeedOk4 d s w e h
    · exact specDeedOk5 d s w e h
    · exact specDeedOk6 d s w e h
    · exact specDeedOk7 d s w e h
    · exact specDeedOk8 d s w e h
  have H := Lib.hid (show deedOk d = false by simp [deedOk, a0])
  clear h
  obtain ⟨A, n, c⟩ := s
  obtain ⟨kd, rn, p, tk, ty, wk, dr⟩ := d
  replace a0 : inB kd 1 8 = false := a0
  have X := DBox.new 74 [.int .i64 kd, .int .i64 rn, .int .i64 p.prio, .int .i64 p.most, .int .i64 p.wait, .int .i64 p.tasks, .slice A n c, .int .i64 tk, .int .i64 ty, .int .i64 wk, .int .i64 dr] w (b := w.heap.size) rfl
  have B0 : Below w.heap.size w (w.alloc (.cells #[.int .i64 kd, .int .i64 rn, .int .i64 p.prio, .int .i64 p.most, .int .i64 p.wait, .int .i64 p.tasks, .slice A n c, .int .i64 tk, .int .i64 ty, .int .i64 wk, .int .i64 dr] 74)) := by repeat (first | exact Below.refl _ _ | refine Below.alloc ?_ (by simp <;> omega) _)
  go_enter Try.func55, Try.ntmps55
  go_wp2_with (go_at_call 56; refine (l01In_any _ _ _ _).mono ?_; rintro e w9 ⟨rfl, rfl⟩; (try (with_reducible rw [a0])); dsimp only)
  go_ret
  exact ⟨ret_bool H.out.symm, B0⟩

/-- the numbers of a deed, as a note writes them -/
def edgeNums (l : List Edge) : List Int := l.flatMap fun e => [e.fr, e.to]
def numbersOf (d : Deed) : List Int :=
  if d.kind = 1 then [d.run, d.plan.prio, d.plan.most, d.plan.wait, d.plan.tasks, d.plan.edges.length] ++ edgeNums d.plan.edges
  else if d.kind = 2 then [d.worker, d.draw]
  else if d.kind = 3 ∨ d.kind = 4 then [d.run, d.task, d.try_]
  else if d.kind = 6 ∨ d.kind = 7 then [d.run]
  else []
theorem edgeNums_len (l : List Edge) : (edgeNums l).length = 2 * l.length := by
  induction l with
  | nil => rfl
  | cons a l ih =>
    rw [show edgeNums (a :: l) = [a.fr, a.to] ++ edgeNums l from rfl, List.length_append, List.length_cons, ih]
    simp
    omega
theorem edgeNums_take (l : List Edge) (k : Nat) (h : k < l.length) : edgeNums (l.take (k + 1)) = edgeNums (l.take k) ++ [l[k].fr, l[k].to] := by
  rw [List.take_succ_eq_append_getElem h]
  simp only [edgeNums, List.flatMap_append, List.flatMap_cons, List.flatMap_nil, List.append_nil]
theorem numbersOf_len (d : Deed) : (numbersOf d).length ≤ 6 + 2 * d.plan.edges.length := by
  unfold numbersOf
  split
  · rw [List.length_append, edgeNums_len]; simp
  split
  · simp; omega
  split
  · simp; omega
  split <;> (simp; try omega)

/-- ints laid one beside the other -/
theorem flat_ints (l : List Int) : l.flatMap intE.cells = l.map (Value.int .i64) := by
  induction l with
  | nil => rfl
  | cons a l ih => rw [List.flatMap_cons, ih]; rfl
theorem Ow.ints (w : World) (E : TypeId) (l : List Int) {cs : Array Value} (hcs : cs = (l.map (Value.int .i64)).toArray) {n g base : Nat} (hn : n = l.length) (hg : g = w.heap.size) (hb : base ≤ w.heap.size) (hl : l.length ≤ 1000) :
    Ow intE E (w.alloc (.cells cs E)) base (.slice (some ⟨g, 0, none⟩) n n) l := by
  subst hn hg hcs
  have := World.ownsRow_lit (base := base) (e := E) (size := intE.sz) w (l.map (Value.int .i64)).toArray l.length hb (by simp [maxLen]; omega) (by simp [intE])
  unfold Ow
  rw [flat_ints]
  exact this

theorem implNumbers_any (d : Deed) (s : Sl) (w : World) (hl : d.plan.edges.length ≤ 1000000) (h : deedD.rd w w.heap.size d s) :
    Calls Try.prog 63 #[deedW d s] w fun e w' => ∃ v, e = .returned v ∧ Ow intE 3 w' w.heap.size v (numbersOf d) ∧ Below w.heap.size w w' := by
  obtain ⟨i0, hi0, hz0, hz1, hz2⟩ := info_parts int_infoV
  obtain ⟨A, n, c⟩ := s
  obtain ⟨kd, rn, p, tk, ty, wk, dr⟩ := d
  replace hl : p.edges.length ≤ 1000000 := hl
  have h0 : planD.rd w w.heap.size p ⟨A, n, c⟩ := h
  obtain rfl : n = p.edges.length := RdL.at1 (s := ⟨A, n, c⟩) h0
  have h2 : Rd edgeE w w.heap.size (.slice A p.edges.length c) p.edges := edge_rd h0
  clear h h0
  have X := DBox.new 74 [.int .i64 kd, .int .i64 rn, .int .i64 p.prio, .int .i64 p.most, .int .i64 p.wait, .int .i64 p.tasks, .slice A p.edges.length c, .int .i64 tk, .int .i64 ty, .int .i64 wk, .int .i64 dr] w (b := w.heap.size) rfl
  have B0 : Below w.heap.size w (w.alloc (.cells #[.int .i64 kd, .int .i64 rn, .int .i64 p.prio, .int .i64 p.most, .int .i64 p.wait, .int .i64 p.tasks, .slice A p.edges.length c, .int .i64 tk, .int .i64 ty, .int .i64 wk, .int .i64 dr] 74)) := by repeat (first | exact Below.refl _ _ | refine Below.alloc ?_ (by simp <;> omega) _)
  by_cases k2 : kd = 2
  · have H := Lib.hid (show numbersOf ⟨kd, rn, p, tk, ty, wk, dr⟩ = [wk, dr] by simp [numbersOf, k2])
    rw [H.out]; clear H
    subst k2
    go_enter Try.func63, Try.ntmps63
    go_wp2
    go_ret
    exact ⟨_, rfl, Ow.ints _ _ _ rfl rfl (by simp) B0.size (by simp), B0.alloc B0.size _⟩
  by_cases k3 : kd = 3
  · have H := Lib.hid (show numbersOf ⟨kd, rn, p, tk, ty, wk, dr⟩ = [rn, tk, ty] by simp [numbersOf, k3])
    rw [H.out]; clear H
    subst k3
    go_enter Try.func63, Try.ntmps63
    go_wp2
    go_ret
    exact ⟨_, rfl, Ow.ints _ _ _ rfl rfl (by simp) B0.size (by simp), B0.alloc B0.size _⟩
  by_cases k4 : kd = 4
  · have H := Lib.hid (show numbersOf ⟨kd, rn, p, tk, ty, wk, dr⟩ = [rn, tk, ty] by simp [numbersOf, k4])
    rw [H.out]; clear H
    subst k4
    go_enter Try.func63, Try.ntmps63
    go_wp2
    go_ret
    exact ⟨_, rfl, Ow.ints _ _ _ rfl rfl (by simp) B0.size (by simp), B0.alloc B0.size _⟩
  by_cases k6 : kd = 6
  · have H := Lib.hid (show numbersOf ⟨kd, rn, p, tk, ty, wk, dr⟩ = [rn] by simp [numbersOf, k6])
    rw [H.out]; clear H
    subst k6
    go_enter Try.func63, Try.ntmps63
    go_wp2
    go_ret
    exact ⟨_, rfl, Ow.ints _ _ _ rfl rfl (by simp) B0.size (by simp), B0.alloc B0.size _⟩
  by_cases k7 : kd = 7
  · have H := Lib.hid (show numbersOf ⟨kd, rn, p, tk, ty, wk, dr⟩ = [rn] by simp [numbersOf, k7])
    rw [H.out]; clear H
    subst k7
    go_enter Try.func63, Try.ntmps63
    go_wp2
    go_ret
    exact ⟨_, rfl, Ow.ints _ _ _ rfl rfl (by simp) B0.size (by simp), B0.alloc B0.size _⟩
  by_cases k1 : kd = 1
  case neg =>
    have H := Lib.hid (show numbersOf ⟨kd, rn, p, tk, ty, wk, dr⟩ = [] by simp [numbersOf, k1, k2, k3, k4, k6, k7])
    rw [H.out]; clear H
    have b1 : (kd == 1) = false := beq_eq_false_iff_ne.2 k1
    have b2 : (kd == 2) = false := beq_eq_false_iff_ne.2 k2
    have b3 : (kd == 3) = false := beq_eq_false_iff_ne.2 k3
    have b4 : (kd == 4) = false := beq_eq_false_iff_ne.2 k4
    have b6 : (kd == 6) = false := beq_eq_false_iff_ne.2 k6
    have b7 : (kd == 7) = false := beq_eq_false_iff_ne.2 k7
    clear k1 k2 k3 k4 k6 k7
    go_enter Try.func63, Try.ntmps63
    go_wp2
    go_ret
    exact ⟨_, rfl, Ow.nil _ _ _ _, B0⟩
  clear k2 k3 k4 k6 k7
  have H := Lib.hid (show ∀ k, p.edges.length ≤ k → numbersOf ⟨kd, rn, p, tk, ty, wk, dr⟩ = [rn, p.prio, p.most, p.wait, p.tasks, p.edges.length] ++ edgeNums (p.edges.take k) from fun k hk => by simp [numbersOf, k1, List.take_of_length_le hk])
  subst k1
  go_enter Try.func63, Try.ntmps63
  go_wp2
  generalize deedW (⟨1, rn, p, tk, ty, wk, dr⟩ : Deed) (⟨A, p.edges.length, c⟩ : Sl) = dv
  clear X
  go_loopw [3, 33] (fun vl i wr => ∃ (k : Nat) (v : Value), v = vl ∧ k ≤ p.edges.length ∧ i = .int .i64 k ∧ Hid (Ow intE 3 wr w.heap.size v ([rn, p.prio, p.most, p.wait, p.tasks, p.edges.length] ++ edgeNums (p.edges.take k))) ∧ Below w.heap.size w wr) (fun _ i _ => p.edges.length - (intOf i).toNat)
  case atStart => exact ⟨0, _, rfl, Nat.zero_le _, rfl, Ow.ints _ _ _ rfl rfl (by simp) B0.size (by simp [edgeNums]), B0.alloc B0.size _⟩
  case round =>
    clear B0
    obtain ⟨k, v, rfl, hk, rfl, hO, hb⟩ := hrel
    by_cases hlt : k < p.edges.length
    · have hltI : (k : Int) < (p.edges.length : Int) := by omega
      obtain ⟨b, o, rfl, hbb, d0, d1⟩ := (h2.below hb).edge hlt
      have HT := Lib.hid (edgeNums_take p.edges k hlt)
      have HL := edgeNums_len (p.edges.take k)
      rw [List.length_take] at HL
      generalize p.edges[k].fr = fx at *
      generalize p.edges[k].to = tx at *
      have ha : Hid (∀ w : World, Below w.heap.size w ((w.alloc (.cells #[.int .i64 fx, .int .i64 tx] 126)).alloc (.cells #[.int .i64 fx, .int .i64 tx] 3))) := fun w => ((Below.refl _ _).alloc (Nat.le_refl _) _).alloc (by simp) _
      generalize edgeNums (p.edges.take k) = L at *
      go_wp2_with (at_builtin; refine wpList_push_all _ intE (by decide) rfl (.tmp 37) (.tmp 42) rfl Try.underlying124 hi0 hz0 hz1 hz2 rfl (v := v) (l := [rn, p.prio, p.most, p.wait, p.tasks, p.edges.length] ++ L) rfl (hO.out.below (ha.out wr)) rfl (Rd.of_own (Ow.ints _ _ [fx, tx] rfl (by simp) (by simp) (Nat.le_refl _) (by simp))) (by simp; omega) (by simp) (by decide) (by simp; have := hb.size; omega) ?_; intro v5 w5 o5 g5 _)
      have hb' := bnext hb (ha.out wr)
      have W5 := hb'.grown g5 hb'.size (fun g hg => (hO.out.within g hg).1)
      refine ⟨⟨k + 1, _, rfl, by omega, by go_num, ?_, W5⟩, by simp [intOf]; omega⟩
      rw [HT.out, ← List.append_assoc]
      exact o5
    · have hltI : ¬ (k : Int) < (p.edges.length : Int) := by omega
      have HO := hO.out
      rw [← H.out k (by omega)] at HO
      clear H hO
      obtain ⟨A9, c9, rfl, -⟩ := id (Rd.of_own HO)
      go_wp2
      go_ret
      exact ⟨_, rfl, HO, hb⟩
end Go.Proofs.Ytjobmbjadpldfaa
