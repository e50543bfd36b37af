/-
  YardNew and DeskNew of the reference and of the program.
-/
import Derived.Test.YtcapldjhcplfmaaMv
import Derived.Test.YtcapldjhcplfmaaCd
namespace Go.Proofs.Ytcapldjhcplfmaa
open Go.RowKit
set_option maxRecDepth 100000
set_option maxHeartbeats 1000000
set_option linter.unusedVariables false
set_option linter.unusedSimpArgs false

def yardNew : Yard := ⟨0, 1, [[], [], [], []], []⟩
def deskNew : Desk := ⟨yardNew, [], 1⟩

theorem DBox.set {b : Nat} {cs : List Value} {w : World} (h : DBox b cs w) (j : Nat) (hj : j < cs.length) (u : Value) : DBox b (cs.set j u) (w.setCell ⟨b, j, none⟩ u) := by
  refine ⟨fun i x hx => ?_, fun i => by rw [setCell_frozen]; exact h.free i, by simpa [World.setCell] using h.lt⟩
  have hi : i < cs.length := by
    have := (List.getElem?_eq_some_iff.1 hx).1
    simpa using this
  rw [setCell_cell w b i j u cs[i] (h.cell i _ (List.getElem?_eq_getElem hi)) ⟨_, h.cell j _ (List.getElem?_eq_getElem hj)⟩]
  by_cases e : i = j
  · subst e
    rw [List.getElem?_set_self hi] at hx
    rw [if_pos rfl]
    exact hx
  · rw [List.getElem?_set_ne (Ne.symm e), List.getElem?_eq_getElem hi] at hx
    rw [if_neg e]
    exact hx
theorem DBox.off {b : Nat} {cs : List Value} {w w' : World} {row : Option Nat} (h : DBox b cs w) (hg : w.grownBy w' row) (hne : some b ≠ row) : DBox b cs w' :=
  h.keep hg.size (fun j => hg.cell_far ⟨b, j, none⟩ h.lt hne) (fun j => hg.frozen_far ⟨b, j, none⟩ h.lt hne)
theorem DBox.setOther {b : Nat} {cs : List Value} {w : World} (h : DBox b cs w) {a : Addr} (hne : b ≠ a.block) (u : Value) : DBox b cs (w.setCell a u) :=
  h.off (grown_setCell w a u) (fun e => hne (Option.some.inj e))
theorem Bld.setOther {α : Type} {d : Dt α} {E : TypeId} {w : World} {base : Nat} {v : Value} {rs : List (α × d.S)} (h : Bld d E w base v rs) {a : Addr} (ha : a.block < base) (u : Value) : Bld d E (w.setCell a u) base v rs := by
  obtain ⟨G, h1, h2, h3, h4⟩ := h
  refine ⟨G, h1.setOther (fun e => by have := h1.within _ e; omega) u, h2.keep (by simp [World.setCell]) (fun b hb => Below.heap_setCell w a u b (fun e => by have := (h4 b hb).1; omega)), h3, h4⟩
theorem Ows.nils {w : World} : ∀ (n : Nat), Ows (Dt.list entryD) w [] (List.replicate n (([], ⟨none, 0, 0⟩) : List Entry × Sl))
  | 0 => .nil
  | n + 1 => by
    have := Ows.cons (d := Dt.list entryD) (r := ([], ⟨none, 0, 0⟩)) (OwL.nil entryD w none 0) (Ows.nils n)
    exact this

theorem implYardNew_own (w : World) : Calls Try.prog 113 #[] w (OwnPost yardD yardW yardNew w) := by
  obtain ⟨i0, hi0, hz0, hz1, hz2⟩ := info_parts entryS_infoD
  have hmk : ∀ w : World, (Instr.makeSlice 59 (.int .i64 4) (.int .i64 4)).run Try.prog w = .ok (.slice (some ⟨w.heap.size, 0, none⟩) 4 4) (w.alloc (.cells (madeCells #[.slice none 0 0] 4) 197)) := by
    intro w
    have := run_make (P := Try.prog) w 59 197 i0 _ Try.underlying59 hi0 hz0 .i64 .i64 4 4 (by omega) (by omega) (by rw [hz2]; omega) (by omega)
    rw [hz1] at this
    simpa [Value.cells] using this
  go_enter Try.func113, Try.ntmps113
  go_wp2
  refine bodyPost_ret (v := yardW yardNew (⟨some ⟨w.heap.size + 1, 0, none⟩, 4, 4⟩, ⟨none, 0, 0⟩)) ?_ rfl ?_
  · simp [yardW, yardNew, results, Try.results113, go_sem]
  · have hO := Ow.made (Dt.list entryD).enc 197 (w.alloc (.cells #[.int .i64 0, .int .i64 1, .slice (some ⟨w.heap.size + 1, 0, none⟩) 4 4, .slice none 0 0] 62)) ([], ⟨none, 0, 0⟩) 4 (by decide) (by simp [maxLen]) (z := #[.slice none 0 0]) rfl (m := 4) rfl
    have hs : (w.alloc (.cells #[.int .i64 0, .int .i64 1, .slice (some ⟨w.heap.size + 1, 0, none⟩) 4 4, .slice none 0 0] 62)).heap.size = w.heap.size + 1 := by simp
    rw [hs] at hO
    obtain ⟨F, h1, h2⟩ := Bld.owl (l := [[], [], [], []]) ⟨[], hO, Ows.nils 4, List.nodup_nil, fun b hb => by cases hb⟩ rfl
    refine ⟨_, F, rfl, ⟨F, [], (List.append_nil F).symm, h1.nodup, ?_, OwL.nil _ _ _ _⟩, fun b hb => by have := h2 b hb; omega, ?_⟩
    · have hn : w.heap.size ∉ F := fun hm => by have := h2 _ hm; omega
      show OwL (Dt.list entryD) _ F (.slice (some ⟨w.heap.size + 1, 0, none⟩) 4 4) [[], [], [], []]
      repeat (first | (with_reducible exact h1) | refine OwL.set ?_ hn _)
    · repeat (first | exact Below.refl _ _ | refine Below.setCell ?_ (by simp <;> omega) _ | refine Below.alloc ?_ (by simp <;> omega) _)

theorem implDeskNew_own (w : World) : Calls Try.prog 63 #[] w (OwnPost deskD deskW deskNew w) := by
  go_enter Try.func63, Try.ntmps63
  have Z0 := DBox.new 78 [.int .i64 0, .int .i64 0, .slice none 0 0, .slice none 0 0, .slice none 0 0, .int .i64 0] w rfl
  have B0 : Below w.heap.size w (w.alloc (.cells #[.int .i64 0, .int .i64 0, .slice none 0 0, .slice none 0 0, .slice none 0 0, .int .i64 0] 78)) := (Below.refl _ _).alloc (Nat.le_refl _) _
  go_wp2_with fail
  refine (implYardNew_own _).mono ?_
  rintro e w1 ⟨s1, F1, rfl, o1, n1, b1⟩
  have Z := Z0.below b1
  have zf := Z.free
  have z0 := Z.cell 0 _ rfl
  have z1 := Z.cell 1 _ rfl
  have z2 := Z.cell 2 _ rfl
  have z3 := Z.cell 3 _ rfl
  have z4 := Z.cell 4 _ rfl
  have z5 := Z.cell 5 _ rfl
  have B1 := bnext B0 b1
  simp only [World.size_alloc] at n1
  clear Z0 b1
  go_wp2
  refine bodyPost_ret (v := deskW deskNew (s1, ⟨none, 0, 0⟩)) ?_ rfl ?_
  · simp [deskW, deskNew, results, Try.results63, go_sem, z0, z1, z2, z3, z4, z5]
  · refine ⟨(s1, ⟨none, 0, 0⟩), F1, rfl, ⟨F1, [], (List.append_nil F1).symm, yardD.ow_nodup o1, ?_, OwL.nil _ _ _ _⟩, fun b hb => by have := n1 b hb; omega, ?_⟩
    · have hn : w.heap.size ∉ F1 := fun hm => by have := n1 _ hm; omega
      show yardD.ow _ F1 yardNew s1
      repeat (first | (with_reducible exact o1) | refine Dt.ow_set yardD ?_ hn _)
    · repeat (first | (with_reducible exact B1) | refine Below.setCell ?_ (by simp <;> omega) _)

theorem specYardNew_own (w : World) : Calls Try.prog 112 #[] w (OwnPost yardD yardW yardNew w) := by
  obtain ⟨i0, hi0, hz0, hz1, hz2⟩ := info_parts entryS_infoD
  have D0 := DBox.new 62 [.int .i64 0, .int .i64 0, .slice none 0 0, .slice none 0 0] w rfl
  have D1 := D0.below ((Below.refl _ _).alloc (Nat.le_refl _) (.cells #[.int .i64 0, .int .i64 1, .slice none 0 0, .slice none 0 0] 62))
  have E1 := DBox.new 62 [.int .i64 0, .int .i64 1, .slice none 0 0, .slice none 0 0] (w.alloc (.cells #[.int .i64 0, .int .i64 0, .slice none 0 0, .slice none 0 0] 62)) (b := w.heap.size + 1) (by simp)
  have B0 : Below w.heap.size w ((w.alloc (.cells #[.int .i64 0, .int .i64 0, .slice none 0 0, .slice none 0 0] 62)).alloc (.cells #[.int .i64 0, .int .i64 1, .slice none 0 0, .slice none 0 0] 62)) := by repeat (first | exact Below.refl _ _ | refine Below.alloc ?_ (by simp <;> omega) _)
  have S0 : w.heap.size + 2 ≤ ((w.alloc (.cells #[.int .i64 0, .int .i64 0, .slice none 0 0, .slice none 0 0] 62)).alloc (.cells #[.int .i64 0, .int .i64 1, .slice none 0 0, .slice none 0 0] 62)).heap.size := by simp
  clear D0
  go_enter Try.func112, Try.ntmps112
  go_wp2
  generalize ((w.alloc (.cells #[.int .i64 0, .int .i64 0, .slice none 0 0, .slice none 0 0] 62)).alloc (.cells #[.int .i64 0, .int .i64 1, .slice none 0 0, .slice none 0 0] 62)) = W at *
  go_loopw [2] (fun i wr => ∃ (k : Nat) (v : Value), k ≤ 4 ∧ i = .int .i64 k ∧ Hid (Bls (Dt.list entryD) 197 wr (w.heap.size + 2) v (List.replicate k [])) ∧ DBox w.heap.size [.int .i64 0, .int .i64 0, .slice none 0 0, .slice none 0 0] wr ∧ DBox (w.heap.size + 1) [.int .i64 0, .int .i64 1, v, .slice none 0 0] wr ∧ Below w.heap.size w wr ∧ w.heap.size + 2 ≤ wr.heap.size) (fun i _ => 4 - (intOf i).toNat)
  case atStart => exact ⟨0, _, Nat.zero_le _, rfl, ⟨[], rfl, Bld.nil _ _ _ _⟩, D1, E1, B0, S0⟩
  case round =>
    clear D1 E1 B0 S0
    obtain ⟨k, v, hk, rfl, hB0, D, E, hb, hsz⟩ := hrel
    have e0 : wr.cell? ⟨w.heap.size + 1, 0, none⟩ = some (.int .i64 0) := E.cell 0 _ rfl
    have e1 : wr.cell? ⟨w.heap.size + 1, 1, none⟩ = some (.int .i64 1) := E.cell 1 _ rfl
    have e2 : wr.cell? ⟨w.heap.size + 1, 2, none⟩ = some v := E.cell 2 _ rfl
    have e3 : wr.cell? ⟨w.heap.size + 1, 3, none⟩ = some (.slice none 0 0) := E.cell 3 _ rfl
    have ef := E.free
    have el := E.lt
    by_cases hlt : k < 4
    · obtain ⟨rs, hm, hB⟩ := hB0.out
      have hrl : rs.length = k := by have := congrArg List.length hm; simpa using this
      have hO := hB.ow
      have hne : v.ownBlock ≠ some (w.heap.size + 1) := fun e => by have := hO.within _ e; omega
      have hne2 : v.ownBlock ≠ some w.heap.size := fun e => by have := hO.within _ e; omega
      have B1 := (Below.refl wr.heap.size wr).alloc (Nat.le_refl _) (.cells #[] 216)
      go_wp2_with (at_builtin; refine wpList_push_all _ (Dt.list entryD).enc (by decide) rfl (.tmp 9) (.tmp 11) rfl Try.underlying59 hi0 hz0 hz1 hz2 rfl (v := v) (l := rs) rfl (hO.below (B1.alloc (by simp) _)) rfl (Rd.one (Dt.list entryD).enc _ _ (([] : List Entry), (⟨some ⟨wr.heap.size, 0, none⟩, 0, 0⟩ : Sl)) (by simp) rfl 1 (Nat.le_refl _) (Nat.lt_succ_self _)) (by omega) (by simp) (by decide) (by simp; omega) ?_; intro v5 w5 o5 g5 f5; obtain ⟨A5, c5, rfl, -⟩ := id (Rd.of_own o5); have E5 := ((E.below B1).below ((Below.refl _ _).alloc (Nat.le_refl _) _)).off g5 (fun e => hne e.symm); have D5 := ((D.below B1).below ((Below.refl _ _).alloc (Nat.le_refl _) _)).off g5 (fun e => hne2 e.symm); have m2 : w5.cell? ⟨w.heap.size + 1, 2, none⟩ = some v := E5.cell 2 _ rfl; have mf := E5.free; have ml := E5.lt)
      have hP := Bld.push1 (d := Dt.list entryD) (x := []) (s := ⟨some ⟨wr.heap.size, 0, none⟩, 0, 0⟩) hB B1 (OwL.nil entryD _ _ _) (fun b hb' => by cases hb') hsz ((Below.refl _ _).alloc (Nat.le_refl _) _) o5 g5 f5
      have hlen : (rs ++ [(([] : List Entry), (⟨some ⟨wr.heap.size, 0, none⟩, 0, 0⟩ : Sl))]).length = k + 1 := by simp [hrl]
      rw [hlen] at hP
      have g5s := g5.size
      simp only [World.size_alloc] at g5s
      refine ⟨⟨k + 1, _, by omega, by go_num, ⟨rs ++ [([], ⟨some ⟨wr.heap.size, 0, none⟩, 0, 0⟩)], by rw [List.map_append, hm, List.replicate_succ']; rfl, hP.setOther (a := ⟨w.heap.size + 1, 2, none⟩) (by show w.heap.size + 1 < _; omega) _⟩, D5.setOther (a := ⟨w.heap.size + 1, 2, none⟩) (by show w.heap.size ≠ w.heap.size + 1; omega) _, E5.set 2 (by simp) _, ?_, by simp [World.setCell]; omega⟩, by simp [intOf]; omega⟩
      exact Below.setCell ((((hb.trans (B1.mono hb.size)).alloc (by simp; omega) _).grown g5 (by simp; omega) (fun g hg => by have := hO.within g hg; omega))) (by first | (simp; done) | (simp; omega)) _
    · have hk4 : k = 4 := by omega
      subst hk4
      have d0 : wr.cell? ⟨w.heap.size, 0, none⟩ = some (.int .i64 0) := D.cell 0 _ rfl
      have d1 : wr.cell? ⟨w.heap.size, 1, none⟩ = some (.int .i64 0) := D.cell 1 _ rfl
      have d2 : wr.cell? ⟨w.heap.size, 2, none⟩ = some (.slice none 0 0) := D.cell 2 _ rfl
      have d3 : wr.cell? ⟨w.heap.size, 3, none⟩ = some (.slice none 0 0) := D.cell 3 _ rfl
      have df := D.free
      have dl := D.lt
      obtain ⟨rs, hm, hB⟩ := hB0.out
      obtain ⟨F, h1, h2⟩ := hB.owl hm
      obtain ⟨A9, c9, rfl, -⟩ := h1.form
      simp only [List.length_replicate] at e2 h1
      go_wp2
      refine bodyPost_ret (v := yardW yardNew (⟨A9, 4, c9⟩, ⟨none, 0, 0⟩)) ?_ rfl ?_
      · simp [yardW, yardNew, results, Try.results112, go_sem, d0, d1, d2, d3]
      · refine ⟨(⟨A9, 4, c9⟩, ⟨none, 0, 0⟩), F, rfl, ⟨F, [], (List.append_nil F).symm, h1.nodup, ?_, OwL.nil _ _ _ _⟩, fun b hb => by have := h2 b hb; omega, ?_⟩
        · have hn : w.heap.size ∉ F := fun hm => by have := h2 _ hm; omega
          have h1 : OwL (Dt.list entryD) wr F (.slice A9 4 c9) [[], [], [], []] := h1
          show OwL (Dt.list entryD) _ F (.slice A9 4 c9) [[], [], [], []]
          repeat (first | (with_reducible exact h1) | refine OwL.set ?_ hn _)
        · repeat (first | (with_reducible exact hb) | refine Below.setCell ?_ (by simp <;> omega) _)

theorem specDeskNew_own (w : World) : Calls Try.prog 62 #[] w (OwnPost deskD deskW deskNew w) := by
  go_enter Try.func62, Try.ntmps62
  have Z0 := DBox.new 78 [.int .i64 0, .int .i64 0, .slice none 0 0, .slice none 0 0, .slice none 0 0, .int .i64 0] w rfl
  have B0 : Below w.heap.size w (w.alloc (.cells #[.int .i64 0, .int .i64 0, .slice none 0 0, .slice none 0 0, .slice none 0 0, .int .i64 0] 78)) := (Below.refl _ _).alloc (Nat.le_refl _) _
  go_wp2_with fail
  refine (specYardNew_own _).mono ?_
  rintro e w1 ⟨s1, F1, rfl, o1, n1, b1⟩
  have Z := Z0.below b1
  have zf := Z.free
  have z0 := Z.cell 0 _ rfl
  have z1 := Z.cell 1 _ rfl
  have z2 := Z.cell 2 _ rfl
  have z3 := Z.cell 3 _ rfl
  have z4 := Z.cell 4 _ rfl
  have z5 := Z.cell 5 _ rfl
  have B1 := bnext B0 b1
  simp only [World.size_alloc] at n1
  clear Z0 b1
  go_wp2
  refine bodyPost_ret (v := deskW deskNew (s1, ⟨none, 0, 0⟩)) ?_ rfl ?_
  · simp [deskW, deskNew, results, Try.results62, go_sem, z0, z1, z2, z3, z4, z5]
  · refine ⟨(s1, ⟨none, 0, 0⟩), F1, rfl, ⟨F1, [], (List.append_nil F1).symm, yardD.ow_nodup o1, ?_, OwL.nil _ _ _ _⟩, fun b hb => by have := n1 b hb; omega, ?_⟩
    · have hn : w.heap.size ∉ F1 := fun hm => by have := n1 _ hm; omega
      show yardD.ow _ F1 yardNew s1
      repeat (first | (with_reducible exact o1) | refine Dt.ow_set yardD ?_ hn _)
    · repeat (first | (with_reducible exact B1) | refine Below.setCell ?_ (by simp <;> omega) _)
end Go.Proofs.Ytcapldjhcplfmaa
