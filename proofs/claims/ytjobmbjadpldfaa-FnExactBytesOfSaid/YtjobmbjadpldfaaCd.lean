/-
  Copies of deeds, notes and lists of them, in memory of the call's own.
-/
import Derived.Test.YtjobmbjadpldfaaTSeg
import Derived.Test.YtjobmbjadpldfaaCp
import Derived.Deep.RegionHeld3
namespace Go.Proofs.Ytjobmbjadpldfaa
open Go.RowKit
set_option maxRecDepth 100000
set_option maxHeartbeats 400000
set_option linter.unusedVariables false
set_option linter.unusedSimpArgs false

theorem edge_rd {w : World} {B : Nat} {v : Value} {l : List Edge} (h : RdL edgeD w B v l) : Rd edgeE w B v l := by
  obtain ⟨rs, rfl, ⟨A, c, rfl, hc, hA⟩, _⟩ := h
  refine ⟨A, c, by rw [List.length_map], by rw [List.length_map]; exact hc, fun hl => ?_⟩
  rw [List.length_map] at hl
  obtain ⟨b, o, h1, h2, h3⟩ := hA hl
  refine ⟨b, o, h1, h2, fun k hk j u hu => ?_⟩
  rw [List.getElem_map] at hu
  exact h3 k (by rw [List.length_map] at hk; exact hk) j u hu
theorem edge_ows (w : World) : ∀ l : List Edge, Ows edgeD w [] (l.map fun x => (x, ()))
  | [] => .nil
  | x :: l => by
    have := Ows.cons (d := edgeD) (w := w) (F := []) (r := (x, ())) rfl (edge_ows w l)
    exact this
theorem edge_ow {w : World} {E : TypeId} {base : Nat} {v : Value} {l : List Edge} (h : Ow edgeE E w base v l) : ∃ (s : Sl) (F : List Nat), v = .slice s.a s.n s.c ∧ OwL edgeD w F s.v l ∧ ∀ b ∈ F, base ≤ b := by
  obtain ⟨h1, h2⟩ := Hw.of_ow h
  obtain ⟨⟨A, c, hv, hc, hA⟩, hF, hf⟩ := id h1
  subst hv
  refine ⟨⟨A, l.length, c⟩, _, rfl, ⟨l.map fun x => (x, ()), blocks (.slice A l.length c) l.length, [], by rw [List.map_map]; exact List.map_id _, ⟨⟨A, c, by rw [List.length_map], by rw [List.length_map]; exact hc, fun hl => ?_⟩, by rw [List.length_map], hf⟩, edge_ows w l, (List.append_nil _).symm, h1.nodup⟩, h2⟩
  rw [List.length_map] at hl
  obtain ⟨b, o, h3, h4, h5⟩ := hA hl
  refine ⟨b, o, h3, h4, fun k hk j u hu => ?_⟩
  rw [List.getElem_map] at hu
  exact h5 k (by rw [List.length_map] at hk; exact hk) j u hu

theorem plan_own_of {x : Plan} {w : World} {e : Ending} {w' : World} (h : ToPlanPost x w e w') : OwnPost planD planW x w e w' := by
  obtain ⟨v, rfl, h1, h2⟩ := h
  obtain ⟨s, F, rfl, h3, h4⟩ := edge_ow h1
  exact ⟨s, F, rfl, h3, h4, h2⟩
theorem Bld.push1 {α : Type} {d : Dt α} {E : TypeId} {w w1 w2 w5 : World} {base : Nat} {v v5 : Value} {rs : List (α × d.S)} {x : α} {s : d.S} {F : List Nat} (h : Bld d E w base v rs) (hb : Below w.heap.size w w1) (o1 : d.ow w1 F x s) (n1 : ∀ b ∈ F, w.heap.size ≤ b)
    (hbase : base ≤ w.heap.size) (hb2 : Below w1.heap.size w1 w2) (o5 : Ow d.enc E w5 base v5 (rs ++ [(x, s)])) (g5 : w2.grownBy w5 v.ownBlock) (f5 : v5.ownBlock = v.ownBlock ∨ v5.ownBlock = some w2.heap.size) : Bld d E w5 base v5 (rs ++ [(x, s)]) := by
  refine Bld.push h (bnext hb hb2) (Ows.one (r := (x, s)) (d.ow_below o1 hb2)) n1 (d.ow_nodup o1) hbase o5 g5 ?_
  rcases f5 with f5 | f5
  · exact .inl f5
  · exact .inr ⟨_, f5, Nat.le_refl _⟩
/-- a list under building -/
def Bls {α : Type} (d : Dt α) (E : TypeId) (w : World) (base : Nat) (v : Value) (l : List α) : Prop := ∃ rs, rs.map (·.1) = l ∧ Bld d E w base v rs
theorem Bls.own {α : Type} {d : Dt α} {E : TypeId} {w w' : World} {v : Value} {l : List α} (h : Bls d E w' w.heap.size v l) (hb : Below w.heap.size w w') : OwnPost (Dt.list d) slV l w (.returned v) w' := by
  obtain ⟨rs, hm, hB⟩ := h
  obtain ⟨F, h1, h2⟩ := hB.owl hm
  obtain ⟨A, c, rfl, _⟩ := h1.form
  exact ⟨⟨A, l.length, c⟩, F, rfl, h1, h2, hb⟩
end Go.Proofs.Ytjobmbjadpldfaa
