/-
  Arguments read as data: slices of plain structs, plans.
-/
import Derived.Test.YtjobmbjadpldfaaLib
import Derived.ProofKit
import Derived.Deep.Slices
namespace Go.Proofs.Ytjobmbjadpldfaa
open Go.ChangeShapes Go.WideShapes Go.ChangeAt Go.RowKit Go.Deep
set_option maxRecDepth 100000

section
variable {H : Type} {enc : TypeId × Value → H} {P : Program} {w : World} {spare : Nat → Bool} {held : Bool}

theorem read_slice {α : Type} [Inhabited α] (E : Enc α) (ok : α → Prop) {t e : TypeId} {fuel : Nat} {cs : List Value} {x : DataW H × List MemPlace} (ht : P.underlying t = some (.slice e)) (hsz : P.cellsOf e = E.sz) (hpos : 0 < E.sz)
    (hel : ∀ n cs' y, DataW.trod enc P w 0 spare held n e cs' = some y → ∃ z : α, cs' = E.cells z ∧ ok z)
    (h : DataW.trod enc P w 0 spare held fuel t cs = some x) : ∃ (v : Value) (l : List α), cs = [v] ∧ Rd E w w.heap.size v l ∧ (∀ z ∈ l, ok z) ∧ l.length ≤ maxLen := by
  rcases open_slice ht h with ⟨rfl, _⟩ | ⟨a, len, cap, m, n, D, Pl, rfl, _, hl, hm, hmm, _, hi⟩
  · exact ⟨_, [], rfl, ⟨none, 0, rfl, by simp, fun h => absurd h (by simp)⟩, by simp, by simp⟩
  · have hlm : len ≤ m := by rw [hmm]; split <;> omega
    have hsp0 : 0 < len → a.spot = none ∧ a.block < w.heap.size := by
      intro h0l
      obtain ⟨cs', hc, ht'⟩ := hi 0 (by omega)
      obtain ⟨z, rfl, hz⟩ := hel _ _ _ ht'
      rw [hsz] at hc
      obtain ⟨_, hlen, hat⟩ := World.cells?_some hc
      have h0 := hat 0 hpos
      have e0 : (a.add (0 * E.sz)).add 0 = a := by simp [Addr.add]
      rw [e0, List.getElem?_eq_getElem (by rw [E.len]; exact hpos)] at h0
      refine ⟨World.cell?_spot h0, ?_⟩
      rcases Nat.lt_or_ge a.block w.heap.size with hlt | hge
      · exact hlt
      · unfold World.cell? at h0
        rw [Array.getElem?_eq_none hge] at h0
        simp at h0
    have each : ∀ i, i < len → ∃ z : α, ok z ∧ ∀ j u, (E.cells z)[j]? = some u → w.cell? ⟨a.block, a.off + i * E.sz + j, none⟩ = some u := by
      intro i hil
      have hsp := (hsp0 (by omega)).1
      obtain ⟨cs', hc, ht'⟩ := hi i (by omega)
      obtain ⟨z, rfl, hz⟩ := hel _ _ _ ht'
      rw [hsz] at hc
      obtain ⟨_, hlen, hat⟩ := World.cells?_some hc
      have hadd : ∀ j, ((a.add (i * E.sz)).add j) = ⟨a.block, a.off + i * E.sz + j, none⟩ := by
        intro j
        obtain ⟨ab, ao, sp⟩ := a
        simp only at hsp
        subst hsp
        unfold Addr.add
        by_cases h1 : i * E.sz = 0 <;> by_cases h2 : j = 0 <;> simp [h1, h2]
      refine ⟨z, hz, fun j u hu => ?_⟩
      have hj : j < E.sz := by
        have := (List.getElem?_eq_some_iff.1 hu).1
        rw [E.len] at this
        exact this
      rw [← hadd, hat j hj]
      exact hu
    obtain ⟨f, hf⟩ := choose_lt each
    refine ⟨_, (List.range len).map f, rfl, ⟨some a, cap, by simp, by simpa using hl, fun hp => ?_⟩, ?_, by simp; omega⟩
    · simp only [List.length_map, List.length_range] at hp
      obtain ⟨hsp, hb⟩ := hsp0 hp
      refine ⟨a.block, a.off, by rw [← hsp], hb, fun k hk j u hu => ?_⟩
      simp only [List.length_map, List.length_range] at hk
      simp only [List.getElem_map, List.getElem_range] at hu
      exact (hf k hk).2 j u hu
    · intro z hz
      simp only [List.mem_map, List.mem_range] at hz
      obtain ⟨i, hi', rfl⟩ := hz
      exact (hf i hi').1

/-- an int64 -/
def Wf (x : Int) : Prop := -9223372036854775808 ≤ x ∧ x ≤ 9223372036854775807
theorem wf_of {x : Int} (h : (Lit.int .i64 x).wf = true) : Wf x := by
  simp [Lit.wf, IntKind.min, IntKind.max, IntKind.signed, IntKind.bits] at h
  exact ⟨by omega, by omega⟩
end
end Go.Proofs.Ytjobmbjadpldfaa
