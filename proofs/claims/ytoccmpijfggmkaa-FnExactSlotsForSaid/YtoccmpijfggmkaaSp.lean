/-
  Slots that fit a plan: plain facts.
-/
import Derived.Test.YtoccmpijfggmkaaWk
import Derived.Test.YtoccmpijfggmkaaSl
namespace Go.Proofs.Ytoccmpijfggmkaa
open Go.RowKit

def clash (s o : Slot) : Bool := (s.worker == o.worker && decide (s.fr < o.to)) && decide (o.fr < s.to)
def slotOk1 (T : Int) (l : List Int) (many : Int) (prev : List Slot) (s : Slot) : Bool :=
  inB s.task 0 (T - 1) && !(prev.any fun x => x.task == s.task) && inB s.fr 0 1000000000 && (s.to == s.fr + l.getD s.task.toNat 0) && inB s.worker 0 (many - 1) && prev.all fun o => !clash s o
/-- the first k slots fit -/
def slsOk (T : Int) (l : List Int) (many : Int) (s : List Slot) (k : Nat) : Prop := ∀ j (h : j < s.length), j < k → slotOk1 T l many (s.take j) s[j] = true
/-- the slot of a task -/
def taskSlot (s : List Slot) (t : Int) : Slot := (s.find? fun x => x.task == t).getD ⟨0, 0, 0, 0⟩
/-- the first k edges fit -/
def edOk (p : Plan) (s : List Slot) (k : Nat) : Prop := ∀ j (h : j < p.edges.length), j < k → ¬ (taskSlot s p.edges[j].to).fr < (taskSlot s p.edges[j].fr).to
def SlotsFit (p : Plan) (l : List Int) (many : Int) (s : List Slot) : Prop :=
  weightsOk p l = true ∧ inB many 1 8 = true ∧ (s.length : Int) = p.tasks ∧ slsOk p.tasks l many s s.length ∧ edOk p s p.edges.length
open Classical in
noncomputable def slotsOk (p : Plan) (l : List Int) (many : Int) (s : List Slot) : Bool := decide (SlotsFit p l many s)
theorem slotsOk_iff {p : Plan} {l : List Int} {many : Int} {s : List Slot} : slotsOk p l many s = true ↔ SlotsFit p l many s := by simp [slotsOk]
theorem slotsOk_no {p : Plan} {l : List Int} {many : Int} {s : List Slot} (h : ¬ SlotsFit p l many s) : slotsOk p l many s = false := by simp [slotsOk, h]

theorem slsOk_zero (T : Int) (l : List Int) (many : Int) (s : List Slot) : slsOk T l many s 0 := fun j _ h => absurd h (by omega)
theorem slsOk_next {T : Int} {l : List Int} {many : Int} {s : List Slot} {k : Nat} (h : slsOk T l many s k) (hk : k < s.length) (h1 : slotOk1 T l many (s.take k) s[k] = true) : slsOk T l many s (k + 1) := by
  intro j hj hjk
  by_cases e : j = k
  · subst e; exact h1
  · exact h j hj (by omega)
theorem slsOk_bad {p : Plan} {l : List Int} {many : Int} {s : List Slot} {k : Nat} (hk : k < s.length) (h1 : slotOk1 p.tasks l many (s.take k) s[k] = false) : slotsOk p l many s = false :=
  slotsOk_no fun h => by
    have := h.2.2.2.1 k hk hk
    rw [h1] at this
    cases this
theorem slotOk1_parts {T : Int} {l : List Int} {many : Int} {prev : List Slot} {s : Slot} (h : slotOk1 T l many prev s = true) :
    (0 ≤ s.task ∧ s.task ≤ T - 1) ∧ (∀ x ∈ prev, x.task ≠ s.task) ∧ (0 ≤ s.fr ∧ s.fr ≤ 1000000000) ∧ s.to = s.fr + l.getD s.task.toNat 0 ∧ (0 ≤ s.worker ∧ s.worker ≤ many - 1) ∧ ∀ o ∈ prev, clash s o = false := by
  simp only [slotOk1, Bool.and_eq_true, inB_iff, Bool.not_eq_true', List.any_eq_false, List.all_eq_true, beq_iff_eq] at h
  obtain ⟨⟨⟨⟨⟨h1, h2⟩, h3⟩, h4⟩, h5⟩, h6⟩ := h
  exact ⟨h1, h2, h3, h4, h5, h6⟩
theorem slotOk1_mk {T : Int} {l : List Int} {many : Int} {prev : List Slot} {s : Slot} (h1 : 0 ≤ s.task ∧ s.task ≤ T - 1) (h2 : ∀ x ∈ prev, x.task ≠ s.task) (h3 : 0 ≤ s.fr ∧ s.fr ≤ 1000000000) (h4 : s.to = s.fr + l.getD s.task.toNat 0)
    (h5 : 0 ≤ s.worker ∧ s.worker ≤ many - 1) (h6 : ∀ o ∈ prev, clash s o = false) : slotOk1 T l many prev s = true := by
  simp only [slotOk1, Bool.and_eq_true, inB_iff, Bool.not_eq_true', List.any_eq_false, List.all_eq_true, beq_iff_eq]
  exact ⟨⟨⟨⟨⟨h1, h2⟩, h3⟩, h4⟩, h5⟩, h6⟩

/-! the tables that the two make -/
def slotTab (T : Nat) (s : List Slot) : List Slot := (List.range T).map fun (t : Nat) => taskSlot s (t : Int)
theorem slotTab_len (T : Nat) (s : List Slot) : (slotTab T s).length = T := by simp [slotTab]
theorem slotTab_nil (T : Nat) : slotTab T [] = List.replicate T ⟨0, 0, 0, 0⟩ := by
  apply List.ext_getElem (by simp [slotTab])
  intro i h1 h2
  simp [slotTab, taskSlot]
theorem slotTab_get {T : Nat} {s : List Slot} {t : Nat} (h : t < (slotTab T s).length) : (slotTab T s)[t] = taskSlot s (t : Int) := by simp [slotTab]
theorem slotTab_snoc {T : Nat} {s : List Slot} {k : Nat} (hk : k < s.length) {t : Nat} (ht : s[k].task = (t : Int)) (hno : ∀ x ∈ s.take k, x.task ≠ s[k].task) : slotTab T (s.take (k + 1)) = (slotTab T (s.take k)).set t s[k] := by
  apply List.ext_getElem (by simp [slotTab])
  intro i h1 h2
  rw [slotTab_get, List.getElem_set]
  rw [take_snoc s k hk]
  unfold taskSlot
  rw [List.find?_append]
  by_cases e : t = i
  · subst e
    rw [if_pos rfl]
    have : (s.take k).find? (fun x => x.task == (t : Int)) = none := by
      rw [List.find?_eq_none]
      intro x hx
      have := hno x hx
      rw [ht] at this
      simpa using this
    rw [this]
    simp [ht]
  · rw [if_neg e, slotTab_get]
    have : [s[k]].find? (fun x => x.task == (i : Int)) = none := by
      rw [List.find?_eq_none]
      intro x hx
      simp only [List.mem_singleton] at hx
      subst hx
      rw [ht]
      simp
      omega
    rw [this, Option.or_none]
    rfl

/-- the bits of the tasks that were met -/
def metN : List Slot → Nat
  | [] => 0
  | x :: s => metN s ||| 1 <<< x.task.toNat
theorem metN_bit : ∀ (s : List Slot) (t : Nat), (∀ x ∈ s, 0 ≤ x.task) → ((metN s).testBit t = s.any fun x => x.task == (t : Int))
  | [], t, _ => by simp [metN]
  | x :: s, t, h => by
    have h0 := h x List.mem_cons_self
    rw [metN, Nat.testBit_or, Pg.bit_one, metN_bit s t (fun y hy => h y (List.mem_cons_of_mem _ hy)), List.any_cons, Bool.or_comm]
    congr 1
    rw [Bool.eq_iff_iff]
    simp only [decide_eq_true_eq, beq_iff_eq]
    omega
theorem metN_lt : ∀ (s : List Slot) (T : Nat), (∀ x ∈ s, x.task.toNat < T) → metN s < 2 ^ T
  | [], T, _ => Nat.two_pow_pos T
  | x :: s, T, h => by
    have h0 := h x List.mem_cons_self
    rw [metN]
    refine Nat.or_lt_two_pow (metN_lt s T fun y hy => h y (List.mem_cons_of_mem _ hy)) ?_
    rw [Nat.shiftLeft_eq, Nat.one_mul]
    exact Nat.pow_lt_pow_right (by omega) h0

/-- where a task stands, from 1 on; 0: it was not met -/
def atOf (s : List Slot) (t : Int) : Int := match s.findIdx? fun x => x.task == t with | some i => i + 1 | none => 0
def atTab (T : Nat) (s : List Slot) : List Int := (List.range T).map fun (t : Nat) => atOf s (t : Int)
theorem atTab_len (T : Nat) (s : List Slot) : (atTab T s).length = T := by simp [atTab]
theorem atTab_nil (T : Nat) : atTab T [] = List.replicate T 0 := by
  apply List.ext_getElem (by simp [atTab])
  intro i h1 h2
  simp [atTab, atOf]
theorem atTab_get {T : Nat} {s : List Slot} {t : Nat} (h : t < (atTab T s).length) : (atTab T s)[t] = atOf s (t : Int) := by simp [atTab]
theorem atOf_zero {s : List Slot} {t : Int} : atOf s t = 0 ↔ ∀ x ∈ s, x.task ≠ t := by
  unfold atOf
  cases h : s.findIdx? fun x => x.task == t with
  | none =>
    rw [List.findIdx?_eq_none_iff] at h
    simp only [true_iff]
    intro x hx
    simpa using h x hx
  | some i =>
    rw [List.findIdx?_eq_some_iff_getElem] at h
    obtain ⟨hi, hp, _⟩ := h
    simp only
    refine ⟨fun h => absurd h (by omega), fun h => ?_⟩
    exact absurd (by simpa using hp) (h _ (List.getElem_mem hi))
theorem atOf_pos {s : List Slot} {t : Int} (h : ∃ x ∈ s, x.task = t) : ∃ i : Nat, ∃ hi : i < s.length, atOf s t = (i : Int) + 1 ∧ s[i] = taskSlot s t := by
  unfold atOf taskSlot
  cases hf : s.findIdx? fun x => x.task == t with
  | none =>
    rw [List.findIdx?_eq_none_iff] at hf
    obtain ⟨x, hx, he⟩ := h
    have := hf x hx
    simp [he] at this
  | some i =>
    rw [List.findIdx?_eq_some_iff_getElem] at hf
    obtain ⟨hi, hp, hno⟩ := hf
    refine ⟨i, hi, rfl, ?_⟩
    have : s.find? (fun x => x.task == t) = some s[i] := by
      rw [List.find?_eq_some_iff_getElem]
      exact ⟨hp, i, hi, rfl, fun j hj => by simpa using hno j hj⟩
    rw [this]
    rfl
theorem atTab_snoc {T : Nat} {s : List Slot} {k : Nat} (hk : k < s.length) {t : Nat} (ht : s[k].task = (t : Int)) (hno : ∀ x ∈ s.take k, x.task ≠ s[k].task) : atTab T (s.take (k + 1)) = (atTab T (s.take k)).set t ((k : Int) + 1) := by
  apply List.ext_getElem (by simp [atTab])
  intro i h1 h2
  rw [atTab_get, List.getElem_set]
  rw [take_snoc s k hk]
  unfold atOf
  rw [List.findIdx?_append]
  by_cases e : t = i
  · subst e
    rw [if_pos rfl]
    have : (s.take k).findIdx? (fun x => x.task == (t : Int)) = none := by
      rw [List.findIdx?_eq_none_iff]
      intro x hx
      have := hno x hx
      rw [ht] at this
      simpa using this
    rw [this]
    simp [ht, List.findIdx?_cons]
    omega
  · rw [if_neg e, atTab_get]
    have : [s[k]].findIdx? (fun x => x.task == (i : Int)) = none := by
      rw [List.findIdx?_eq_none_iff]
      intro x hx
      simp only [List.mem_singleton] at hx
      subst hx
      rw [ht]
      simp
      omega
    rw [this]
    simp [atOf]

/-- as many slots as tasks, no task twice: each task has one -/
theorem all_met {T : Int} {l : List Int} {many : Int} {s : List Slot} (h : slsOk T l many s s.length) (hT : (s.length : Int) = T) (t : Int) (h0 : 0 ≤ t) (h1 : t < T) : ∃ x ∈ s, x.task = t := by
  have hp : ∀ j (hj : j < s.length), (0 ≤ s[j].task ∧ s[j].task ≤ T - 1) ∧ ∀ x ∈ s.take j, x.task ≠ s[j].task := fun j hj => by
    have := slotOk1_parts (h j hj hj)
    exact ⟨this.1, this.2.1⟩
  have hall : ∀ x ∈ s, 0 ≤ x.task ∧ x.task ≤ T - 1 := fun x hx => by
    obtain ⟨j, hj, rfl⟩ := List.getElem_of_mem hx
    exact (hp j hj).1
  apply Classical.byContradiction
  intro hno
  have hnd : (t.toNat :: s.map fun x => x.task.toNat).Nodup := by
    rw [List.nodup_cons]
    constructor
    · intro hm
      obtain ⟨x, hx, he⟩ := List.mem_map.1 hm
      have := hall x hx
      exact hno ⟨x, hx, by omega⟩
    · rw [List.nodup_iff_pairwise_ne, List.pairwise_map, List.pairwise_iff_getElem]
      intro i j hi hj hij he
      have h2 := (hp j hj).2 s[i] (by
        rw [List.mem_take_iff_getElem]
        exact ⟨i, by omega, rfl⟩)
      have h3 := hall _ (List.getElem_mem hi)
      have h4 := hall _ (List.getElem_mem hj)
      exact h2 (by omega)
  have := Pg.nodup_le T.toNat _ hnd (by
    intro x hx
    rcases List.mem_cons.1 hx with rfl | hx
    · omega
    · obtain ⟨y, hy, rfl⟩ := List.mem_map.1 hx
      have := hall y hy
      omega)
  simp at this
  omega
end Go.Proofs.Ytoccmpijfggmkaa
