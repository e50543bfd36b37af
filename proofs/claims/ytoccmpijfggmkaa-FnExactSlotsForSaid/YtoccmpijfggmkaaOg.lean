/-
  The order in which tasks come: plain facts.
-/
import Derived.Test.YtoccmpijfggmkaaBf
namespace Go.Proofs.Ytoccmpijfggmkaa
open Go.RowKit

/-- t may come next behind those of out -/
def mayCome (es : List (Nat × Nat)) (out : List Nat) (t : Nat) : Bool := !decide (t ∈ out) && es.all fun e => !decide (e.2 = t) || decide (e.1 ∈ out)
def pickT (es : List (Nat × Nat)) (T : Nat) (out : List Nat) : Option Nat := (List.range T).find? (mayCome es out)
/-- the first n tasks of the order -/
def orderL (es : List (Nat × Nat)) (T : Nat) : Nat → List Nat
  | 0 => []
  | n + 1 => match pickT es T (orderL es T n) with
    | some t => orderL es T n ++ [t]
    | none => orderL es T n

theorem mayCome_iff {es : List (Nat × Nat)} {out : List Nat} {t : Nat} : mayCome es out t = true ↔ t ∉ out ∧ ∀ s, (s, t) ∈ es → s ∈ out := by
  unfold mayCome
  simp only [Bool.and_eq_true, Bool.not_eq_true', decide_eq_false_iff_not, List.all_eq_true, Bool.or_eq_true, decide_eq_true_eq, Prod.forall]
  constructor
  · rintro ⟨h1, h2⟩
    refine ⟨h1, fun s hs => ?_⟩
    rcases h2 s t hs with h | h
    · exact absurd rfl h
    · exact h
  · rintro ⟨h1, h2⟩
    refine ⟨h1, fun a b hab => ?_⟩
    by_cases hb : b = t
    · subst hb; exact .inr (h2 a hab)
    · exact .inl hb

theorem Way.lower {es : List (Nat × Nat)} {b : Nat} {U : Nat → Prop} (hU : ∀ u, U u → ∃ v, U v ∧ (v, u) ∈ es) (hb : U b) : ∀ n, ∃ a l, U a ∧ l.length = n ∧ Pg.Way es a l b ∧ ∀ x ∈ a :: l, U x
  | 0 => ⟨b, [], hb, rfl, .nil b, by simpa using hb⟩
  | n + 1 => by
    obtain ⟨a, l, ha, hl, hw, hx⟩ := Way.lower hU hb n
    obtain ⟨v, hv, he⟩ := hU a ha
    refine ⟨v, a :: l, hv, by simp [hl], .cons he hw, ?_⟩
    intro x hx'
    rcases List.mem_cons.1 hx' with rfl | h
    · exact hv
    · exact hx x h

theorem Way.head {es : List (Nat × Nat)} : ∀ {a x b : Nat} (l1 : List Nat) {l2 : List Nat}, Pg.Way es a (l1 ++ x :: l2) b → Pg.Way es a (l1 ++ [x]) x
  | _, _, _, [], _, h => by cases h with | cons h1 _ => exact .cons h1 (.nil _)
  | _, _, _, _ :: l1, _, h => by cases h with | cons h1 h2 => exact .cons h1 (Way.head l1 h2)

theorem Way.turn {es : List (Nat × Nat)} {b : Nat} : ∀ (l : List Nat) {a : Nat}, Pg.Way es a l b → ¬ (a :: l).Nodup → ∃ x ∈ a :: l, Pg.Reach es x x
  | [], a, _, h => absurd (by simp) h
  | c :: l, a, hw, hn => by
    by_cases ha : a ∈ c :: l
    · obtain ⟨l1, l2, he⟩ := List.append_of_mem ha
      rw [he] at hw
      exact ⟨a, by simp, l1 ++ [a], by simp, Way.head l1 hw⟩
    · have hn2 : ¬ (c :: l).Nodup := fun h => hn (List.nodup_cons.2 ⟨ha, h⟩)
      cases hw with
      | cons h1 h2 =>
        obtain ⟨x, hx, hr⟩ := Way.turn l h2 hn2
        exact ⟨x, List.mem_cons_of_mem _ hx, hr⟩

theorem pick_some {es : List (Nat × Nat)} {T : Nat} {out : List Nat} (h1 : ∀ e ∈ es, e.1 < T) (hac : ∀ t, t < T → ¬ Pg.Reach es t t) (hlt : ∃ t, t < T ∧ t ∉ out) : ∃ t, pickT es T out = some t ∧ t < T ∧ mayCome es out t = true := by
  cases hp : pickT es T out with
  | some t =>
    have hm := List.find?_some hp
    have hr := List.mem_of_find?_eq_some hp
    exact ⟨t, rfl, by simpa using hr, hm⟩
  | none =>
    exfalso
    unfold pickT at hp
    rw [List.find?_eq_none] at hp
    obtain ⟨t, htT, hto⟩ := hlt
    have hU : ∀ u, (u < T ∧ u ∉ out) → ∃ v, (v < T ∧ v ∉ out) ∧ (v, u) ∈ es := by
      rintro u ⟨hu, huo⟩
      have hno := hp u (by simpa using hu)
      rw [mayCome_iff] at hno
      have : ¬ ∀ s, (s, u) ∈ es → s ∈ out := fun h => hno ⟨huo, h⟩
      obtain ⟨s, hs'⟩ := Classical.not_forall.1 this
      obtain ⟨hs, hso⟩ := Classical.not_imp.1 hs'
      exact ⟨s, ⟨h1 _ hs, hso⟩, hs⟩
    obtain ⟨a, l, _, hl, hw, hx⟩ := Way.lower (U := fun u => u < T ∧ u ∉ out) hU ⟨htT, hto⟩ T
    have hnn : ¬ (a :: l).Nodup := fun hn => by
      have := Pg.nodup_le T (a :: l) hn (fun x hx' => (hx x hx').1)
      simp only [List.length_cons] at this
      omega
    obtain ⟨x, hx', hr⟩ := Way.turn l hw hnn
    exact hac x (hx x hx').1 hr

/-- what holds of the first tasks of the order -/
structure OrderInv (es : List (Nat × Nat)) (T n : Nat) (o : List Nat) : Prop where
  len : o.length = n
  nodup : o.Nodup
  lt : ∀ x ∈ o, x < T
  closed : ∀ i (h : i < o.length) s, (s, o[i]) ∈ es → s ∈ o.take i

theorem all_le : ∀ (T : Nat) (o : List Nat), (∀ t, t < T → t ∈ o) → T ≤ o.length
  | 0, _, _ => Nat.zero_le _
  | T + 1, o, h => by
    have h1 := all_le T (o.erase T) (fun t ht => (List.mem_erase_of_ne (by omega)).2 (h t (by omega)))
    have h2 := h T (by omega)
    have h3 := List.length_pos_of_mem h2
    rw [List.length_erase_of_mem h2] at h1
    omega
theorem exists_out {T : Nat} {o : List Nat} (hl : o.length < T) : ∃ t, t < T ∧ t ∉ o := by
  refine Classical.byContradiction fun h => ?_
  have := all_le T o (fun t ht => Classical.byContradiction fun hn => h ⟨t, ht, hn⟩)
  omega

theorem orderL_inv {es : List (Nat × Nat)} {T : Nat} (h1 : ∀ e ∈ es, e.1 < T) (hac : ∀ t, t < T → ¬ Pg.Reach es t t) : ∀ n, n ≤ T → OrderInv es T n (orderL es T n)
  | 0, _ => ⟨rfl, by simp [orderL], by simp [orderL], fun i h => absurd h (by simp [orderL])⟩
  | n + 1, hn => by
    have ih := orderL_inv h1 hac n (by omega)
    obtain ⟨t, hp, htT, hm⟩ := pick_some h1 hac (exists_out (T := T) (o := orderL es T n) (by rw [ih.len]; omega))
    obtain ⟨m1, m2⟩ := mayCome_iff.1 hm
    have he : orderL es T (n + 1) = orderL es T n ++ [t] := by
      show (match pickT es T (orderL es T n) with | some t => orderL es T n ++ [t] | none => orderL es T n) = _
      rw [hp]
    rw [he]
    refine ⟨by simp [ih.len], nodup_snoc.2 ⟨ih.nodup, m1⟩, ?_, ?_⟩
    · intro x hx
      rcases List.mem_append.1 hx with h | h
      · exact ih.lt x h
      · rw [List.mem_singleton.1 h]; exact htT
    · intro i hi s hs
      simp only [List.length_append, List.length_singleton] at hi
      by_cases hin : i < (orderL es T n).length
      · rw [List.getElem_append_left hin] at hs
        rw [List.take_append_of_le_length (by omega)]
        exact ih.closed i hin s hs
      · have hi' : i = (orderL es T n).length := by omega
        subst hi'
        rw [List.getElem_append_right (by omega)] at hs
        simp only [Nat.sub_self, List.getElem_cons_zero] at hs
        rw [List.take_append_of_le_length (Nat.le_refl _), List.take_length]
        exact m2 s hs

theorem orderL_succ {es : List (Nat × Nat)} {T n t : Nat} (hp : pickT es T (orderL es T n) = some t) : orderL es T (n + 1) = orderL es T n ++ [t] := by
  show (match pickT es T (orderL es T n) with | some t => orderL es T n ++ [t] | none => orderL es T n) = _
  rw [hp]
theorem pickT_first {es : List (Nat × Nat)} {T t : Nat} {out : List Nat} (htT : t < T) (hm : mayCome es out t = true) (hno : ∀ s, s < t → mayCome es out s = false) : pickT es T out = some t := by
  unfold pickT
  rw [List.find?_eq_some_iff_getElem]
  refine ⟨hm, t, by simpa using htT, by simp, fun j hj => ?_⟩
  simp [hno j hj]
end Go.Proofs.Ytoccmpijfggmkaa
