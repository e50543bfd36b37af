/-
  The earliest and the latest times of a plan: plain facts.
-/
import Derived.Test.YtoccmpijfggmkaaTi
import Derived.Test.YtoccmpijfggmkaaSd
namespace Go.Proofs.Ytoccmpijfggmkaa
open Go.RowKit
set_option linter.unusedVariables false

theorem order_all {es : List (Nat × Nat)} {T : Nat} {o : List Nat} (ho : OrderInv es T T o) {t : Nat} (ht : t < T) : t ∈ o := by
  refine Classical.byContradiction fun hn => ?_
  have := Pg.nodup_le T (t :: o) (List.nodup_cons.2 ⟨hn, ho.nodup⟩) (by
    intro x hx
    rcases List.mem_cons.1 hx with rfl | hx
    · exact ht
    · exact ho.lt x hx)
  simp only [List.length_cons, ho.len] at this
  omega
theorem beforeL_iff {es : List (Nat × Nat)} {T t s : Nat} (h1 : ∀ e ∈ es, e.1 < T) : s ∈ beforeL es T t ↔ (s, t) ∈ es := by
  unfold beforeL
  simp only [List.mem_filter, List.mem_range, decide_eq_true_eq]
  exact ⟨fun h => h.2, fun h => ⟨h1 _ h, h⟩⟩
theorem behindL_iff {es : List (Nat × Nat)} {T t s : Nat} (h2 : ∀ e ∈ es, e.2 < T) : s ∈ behindL es T t ↔ (t, s) ∈ es := by
  unfold behindL
  simp only [List.mem_filter, List.mem_range, decide_eq_true_eq]
  exact ⟨fun h => h.2, fun h => ⟨h2 _ h, h⟩⟩

theorem earFold_get {l : List Int} {t : Nat} : ∀ (B : List Nat) (S : List Int), t < S.length → t ∉ B →
    (∀ x, x ≠ t → (B.foldl (earStep l t) S).getD x 0 = S.getD x 0) ∧ S.getD t 0 ≤ (B.foldl (earStep l t) S).getD t 0 ∧ (∀ b ∈ B, S.getD b 0 + l.getD b 0 ≤ (B.foldl (earStep l t) S).getD t 0) ∧
      ((B.foldl (earStep l t) S).getD t 0 = S.getD t 0 ∨ ∃ b ∈ B, (B.foldl (earStep l t) S).getD t 0 = S.getD b 0 + l.getD b 0)
  | [], S, _, _ => ⟨fun _ _ => rfl, Int.le_refl _, fun b hb => absurd hb (by simp), .inl rfl⟩
  | b :: B, S, ht, hn => by
    have hnb : t ≠ b := fun e => hn (by rw [e]; exact List.mem_cons_self)
    have hnB : t ∉ B := fun e => hn (List.mem_cons_of_mem _ e)
    have hS : ∀ x, (earStep l t S b).getD x 0 = if t = x then max (S.getD t 0) (S.getD b 0 + l.getD b 0) else S.getD x 0 := fun x => setD _ _ _ _ _ ht
    obtain ⟨a1, a2, a3, a4⟩ := earFold_get (l := l) (t := t) B (earStep l t S b) (by rw [earStep_len]; exact ht) hnB
    rw [List.foldl_cons]
    rw [hS, if_pos rfl] at a2
    have key : ∀ c ∈ B, (earStep l t S b).getD c 0 = S.getD c 0 := fun c hc => by rw [hS, if_neg (by rintro rfl; exact hnB hc)]
    refine ⟨fun x hx => by rw [a1 x hx, hS, if_neg (Ne.symm hx)], by omega, ?_, ?_⟩
    · intro c hc
      rcases List.mem_cons.1 hc with rfl | hc
      · omega
      · have := a3 c hc
        rw [key c hc] at this
        exact this
    · rcases a4 with a4 | ⟨c, hc, a4⟩
      · rw [hS, if_pos rfl] at a4
        rcases Int.le_total (S.getD t 0) (S.getD b 0 + l.getD b 0) with hle | hle
        · exact .inr ⟨b, List.mem_cons_self, by rw [a4, Int.max_eq_right hle]⟩
        · exact .inl (by rw [a4, Int.max_eq_left hle])
      · exact .inr ⟨c, List.mem_cons_of_mem _ hc, by rw [a4, key c hc]⟩

section
variable {es : List (Nat × Nat)} {T : Nat} {l o : List Int} {ord : List Nat}

def earPre (es : List (Nat × Nat)) (T : Nat) (l : List Int) (ord : List Nat) (i : Nat) : List Int := (ord.take i).foldl (earTask es T l) (List.replicate T 0)
theorem earPre_len (es : List (Nat × Nat)) (T : Nat) (l : List Int) (ord : List Nat) (i : Nat) : (earPre es T l ord i).length = T := earL_len es T l (ord.take i)
structure EarInv (es : List (Nat × Nat)) (T : Nat) (l : List Int) (ord : List Nat) (i : Nat) (S : List Int) : Prop where
  rest : ∀ t, t ∉ ord.take i → S.getD t 0 = 0
  nn : ∀ t, 0 ≤ S.getD t 0
  le : ∀ j (h : j < ord.length), j < i → ∀ a, (a, ord[j]) ∈ es → S.getD a 0 + l.getD a 0 ≤ S.getD ord[j] 0
  eq : ∀ j (h : j < ord.length), j < i → S.getD ord[j] 0 = 0 ∨ ∃ a, (a, ord[j]) ∈ es ∧ S.getD ord[j] 0 = S.getD a 0 + l.getD a 0
theorem earPre_inv (h1 : ∀ e ∈ es, e.1 < T) (hac : ∀ t, t < T → ¬ Pg.Reach es t t) (ho : OrderInv es T T ord) : ∀ i, i ≤ T → EarInv es T l ord i (earPre es T l ord i)
  | 0, _ => by
    have hz : ∀ t, (earPre es T l ord 0).getD t 0 = 0 := fun t => by
      show (List.replicate T (0 : Int)).getD t 0 = 0
      rw [List.getD_eq_getElem?_getD, List.getElem?_replicate]
      split <;> rfl
    exact ⟨fun t _ => hz t, fun t => by rw [hz]; exact Int.le_refl _, fun j _ h => absurd h (by omega), fun j _ h => absurd h (by omega)⟩
  | i + 1, hi => by
    have ih := earPre_inv h1 hac ho i (by omega)
    have hio : i < ord.length := by rw [ho.len]; omega
    have hlt := ho.lt _ (List.getElem_mem hio)
    have hpre : earPre es T l ord (i + 1) = earTask es T l (earPre es T l ord i) ord[i] := by
      unfold earPre
      rw [take_snoc ord i hio, List.foldl_append]
      rfl
    have hself : ord[i] ∉ beforeL es T ord[i] := fun h => hac _ hlt (Pg.Reach.one ((beforeL_iff h1).1 h))
    obtain ⟨a1, a2, a3, a4⟩ := earFold_get (l := l) (beforeL es T ord[i]) (earPre es T l ord i) (by rw [earPre_len]; exact hlt) hself
    have hnin : ord[i] ∉ ord.take i := fun h => by
      obtain ⟨j, hj, he⟩ := List.mem_take_iff_getElem.1 h
      have := List.pairwise_iff_getElem.1 ho.nodup j i (by omega) hio (by omega)
      exact this he
    have hz := ih.rest _ hnin
    rw [hpre]
    change EarInv es T l ord (i + 1) ((beforeL es T ord[i]).foldl (earStep l ord[i]) (earPre es T l ord i))
    generalize (beforeL es T ord[i]).foldl (earStep l ord[i]) (earPre es T l ord i) = R at *
    have hold : ∀ j (h : j < ord.length), j < i → R.getD ord[j] 0 = (earPre es T l ord i).getD ord[j] 0 := fun j h hji => a1 _ (fun e => hnin (by rw [← e]; exact List.mem_take_iff_getElem.2 ⟨j, by omega, rfl⟩))
    have hpred : ∀ j (h : j < ord.length), j ≤ i → ∀ a, (a, ord[j]) ∈ es → R.getD a 0 = (earPre es T l ord i).getD a 0 := by
      intro j h hji a ha
      have hm := ho.closed j h a ha
      refine a1 _ (fun e => ?_)
      rw [e] at hm
      obtain ⟨k, hk, he⟩ := List.mem_take_iff_getElem.1 hm
      exact hnin (List.mem_take_iff_getElem.2 ⟨k, by omega, he⟩)
    refine ⟨?_, ?_, ?_, ?_⟩
    · intro t ht
      rw [take_snoc ord i hio] at ht
      simp only [List.mem_append, List.mem_singleton, not_or] at ht
      rw [a1 t ht.2]
      exact ih.rest t ht.1
    · intro t
      by_cases e : t = ord[i]
      · rw [e]; omega
      · rw [a1 t e]; exact ih.nn t
    · intro j h hji a ha
      rw [hpred j h (by omega) a ha]
      by_cases e : j = i
      · subst e
        exact a3 a ((beforeL_iff h1).2 ha)
      · rw [hold j h (by omega)]
        exact ih.le j h (by omega) a ha
    · intro j h hji
      by_cases e : j = i
      · subst e
        rcases a4 with a4 | ⟨b, hb, a4⟩
        · exact .inl (by rw [a4, hz])
        · exact .inr ⟨b, (beforeL_iff h1).1 hb, by rw [a4, hpred j h (by omega) b ((beforeL_iff h1).1 hb)]⟩
      · rw [hold j h (by omega)]
        rcases ih.eq j h (by omega) with h0 | ⟨a, ha, h0⟩
        · exact .inl h0
        · exact .inr ⟨a, ha, by rw [h0, hpred j h (by omega) a ha]⟩
end

/-- the facts on the earliest and the latest times of a plan that is right -/
structure Times (es : List (Nat × Nat)) (T : Nat) (l E D : List Int) (L : Int) : Prop where
  elen : E.length = T
  enn : ∀ t, 0 ≤ E.getD t 0
  ele : ∀ e ∈ es, E.getD e.1 0 + l.getD e.1 0 ≤ E.getD e.2 0
  eeq : ∀ t, t < T → E.getD t 0 = 0 ∨ ∃ a, (a, t) ∈ es ∧ E.getD t 0 = E.getD a 0 + l.getD a 0
  elong : ∀ t, t < T → E.getD t 0 + l.getD t 0 ≤ L
  emax : ∃ t, t < T ∧ E.getD t 0 + l.getD t 0 = L
  dlen : D.length = T
  dle : ∀ e ∈ es, D.getD e.1 0 + l.getD e.1 0 ≤ D.getD e.2 0
  dlong : ∀ t, t < T → D.getD t 0 + l.getD t 0 ≤ L
  ed : ∀ t, t < T → E.getD t 0 ≤ D.getD t 0
  lwork : L ≤ l.sum

theorem longUpto_is {E l : List Int} (hE : ∀ t, 0 ≤ E.getD t 0) : ∀ k, (∀ t, t < k → E.getD t 0 + l.getD t 0 ≤ longUpto E l k) ∧ (longUpto E l k = 0 ∨ ∃ t, t < k ∧ E.getD t 0 + l.getD t 0 = longUpto E l k) ∧ 0 ≤ longUpto E l k
  | 0 => ⟨fun t h => absurd h (by omega), .inl rfl, Int.le_refl _⟩
  | k + 1 => by
    obtain ⟨a1, a2, a3⟩ := longUpto_is (l := l) hE k
    have hd : longUpto E l (k + 1) = max (longUpto E l k) (E.getD k 0 + l.getD k 0) := rfl
    rw [hd]
    refine ⟨?_, ?_, by omega⟩
    · intro t ht
      by_cases e : t = k
      · subst e; omega
      · have := a1 t (by omega); omega
    · rcases Int.le_total (longUpto E l k) (E.getD k 0 + l.getD k 0) with hle | hle
      · exact .inr ⟨k, by omega, by rw [Int.max_eq_right hle]⟩
      · rw [Int.max_eq_left hle]
        rcases a2 with a2 | ⟨t, ht, a2⟩
        · exact .inl a2
        · exact .inr ⟨t, by omega, a2⟩

theorem latEnd_is {o : List Int} : ∀ (B : List Nat) (L : Int), latEnd L o B ≤ L ∧ (∀ b ∈ B, latEnd L o B ≤ o.getD b 0) ∧ (latEnd L o B = L ∨ ∃ b ∈ B, latEnd L o B = o.getD b 0)
  | [], L => ⟨Int.le_refl _, fun b hb => absurd hb (by simp), .inl rfl⟩
  | b :: B, L => by
    obtain ⟨a1, a2, a3⟩ := latEnd_is (o := o) B (min L (o.getD b 0))
    have hd : latEnd L o (b :: B) = latEnd (min L (o.getD b 0)) o B := rfl
    rw [hd]
    refine ⟨by omega, ?_, ?_⟩
    · intro c hc
      rcases List.mem_cons.1 hc with rfl | hc
      · omega
      · exact a2 c hc
    · rcases a3 with a3 | ⟨c, hc, a3⟩
      · rcases Int.le_total L (o.getD b 0) with hle | hle
        · exact .inl (by rw [a3, Int.min_eq_left hle])
        · exact .inr ⟨b, List.mem_cons_self, by rw [a3, Int.min_eq_right hle]⟩
      · exact .inr ⟨c, List.mem_cons_of_mem _ hc, a3⟩
theorem latEnd_same {o o' : List Int} : ∀ (B : List Nat) (L : Int), (∀ b ∈ B, o'.getD b 0 = o.getD b 0) → latEnd L o' B = latEnd L o B
  | [], L, _ => rfl
  | b :: B, L, h => by
    show latEnd (min L (o'.getD b 0)) o' B = latEnd (min L (o.getD b 0)) o B
    rw [h b List.mem_cons_self]
    exact latEnd_same B _ fun c hc => h c (List.mem_cons_of_mem _ hc)

section
variable {es : List (Nat × Nat)} {T : Nat} {l : List Int} {ord : List Nat} {L : Int}
theorem order_next (ho : OrderInv es T T ord) {i : Nat} (hi : i < ord.length) {s : Nat} (hs : (ord[i], s) ∈ es) (hsT : s < T) : ∃ k, ∃ hk : k < ord.length, i < k ∧ ord[k] = s := by
  obtain ⟨k, hk, rfl⟩ := List.getElem_of_mem (order_all ho hsT)
  have hm := ho.closed k hk _ hs
  obtain ⟨j, hj, he⟩ := List.mem_take_iff_getElem.1 hm
  refine ⟨k, hk, ?_, rfl⟩
  rcases Nat.lt_trichotomy i j with h | h | h
  · omega
  · omega
  · exact absurd he (List.pairwise_iff_getElem.1 ho.nodup j i (by omega) hi h)
theorem lat_inv (h2 : ∀ e ∈ es, e.2 < T) (ho : OrderInv es T T ord) : ∀ n, n ≤ T → ∀ j (h : j < ord.length), T - n ≤ j → (latL es T L l (ord.drop (T - n))).getD ord[j] 0 = latEnd L (latL es T L l (ord.drop (T - n))) (behindL es T ord[j]) - l.getD ord[j] 0
  | 0, _ => fun j h hj => absurd h (by rw [ho.len]; omega)
  | n + 1, hn => by
    intro j h hj
    have hi : T - (n + 1) < ord.length := by rw [ho.len]; omega
    have hsucc : T - (n + 1) + 1 = T - n := by omega
    have hc := latL_cons es T L l ord hi
    rw [hsucc] at hc
    have ih := lat_inv h2 ho n (by omega)
    rw [hc]
    generalize hD : latL es T L l (ord.drop (T - n)) = D at *
    have hDl : D.length = T := by rw [← hD, latL_len]
    have hne : ∀ k (hk : k < ord.length), T - (n + 1) < k → ord[T - (n + 1)] ≠ ord[k] := fun k hk hlt => List.pairwise_iff_getElem.1 ho.nodup _ k hi hk hlt
    have hsame : ∀ i (hi' : i < ord.length), T - (n + 1) ≤ i → ∀ b ∈ behindL es T ord[i], (D.set ord[T - (n + 1)] (latEnd L D (behindL es T ord[T - (n + 1)]) - l.getD ord[T - (n + 1)] 0)).getD b 0 = D.getD b 0 := by
      intro i hi' hle b hb
      obtain ⟨k, hk, hik, rfl⟩ := order_next ho hi' ((behindL_iff h2).1 hb) (h2 _ ((behindL_iff h2).1 hb))
      rw [setD _ _ _ _ _ (by rw [hDl]; exact ho.lt _ (List.getElem_mem hi)), if_neg (hne k hk (by omega))]
    by_cases e : j = T - (n + 1)
    · subst e
      rw [latEnd_same _ _ (hsame _ hi (Nat.le_refl _)), setD _ _ _ _ _ (by rw [hDl]; exact ho.lt _ (List.getElem_mem hi)), if_pos rfl]
    · rw [latEnd_same _ _ (hsame j h hj), setD _ _ _ _ _ (by rw [hDl]; exact ho.lt _ (List.getElem_mem hi)), if_neg (hne j h (by omega))]
      exact ih j h (by omega)

/-- sums over the first tasks of the order -/
def ordSum (l : List Int) (ord : List Nat) (i : Nat) : Int := ((ord.take i).map fun t => l.getD t 0).sum
theorem ordSum_succ (l : List Int) {ord : List Nat} {i : Nat} (h : i < ord.length) : ordSum l ord (i + 1) = ordSum l ord i + l.getD ord[i] 0 := by
  unfold ordSum
  rw [take_snoc ord i h, List.map_append, List.sum_append, List.map_singleton, List.sum_singleton]
theorem ordSum_mono (hl : ∀ x ∈ l, 1 ≤ x ∧ x ≤ 1000) {i : Nat} : ∀ n, i + n ≤ ord.length → ordSum l ord i ≤ ordSum l ord (i + n)
  | 0, _ => Int.le_refl _
  | n + 1, h => by
    have := ordSum_mono hl (i := i) n (by omega)
    rw [← Nat.add_assoc, ordSum_succ l (show i + n < ord.length by omega)]
    have h2 : 0 ≤ l.getD ord[i + n] 0 := by
      rw [List.getD_eq_getElem?_getD]
      cases hk : l[ord[i + n]]? with
      | none => simp
      | some y => have := hl y (List.mem_of_getElem? hk); simp; omega
    omega
theorem sum_range (l : List Int) : ((List.range l.length).map fun t => l.getD t 0) = l := by
  apply List.ext_getElem (by simp)
  intro i h1 h2
  simp [List.getD_eq_getElem?_getD, h2]
theorem perm_sum {a b : List Int} (h : a.Perm b) : a.sum = b.sum := by
  induction h with
  | nil => rfl
  | cons x _ ih => simp [ih]
  | swap x y l => simp only [List.sum_cons]; omega
  | trans _ _ h1 h2 => rw [h1, h2]
theorem ordSum_all (ho : OrderInv es T T ord) (hl : l.length = T) : ordSum l ord T = l.sum := by
  have hp : ord.Perm (List.range T) := by
    refine (List.perm_ext_iff_of_nodup ho.nodup List.nodup_range).2 fun t => ?_
    exact ⟨fun h => List.mem_range.2 (ho.lt t h), fun h => order_all ho (List.mem_range.1 h)⟩
  unfold ordSum
  rw [List.take_of_length_le (by rw [ho.len]; omega)]
  have h1 := perm_sum (hp.map fun t => l.getD t 0)
  rw [h1, ← hl, sum_range]
end

theorem times_of {p : Plan} {l : List Int} (hf : weightsOk p l = true) : Times (esOf p) p.tasks.toNat l (earliestOf p l) (latestOf p l) (longestOf p l) := by
  obtain ⟨g1, g2, g3⟩ := weightsOk_all hf
  obtain ⟨q1, q2, q3, q4⟩ := planFault_zero.1 g1
  have hT := manyOk_tasks q1
  obtain ⟨h1, h2⟩ := esOf_lt q2
  have ho := orderOf_inv g1
  have hac := plan_ac g1
  have hlen : l.length = p.tasks.toNat := by omega
  have he : earliestOf p l = earPre (esOf p) p.tasks.toNat l (orderOf p) p.tasks.toNat := by
    unfold earliestOf earPre
    rw [if_pos hf, List.take_of_length_le (by rw [ho.len]; exact Nat.le_refl _)]
    rfl
  have hd : latestOf p l = latL (esOf p) p.tasks.toNat (longestOf p l) l (orderOf p) := by
    unfold latestOf
    rw [if_pos hf]
  have hEi := earPre_inv (l := l) h1 hac ho _ (Nat.le_refl _)
  rw [← he] at hEi
  have hel : (earliestOf p l).length = p.tasks.toNat := by rw [he, earPre_len]
  obtain ⟨u1, u2, u3⟩ := longUpto_is (l := l) hEi.nn (earliestOf p l).length
  have hL : longestOf p l = longUpto (earliestOf p l) l p.tasks.toNat := by unfold longestOf; rw [hel]
  rw [hel] at u1 u2
  rw [← hL] at u1 u2
  have hDi := lat_inv (l := l) (L := longestOf p l) h2 ho p.tasks.toNat (Nat.le_refl _)
  rw [Nat.sub_self, List.drop_zero, ← hd] at hDi
  have hw : ∀ t, t < p.tasks.toNat → 1 ≤ l.getD t 0 := fun t ht => (g3 _ (getD_mem (by omega) 0)).1
  have eeq : ∀ t, t < p.tasks.toNat → (earliestOf p l).getD t 0 = 0 ∨ ∃ a, (a, t) ∈ esOf p ∧ (earliestOf p l).getD t 0 = (earliestOf p l).getD a 0 + l.getD a 0 := by
    intro t ht
    obtain ⟨j, hj, rfl⟩ := List.getElem_of_mem (order_all ho ht)
    exact hEi.eq j hj (by rw [← ho.len]; exact hj)
  have ele : ∀ e ∈ esOf p, (earliestOf p l).getD e.1 0 + l.getD e.1 0 ≤ (earliestOf p l).getD e.2 0 := by
    rintro ⟨a, b⟩ hab
    obtain ⟨j, hj, hjb⟩ := List.getElem_of_mem (order_all ho (h2 _ hab))
    simp only at hjb ⊢
    subst hjb
    exact hEi.le j hj (by rw [← ho.len]; exact hj) a hab
  have hDat : ∀ t, t < p.tasks.toNat → (latestOf p l).getD t 0 = latEnd (longestOf p l) (latestOf p l) (behindL (esOf p) p.tasks.toNat t) - l.getD t 0 := by
    intro t ht
    obtain ⟨j, hj, rfl⟩ := List.getElem_of_mem (order_all ho ht)
    exact hDi j hj (Nat.zero_le _)
  refine ⟨hel, hEi.nn, ele, eeq, u1, ?_, by rw [hd, latL_len], ?_, ?_, ?_, ?_⟩
  · rcases u2 with u2 | u2
    · have h3 := u1 0 (by omega)
      have h4 := hEi.nn 0
      have h5 := hw 0 (by omega)
      omega
    · exact u2
  · rintro ⟨a, b⟩ hab
    have h3 := hDat a (h1 _ hab)
    have h4 := (latEnd_is (o := latestOf p l) (behindL (esOf p) p.tasks.toNat a) (longestOf p l)).2.1 b ((behindL_iff h2).2 hab)
    simp only
    omega
  · intro t ht
    have h3 := hDat t ht
    have h4 := (latEnd_is (o := latestOf p l) (behindL (esOf p) p.tasks.toNat t) (longestOf p l)).1
    omega
  · -- from the order's end on
    have key : ∀ n j (h : j < (orderOf p).length), p.tasks.toNat - n ≤ j → (earliestOf p l).getD (orderOf p)[j] 0 ≤ (latestOf p l).getD (orderOf p)[j] 0 := by
      intro n
      induction n with
      | zero => intro j h hj; exact absurd h (by rw [ho.len]; omega)
      | succ n ih =>
        intro j h hj
        have hjT := ho.lt _ (List.getElem_mem h)
        rw [hDat _ hjT]
        rcases (latEnd_is (o := latestOf p l) (behindL (esOf p) p.tasks.toNat (orderOf p)[j]) (longestOf p l)).2.2 with h3 | ⟨b, hb, h3⟩
        · have := u1 _ hjT
          omega
        · have hes := (behindL_iff h2).1 hb
          obtain ⟨k, hk, hjk, rfl⟩ := order_next ho h hes (h2 _ hes)
          have h4 := ih k hk (by omega)
          have h5 := ele _ hes
          simp only at h5
          omega
    intro t ht
    obtain ⟨j, hj, rfl⟩ := List.getElem_of_mem (order_all ho ht)
    exact key p.tasks.toNat j hj (by omega)
  · have key : ∀ j (h : j < (orderOf p).length), (earliestOf p l).getD (orderOf p)[j] 0 ≤ ordSum l (orderOf p) j := by
      intro j
      induction j using Nat.strongRecOn with
      | _ j ih =>
        intro h
        have hjT := ho.lt _ (List.getElem_mem h)
        have h0 : 0 ≤ ordSum l (orderOf p) j := by
          have := ordSum_mono (ord := orderOf p) (i := 0) g3 j (by omega)
          rw [Nat.zero_add] at this
          simpa [ordSum] using this
        rcases eeq _ hjT with h3 | ⟨a, ha, h3⟩
        · omega
        · have hm := ho.closed j h a ha
          obtain ⟨k, hk, hka⟩ := List.mem_take_iff_getElem.1 hm
          subst hka
          have h4 := ih k (by omega) (by omega)
          have h5 := ordSum_succ l (ord := orderOf p) (i := k) (by omega)
          have h6 := ordSum_mono (ord := orderOf p) (i := k + 1) g3 (j - (k + 1)) (by omega)
          rw [show k + 1 + (j - (k + 1)) = j from by omega] at h6
          omega
    have hall := ordSum_all ho hlen
    rcases u2 with u2 | ⟨t, ht, u2⟩
    · rw [u2]
      have := ordSum_mono (ord := orderOf p) (i := 0) g3 p.tasks.toNat (by rw [ho.len]; omega)
      rw [Nat.zero_add, hall] at this
      simpa [ordSum] using this
    · obtain ⟨j, hj, rfl⟩ := List.getElem_of_mem (order_all ho ht)
      have h4 := key j hj
      have hj' : j < p.tasks.toNat := by have := ho.len; omega
      have h5 := ordSum_succ l (ord := orderOf p) (i := j) hj
      have h6 := ordSum_mono (ord := orderOf p) (i := j + 1) g3 (p.tasks.toNat - (j + 1)) (by rw [ho.len]; omega)
      rw [show j + 1 + (p.tasks.toNat - (j + 1)) = p.tasks.toNat from by omega, hall] at h6
      omega
end Go.Proofs.Ytoccmpijfggmkaa
