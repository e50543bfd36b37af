/-
  Plain facts on plans turned round, reduced, laid beside and behind each other. The small helpers of the laws: lists and plans that are the same, a number in a list, ones. Plain facts for the law on weights: the slack, what is tight; a drawn plan fits its weights. A plan with weights that is drawn twice, and what is kept of it.
-/
import Derived.Test.YtnaicippgocdfaaZJ5
section
namespace Go.Proofs.Ytnaicippgocdfaa
open Go.RowKit
set_option maxRecDepth 100000
set_option maxHeartbeats 1000000
set_option linter.unusedVariables false

theorem Way.mono {es es' : List (Nat × Nat)} (hs : ∀ e ∈ es, e ∈ es') {a b : Nat} {l : List Nat} (h : Pg.Way es a l b) : Pg.Way es' a l b := by
  induction h with
  | nil a => exact .nil a
  | cons h1 _ ih => exact .cons (hs _ h1) ih
theorem Reach.mono {es es' : List (Nat × Nat)} (hs : ∀ e ∈ es, e ∈ es') {a b : Nat} (h : Pg.Reach es a b) : Pg.Reach es' a b := by
  obtain ⟨l, hl, hw⟩ := h
  exact ⟨l, hl, Way.mono hs hw⟩
theorem Way.flip {es es' : List (Nat × Nat)} (hs : ∀ e ∈ es, (e.2, e.1) ∈ es') {a b : Nat} {l : List Nat} (h : Pg.Way es a l b) : l ≠ [] → Pg.Reach es' b a := by
  induction h with
  | nil a => intro h; exact absurd rfl h
  | @cons a c b l h1 h2 ih =>
    intro _
    by_cases hl : l = []
    · subst hl
      cases h2
      exact Pg.Reach.one (hs _ h1)
    · exact Pg.Reach.snoc (ih hl) (hs _ h1)
theorem Reach.flip {es es' : List (Nat × Nat)} (hs : ∀ e ∈ es, (e.2, e.1) ∈ es') {a b : Nat} (h : Pg.Reach es a b) : Pg.Reach es' b a := by
  obtain ⟨l, hl, hw⟩ := h
  exact Way.flip hs hw hl
theorem mem_esOf {p : Plan} {x : Nat × Nat} : x ∈ esOf p ↔ ∃ e ∈ p.edges, x = (e.fr.toNat, e.to.toNat) := by
  simp only [esOf, esL, List.mem_map]
  constructor
  · rintro ⟨e, he, rfl⟩; exact ⟨e, he, rfl⟩
  · rintro ⟨e, he, rfl⟩; exact ⟨e, he, rfl⟩

/-! turned round -/
theorem rev_eq {p : Plan} (hf : planFault p = 0) : reversed p = { p with edges := p.edges.map flipE } := by unfold reversed; rw [if_pos hf]
theorem flipE_inj {a b : Edge} (h : flipE a = flipE b) : a = b := by
  cases a; cases b
  simp only [flipE, Edge.mk.injEq] at h
  rw [h.1, h.2]
theorem rev_es {p : Plan} (hf : planFault p = 0) {x y : Nat} : (x, y) ∈ esOf (reversed p) ↔ (y, x) ∈ esOf p := by
  rw [mem_esOf, mem_esOf, rev_eq hf]
  constructor
  · rintro ⟨e, he, hx⟩
    obtain ⟨e0, he0, rfl⟩ := List.mem_map.1 he
    simp only [flipE, Prod.mk.injEq] at hx
    exact ⟨e0, he0, by rw [hx.1, hx.2]⟩
  · rintro ⟨e, he, hx⟩
    simp only [Prod.mk.injEq] at hx
    exact ⟨flipE e, List.mem_map.2 ⟨e, he, rfl⟩, by simp only [flipE]; rw [hx.1, hx.2]⟩
theorem nodup_map_flip : ∀ {l : List Edge}, l.Nodup → (l.map flipE).Nodup
  | [], _ => by simp
  | e :: l, h => by
    rw [List.nodup_cons] at h
    rw [List.map_cons, List.nodup_cons]
    refine ⟨fun hm => ?_, nodup_map_flip h.2⟩
    obtain ⟨x, hx, he⟩ := List.mem_map.1 hm
    rw [flipE_inj he] at hx
    exact h.1 hx
theorem rev_fault {p : Plan} (hf : planFault p = 0) : planFault (reversed p) = 0 := by
  obtain ⟨h1, h2, h3, h4⟩ := planFault_zero.1 hf
  refine planFault_zero.2 ⟨?_, ?_, ?_, ?_⟩
  · rw [rev_eq hf]
    simpa [manyOk] using h1
  · rw [rev_eq hf]
    intro e he
    obtain ⟨e0, he0, rfl⟩ := List.mem_map.1 he
    have := h2 e0 he0
    simp only [edgeIn, flipE, Bool.and_eq_true] at this ⊢
    exact ⟨this.2, this.1⟩
  · rw [rev_eq hf]
    exact nodup_map_flip h3
  · rintro ⟨t, ht, hr⟩
    refine h4 ⟨t, by rw [rev_eq hf] at ht; exact ht, Reach.flip (fun e he => ?_) hr⟩
    exact (rev_es hf).1 he
theorem rev_tasks {p : Plan} (hf : planFault p = 0) : (reversed p).tasks = p.tasks := by rw [rev_eq hf]
theorem rev_rev {p : Plan} (hf : planFault p = 0) : reversed (reversed p) = p := by
  rw [rev_eq (rev_fault hf), rev_eq hf]
  simp only [List.map_map]
  have : (flipE ∘ flipE) = id := by
    funext e
    rfl
  rw [this, List.map_id]
theorem rev_sources {p : Plan} (hf : planFault p = 0) : sourcesOf (reversed p) = sinksOf p := by
  unfold sourcesOf sinksOf
  rw [if_pos (rev_fault hf), if_pos hf, rev_tasks hf]
  congr 1
  funext t
  unfold beforeL behindL
  apply List.filter_congr
  intro s _
  exact decide_eq_decide.2 (rev_es hf)
theorem rev_sinks {p : Plan} (hf : planFault p = 0) : sinksOf (reversed p) = sourcesOf p := by
  unfold sourcesOf sinksOf
  rw [if_pos (rev_fault hf), if_pos hf, rev_tasks hf]
  congr 1
  funext t
  unfold beforeL behindL
  apply List.filter_congr
  intro s _
  exact decide_eq_decide.2 (rev_es hf)

/-! ones -/
def onesL (p : Plan) : List Int := List.replicate p.tasks.toNat 1
theorem ones_getD {n t : Nat} (h : t < n) : (List.replicate n (1 : Int)).getD t 0 = 1 := by
  rw [List.getD_eq_getElem?_getD, List.getElem?_replicate, if_pos h]; rfl
theorem ones_ok {p : Plan} (hf : planFault p = 0) : weightsOk p (onesL p) = true := by
  have hT := manyOk_tasks (planFault_zero.1 hf).1
  unfold weightsOk onesL
  simp only [Bool.and_eq_true, decide_eq_true_eq, List.all_eq_true, List.length_replicate]
  refine ⟨⟨hf, by omega⟩, fun x hx => ?_⟩
  rw [(List.mem_replicate.1 hx).2]
  decide
/-- the earliest rises along a way -/
theorem reach_up {p : Plan} (hf : planFault p = 0) {a b : Nat} (h : Pg.Reach (esOf p) a b) : (earliestOf p (onesL p)).getD a 0 < (earliestOf p (onesL p)).getD b 0 := by
  have ht := times_of (ones_ok hf)
  have hl := esOf_lt (planFault_zero.1 hf).2.1
  obtain ⟨l, hne, hw⟩ := h
  induction hw with
  | nil a => exact absurd rfl hne
  | @cons a c b l h1 h2 ih =>
    have h3 := ht.ele _ h1
    have h4 : (onesL p).getD a 0 = 1 := ones_getD (hl.1 _ h1)
    simp only at h3
    by_cases hl0 : l = []
    · subst hl0
      cases h2
      omega
    · have := ih hl0
      omega
/-! reduced -/
theorem red_eq {p : Plan} (hf : planFault p = 0) : reduced p = { p with edges := p.edges.filter fun e => !redUpto p e p.tasks.toNat } := by unfold reduced; rw [if_pos hf]
theorem red_tasks {p : Plan} (hf : planFault p = 0) : (reduced p).tasks = p.tasks := by rw [red_eq hf]
theorem red_mem {p : Plan} (hf : planFault p = 0) {e : Edge} : e ∈ (reduced p).edges ↔ e ∈ p.edges ∧ redUpto p e p.tasks.toNat = false := by
  rw [red_eq hf]
  simp
theorem red_len {p : Plan} (hf : planFault p = 0) : (reduced p).edges.length ≤ p.edges.length := by
  rw [red_eq hf]
  exact List.length_filter_le _ _
theorem red_sub {p : Plan} (hf : planFault p = 0) : ∀ x ∈ esOf (reduced p), x ∈ esOf p := by
  intro x hx
  rw [mem_esOf] at hx ⊢
  obtain ⟨e, he, rfl⟩ := hx
  exact ⟨e, ((red_mem hf).1 he).1, rfl⟩
theorem reachB_is {p : Plan} (hf : planFault p = 0) {a b : Int} (ha : 0 ≤ a ∧ a < p.tasks) (hb : 0 ≤ b ∧ b < p.tasks) : reachB p a b = true ↔ Pg.Reach (esOf p) a.toNat b.toNat := by
  have h1 : isTaskB p a = true := by
    unfold isTaskB
    simp only [Bool.and_eq_true, decide_eq_true_eq, inB_iff]
    exact ⟨hf, by omega⟩
  have h2 : isTaskB p b = true := by
    unfold isTaskB
    simp only [Bool.and_eq_true, decide_eq_true_eq, inB_iff]
    exact ⟨hf, by omega⟩
  unfold reachB
  rw [h1, h2]
  simp
theorem redUpto_iff {p : Plan} (hf : planFault p = 0) {e : Edge} (he : e ∈ p.edges) : redUpto p e p.tasks.toNat = true ↔ ∃ k, Pg.Reach (esOf p) e.fr.toNat k ∧ Pg.Reach (esOf p) k e.to.toNat := by
  have hin := (planFault_zero.1 hf).2.1 e he
  simp only [edgeIn, Bool.and_eq_true, inB_iff] at hin
  have hl := esOf_lt (planFault_zero.1 hf).2.1
  have hT := manyOk_tasks (planFault_zero.1 hf).1
  unfold redUpto
  rw [List.any_eq_true]
  constructor
  · rintro ⟨k, hk, hb⟩
    rw [List.mem_range] at hk
    rw [Bool.and_eq_true, reachB_is hf (by omega) (by omega), reachB_is hf (by omega) (by omega)] at hb
    exact ⟨k, by simpa using hb⟩
  · rintro ⟨k, h1, h2⟩
    have hk : k < p.tasks.toNat := by
      obtain ⟨l, hne, hw⟩ := h2
      cases hw with
      | nil => exact absurd rfl hne
      | cons h3 _ => exact hl.1 _ h3
    refine ⟨k, List.mem_range.2 hk, ?_⟩
    rw [Bool.and_eq_true, reachB_is hf (by omega) (by omega), reachB_is hf (by omega) (by omega)]
    simpa using ⟨h1, h2⟩
theorem red_reach {p : Plan} (hf : planFault p = 0) : ∀ (n : Nat) (a b : Nat), Pg.Reach (esOf p) a b → ((earliestOf p (onesL p)).getD b 0 - (earliestOf p (onesL p)).getD a 0).toNat ≤ n → Pg.Reach (esOf (reduced p)) a b
  | 0, a, b, h, hn => by
    have := reach_up hf h
    omega
  | n + 1, a, b, h, hn => by
    by_cases hk : ∃ k, Pg.Reach (esOf p) a k ∧ Pg.Reach (esOf p) k b
    · obtain ⟨k, h1, h2⟩ := hk
      have e1 := reach_up hf h1
      have e2 := reach_up hf h2
      exact Pg.Reach.trans (red_reach hf n a k h1 (by omega)) (red_reach hf n k b h2 (by omega))
    · obtain ⟨l, hne, hw⟩ := h
      cases hw with
      | nil => exact absurd rfl hne
      | @cons _ c _ l h1 h2 =>
        by_cases hl : l = []
        · subst hl
          cases h2
          obtain ⟨e, he, hx⟩ := mem_esOf.1 h1
          simp only [Prod.mk.injEq] at hx
          refine Pg.Reach.one (mem_esOf.2 ⟨e, (red_mem hf).2 ⟨he, ?_⟩, by rw [hx.1, hx.2]⟩)
          rw [← Bool.not_eq_true, redUpto_iff hf he, ← hx.1, ← hx.2]
          exact hk
        · exact absurd ⟨c, Pg.Reach.one h1, l, hl, h2⟩ hk
theorem red_reach_iff {p : Plan} (hf : planFault p = 0) {a b : Nat} : Pg.Reach (esOf p) a b ↔ Pg.Reach (esOf (reduced p)) a b :=
  ⟨fun h => red_reach hf _ a b h (Nat.le_refl _), Reach.mono (red_sub hf)⟩
theorem red_fault {p : Plan} (hf : planFault p = 0) : planFault (reduced p) = 0 := by
  obtain ⟨h1, h2, h3, h4⟩ := planFault_zero.1 hf
  refine planFault_zero.2 ⟨?_, fun e he => ?_, ?_, ?_⟩
  · have hl := red_len hf
    rw [red_eq hf] at hl ⊢
    simp only [manyOk, Bool.and_eq_true, decide_eq_true_eq] at h1 ⊢
    simp only at hl
    exact ⟨⟨⟨⟨h1.1.1.1.1, by omega⟩, h1.1.1.2⟩, h1.1.2⟩, h1.2⟩
  · rw [red_tasks hf]
    exact h2 e ((red_mem hf).1 he).1
  · rw [red_eq hf]
    exact h3.filter _
  · rintro ⟨t, ht, hr⟩
    exact h4 ⟨t, by rw [red_tasks hf] at ht; exact ht, (red_reach_iff hf).2 hr⟩
theorem red_same {p : Plan} (hf : planFault p = 0) : sameOrder p (reduced p) = true := by
  simp only [sameOrder, decide_eq_true_eq]
  exact ⟨hf, red_fault hf, (red_tasks hf).symm, fun a b _ _ => red_reach_iff hf⟩
theorem red_red {p : Plan} (hf : planFault p = 0) : reduced (reduced p) = reduced p := by
  have h : (reduced p).edges.filter (fun e => !redUpto (reduced p) e (reduced p).tasks.toNat) = (reduced p).edges := by
    rw [List.filter_eq_self]
    intro e he
    rw [Bool.not_eq_true', ← Bool.not_eq_true, redUpto_iff (red_fault hf) he]
    rintro ⟨k, h1, h2⟩
    have h3 := ((red_mem hf).1 he)
    have h4 := (redUpto_iff hf h3.1).2 ⟨k, (red_reach_iff hf).2 h1, (red_reach_iff hf).2 h2⟩
    rw [h3.2] at h4
    exact absurd h4 (by simp)
  rw [red_eq (red_fault hf), h]

/-! one plan beside or behind another one -/
structure EarF (es : List (Nat × Nat)) (T : Nat) (l : List Int) (E : Nat → Int) : Prop where
  nn : ∀ t, t < T → 0 ≤ E t
  le : ∀ e ∈ es, E e.1 + l.getD e.1 0 ≤ E e.2
  eq : ∀ t, t < T → E t = 0 ∨ ∃ a, (a, t) ∈ es ∧ E t = E a + l.getD a 0
theorem EarF.unique_le {es : List (Nat × Nat)} {T : Nat} {l : List Int} {ord : List Nat} (hI : OrderInv es T T ord) {E F : Nat → Int} (hE : EarF es T l E) (hF : EarF es T l F) : ∀ n i (hi : i < ord.length), i < n → E ord[i] ≤ F ord[i]
  | 0, _, _, h => absurd h (by omega)
  | n + 1, i, hi, hn => by
    have ht := hI.lt _ (List.getElem_mem hi)
    rcases hE.eq _ ht with h0 | ⟨a, ha, h0⟩
    · have := hF.nn _ ht
      omega
    · have h1 := hF.le _ ha
      have h2 := hI.closed i hi a ha
      obtain ⟨j, hj, he⟩ := List.getElem_of_mem h2
      rw [List.length_take] at hj
      rw [List.getElem_take] at he
      have h3 := EarF.unique_le hI hE hF n j (by omega) (by omega)
      rw [he] at h3
      simp only at h1
      omega
theorem EarF.unique {es : List (Nat × Nat)} {T : Nat} {l : List Int} {ord : List Nat} (hI : OrderInv es T T ord) {E F : Nat → Int} (hE : EarF es T l E) (hF : EarF es T l F) {t : Nat} (ht : t < T) : E t = F t := by
  obtain ⟨i, hi, rfl⟩ := List.getElem_of_mem (order_all hI ht)
  have h1 := EarF.unique_le hI hE hF (i + 1) i hi (by omega)
  have h2 := EarF.unique_le hI hF hE (i + 1) i hi (by omega)
  omega
theorem Times.earF {es : List (Nat × Nat)} {T : Nat} {l E D : List Int} {L : Int} (h : Times es T l E D L) : EarF es T l (fun t => E.getD t 0) :=
  ⟨fun t _ => h.enn t, h.ele, h.eeq⟩
theorem join_tasks (p q : Plan) (m : List Edge) : (joinP p q m).tasks = p.tasks + q.tasks := rfl
theorem join_es {p q : Plan} (hf : planFault p = 0) (hg : planFault q = 0) (m : List Edge) {x : Nat × Nat} : x ∈ esOf (joinP p q m) ↔ x ∈ esOf p ∨ (∃ y ∈ esOf q, x = (y.1 + p.tasks.toNat, y.2 + p.tasks.toNat)) ∨ x ∈ esL m := by
  have hT := manyOk_tasks (planFault_zero.1 hf).1
  have hq := (planFault_zero.1 hg).2.1
  have e : (joinP p q m).edges = (p.edges ++ q.edges.map (shiftE p.tasks)) ++ m := by
    simp [joinP, joinL]
  unfold esOf
  rw [e]
  simp only [esL, List.map_append, List.mem_append, List.map_map]
  rw [or_assoc]
  refine or_congr Iff.rfl (or_congr ?_ Iff.rfl)
  simp only [List.mem_map, Function.comp]
  constructor
  · rintro ⟨a, ha, rfl⟩
    have := hq a ha
    simp only [edgeIn, Bool.and_eq_true, inB_iff] at this
    refine ⟨_, ⟨a, ha, rfl⟩, ?_⟩
    simp only [shiftE, Prod.mk.injEq]
    omega
  · rintro ⟨y, ⟨a, ha, rfl⟩, rfl⟩
    have := hq a ha
    simp only [edgeIn, Bool.and_eq_true, inB_iff] at this
    refine ⟨a, ha, ?_⟩
    simp only [shiftE, Prod.mk.injEq]
    omega
theorem mem_cross {t : Int} (ht : 0 ≤ t) {A B : List Nat} {x : Nat × Nat} : x ∈ esL (crossL t A B) ↔ ∃ a ∈ A, ∃ b ∈ B, x = (a, b + t.toNat) := by
  simp only [esL, crossL, crossRow, List.mem_map, List.mem_flatMap]
  constructor
  · rintro ⟨e, ⟨a, ha, b, hb, rfl⟩, rfl⟩
    refine ⟨a, ha, b, hb, ?_⟩
    simp only [crossE, Prod.mk.injEq]
    omega
  · rintro ⟨a, ha, b, hb, rfl⟩
    refine ⟨crossE t a b, ⟨a, ha, b, hb, rfl⟩, ?_⟩
    simp only [crossE, Prod.mk.injEq]
    omega
theorem mem_sinks {p : Plan} (hf : planFault p = 0) {t : Nat} : t ∈ sinksOf p ↔ t < p.tasks.toNat ∧ ∀ s, (t, s) ∉ esOf p := by
  have hl := esOf_lt (planFault_zero.1 hf).2.1
  unfold sinksOf
  rw [if_pos hf]
  unfold endsL
  rw [List.mem_filter, List.mem_range, List.isEmpty_iff, List.eq_nil_iff_forall_not_mem]
  refine and_congr Iff.rfl (forall_congr' fun s => ?_)
  rw [behindL_iff hl.2]
theorem mem_sources {p : Plan} (hf : planFault p = 0) {t : Nat} : t ∈ sourcesOf p ↔ t < p.tasks.toNat ∧ ∀ s, (s, t) ∉ esOf p := by
  have hl := esOf_lt (planFault_zero.1 hf).2.1
  unfold sourcesOf
  rw [if_pos hf]
  unfold endsL
  rw [List.mem_filter, List.mem_range, List.isEmpty_iff, List.eq_nil_iff_forall_not_mem]
  refine and_congr Iff.rfl (forall_congr' fun s => ?_)
  rw [beforeL_iff hl.1]

theorem behind_long {p q : Plan} (hf : planFault p = 0) (hg : planFault q = 0) (hj : planFault (joinP p q (moreL p q)) = 0) :
    longestOf (joinP p q (moreL p q)) (onesL (joinP p q (moreL p q))) = longestOf p (onesL p) + longestOf q (onesL q) := by
  have tp := times_of (ones_ok hf)
  have tq := times_of (ones_ok hg)
  have tj := times_of (ones_ok hj)
  have hT := manyOk_tasks (planFault_zero.1 hf).1
  have hU := manyOk_tasks (planFault_zero.1 hg).1
  have lp := esOf_lt (planFault_zero.1 hf).2.1
  have lq := esOf_lt (planFault_zero.1 hg).2.1
  have hes : ∀ {x : Nat × Nat}, x ∈ esOf (joinP p q (moreL p q)) ↔ x ∈ esOf p ∨ (∃ y ∈ esOf q, x = (y.1 + p.tasks.toNat, y.2 + p.tasks.toNat)) ∨ ∃ a ∈ sinksOf p, ∃ b ∈ sourcesOf q, x = (a, b + p.tasks.toNat) := by
    intro x
    rw [join_es hf hg]
    unfold moreL
    rw [mem_cross (by omega)]
  have hJ : (joinP p q (moreL p q)).tasks.toNat = p.tasks.toNat + q.tasks.toNat := by rw [join_tasks]; omega
  have o1 : ∀ t, t < p.tasks.toNat → (onesL p).getD t 0 = 1 := fun t h => ones_getD h
  have o2 : ∀ t, t < q.tasks.toNat → (onesL q).getD t 0 = 1 := fun t h => ones_getD h
  have o3 : ∀ t, t < p.tasks.toNat + q.tasks.toNat → (onesL (joinP p q (moreL p q))).getD t 0 = 1 := fun t h => ones_getD (by rw [hJ]; exact h)
  have hI := orderOf_inv hj
  rw [hJ] at hI tj
  generalize longestOf p (onesL p) = x at *
  generalize longestOf q (onesL q) = y at *
  generalize earliestOf p (onesL p) = Ep at *
  generalize earliestOf q (onesL q) = Eq at *
  generalize longestOf (joinP p q (moreL p q)) (onesL (joinP p q (moreL p q))) = z at *
  generalize earliestOf (joinP p q (moreL p q)) (onesL (joinP p q (moreL p q))) = Ej at *
  -- the last of p is a sink
  obtain ⟨s, hs, hsx⟩ := tp.emax
  rw [o1 s hs] at hsx
  have hsink : s ∈ sinksOf p := (mem_sinks hf).2 ⟨hs, fun b hb => by
    have h1 := tp.ele _ hb
    have h2 := tp.elong b (lp.2 _ hb)
    rw [o1 b (lp.2 _ hb)] at h2
    simp only [o1 s hs] at h1
    omega⟩
  have hF : EarF (esOf (joinP p q (moreL p q))) (p.tasks.toNat + q.tasks.toNat) (onesL (joinP p q (moreL p q))) (fun t => if t < p.tasks.toNat then Ep.getD t 0 else x + Eq.getD (t - p.tasks.toNat) 0) := by
    have hx0 : 0 ≤ x := by have := tp.enn s; omega
    refine ⟨fun t ht => ?_, fun e he => ?_, fun t ht => ?_⟩
    · have h1 := tp.enn t
      have h2 := tq.enn (t - p.tasks.toNat)
      split <;> omega
    · rcases hes.1 he with h | ⟨y, hy, rfl⟩ | ⟨a, ha, b, hb, rfl⟩
      · have h1 := lp.1 _ h
        have h2 := lp.2 _ h
        have h3 := tp.ele _ h
        rw [o1 _ h1] at h3
        simp only [if_pos h1, if_pos h2]
        rw [o3 _ (by omega)]
        exact h3
      · have h1 := lq.1 _ hy
        have h2 := lq.2 _ hy
        have h3 := tq.ele _ hy
        rw [o2 _ h1] at h3
        simp only [if_neg (show ¬ y.1 + p.tasks.toNat < p.tasks.toNat by omega), if_neg (show ¬ y.2 + p.tasks.toNat < p.tasks.toNat by omega), Nat.add_sub_cancel]
        rw [o3 _ (by omega)]
        omega
      · have h1 := ((mem_sinks hf).1 ha).1
        have h2 := ((mem_sources hg).1 hb).1
        have h3 := tp.elong a h1
        rw [o1 _ h1] at h3
        have h4 := tq.enn b
        simp only [if_pos h1, if_neg (show ¬ b + p.tasks.toNat < p.tasks.toNat by omega), Nat.add_sub_cancel]
        rw [o3 _ (by omega)]
        omega
    · by_cases hlt : t < p.tasks.toNat
      · simp only [if_pos hlt]
        rcases tp.eeq t hlt with h | ⟨a, ha, h⟩
        · exact .inl h
        · have h1 := lp.1 _ ha
          rw [o1 _ h1] at h
          refine .inr ⟨a, hes.2 (.inl ha), ?_⟩
          rw [if_pos h1, o3 _ (by omega)]
          exact h
      · simp only [if_neg hlt]
        rcases tq.eeq (t - p.tasks.toNat) (by omega) with h | ⟨a, ha, h⟩
        · have hsrc : t - p.tasks.toNat ∈ sourcesOf q := (mem_sources hg).2 ⟨by omega, fun b hb => by
            have h1 := tq.ele _ hb
            have h2 := tq.enn b
            have h3 := o2 b (lq.1 _ hb)
            simp only [h3] at h1
            omega⟩
          refine .inr ⟨s, hes.2 (.inr (.inr ⟨s, hsink, _, hsrc, by congr 1; omega⟩)), ?_⟩
          rw [if_pos hs, o3 _ (by omega), h]
          omega
        · have h1 := lq.1 _ ha
          rw [o2 _ h1] at h
          refine .inr ⟨a + p.tasks.toNat, hes.2 (.inr (.inl ⟨_, ha, by simp only [Prod.mk.injEq, true_and]; omega⟩)), ?_⟩
          rw [if_neg (by omega), o3 _ (by omega), Nat.add_sub_cancel]
          omega
  have hu : ∀ t, t < p.tasks.toNat + q.tasks.toNat → Ej.getD t 0 = if t < p.tasks.toNat then Ep.getD t 0 else x + Eq.getD (t - p.tasks.toNat) 0 := fun t ht => EarF.unique hI tj.earF hF ht
  obtain ⟨m, hm, hmy⟩ := tq.emax
  rw [o2 m hm] at hmy
  have h1 := tj.elong (m + p.tasks.toNat) (by omega)
  rw [hu _ (by omega), o3 _ (by omega), if_neg (by omega), Nat.add_sub_cancel] at h1
  obtain ⟨t, ht, hz⟩ := tj.emax
  rw [hu _ ht, o3 _ ht] at hz
  have hm0 := tq.enn m
  by_cases hlt : t < p.tasks.toNat
  · rw [if_pos hlt] at hz
    have h2 := tp.elong t hlt
    rw [o1 _ hlt] at h2
    omega
  · rw [if_neg hlt] at hz
    have h2 := tq.elong (t - p.tasks.toNat) (by omega)
    rw [o2 _ (by omega)] at h2
    omega
theorem beside_long {p q : Plan} (hf : planFault p = 0) (hg : planFault q = 0) (hj : planFault (joinP p q []) = 0) :
    longestOf (joinP p q []) (onesL (joinP p q [])) = max (longestOf p (onesL p)) (longestOf q (onesL q)) := by
  have tp := times_of (ones_ok hf)
  have tq := times_of (ones_ok hg)
  have tj := times_of (ones_ok hj)
  have hT := manyOk_tasks (planFault_zero.1 hf).1
  have hU := manyOk_tasks (planFault_zero.1 hg).1
  have lp := esOf_lt (planFault_zero.1 hf).2.1
  have lq := esOf_lt (planFault_zero.1 hg).2.1
  have hes : ∀ {x : Nat × Nat}, x ∈ esOf (joinP p q []) ↔ x ∈ esOf p ∨ (∃ y ∈ esOf q, x = (y.1 + p.tasks.toNat, y.2 + p.tasks.toNat)) := by
    intro x
    rw [join_es hf hg]
    simp [esL]
  have hJ : (joinP p q []).tasks.toNat = p.tasks.toNat + q.tasks.toNat := by rw [join_tasks]; omega
  have o1 : ∀ t, t < p.tasks.toNat → (onesL p).getD t 0 = 1 := fun t h => ones_getD h
  have o2 : ∀ t, t < q.tasks.toNat → (onesL q).getD t 0 = 1 := fun t h => ones_getD h
  have o3 : ∀ t, t < p.tasks.toNat + q.tasks.toNat → (onesL (joinP p q [])).getD t 0 = 1 := fun t h => ones_getD (by rw [hJ]; exact h)
  have hI := orderOf_inv hj
  rw [hJ] at hI tj
  generalize longestOf p (onesL p) = x at *
  generalize longestOf q (onesL q) = y at *
  generalize earliestOf p (onesL p) = Ep at *
  generalize earliestOf q (onesL q) = Eq at *
  generalize longestOf (joinP p q []) (onesL (joinP p q [])) = z at *
  generalize earliestOf (joinP p q []) (onesL (joinP p q [])) = Ej at *
  have hF : EarF (esOf (joinP p q [])) (p.tasks.toNat + q.tasks.toNat) (onesL (joinP p q [])) (fun t => if t < p.tasks.toNat then Ep.getD t 0 else Eq.getD (t - p.tasks.toNat) 0) := by
    refine ⟨fun t ht => ?_, fun e he => ?_, fun t ht => ?_⟩
    · have h1 := tp.enn t
      have h2 := tq.enn (t - p.tasks.toNat)
      split <;> omega
    · rcases hes.1 he with h | ⟨y, hy, rfl⟩
      · have h1 := lp.1 _ h
        have h2 := lp.2 _ h
        have h3 := tp.ele _ h
        rw [o1 _ h1] at h3
        simp only [if_pos h1, if_pos h2]
        rw [o3 _ (by omega)]
        exact h3
      · have h1 := lq.1 _ hy
        have h2 := lq.2 _ hy
        have h3 := tq.ele _ hy
        rw [o2 _ h1] at h3
        simp only [if_neg (show ¬ y.1 + p.tasks.toNat < p.tasks.toNat by omega), if_neg (show ¬ y.2 + p.tasks.toNat < p.tasks.toNat by omega), Nat.add_sub_cancel]
        rw [o3 _ (by omega)]
        omega
    · by_cases hlt : t < p.tasks.toNat
      · simp only [if_pos hlt]
        rcases tp.eeq t hlt with h | ⟨a, ha, h⟩
        · exact .inl h
        · have h1 := lp.1 _ ha
          rw [o1 _ h1] at h
          refine .inr ⟨a, hes.2 (.inl ha), ?_⟩
          rw [if_pos h1, o3 _ (by omega)]
          exact h
      · simp only [if_neg hlt]
        rcases tq.eeq (t - p.tasks.toNat) (by omega) with h | ⟨a, ha, h⟩
        · exact .inl h
        · have h1 := lq.1 _ ha
          rw [o2 _ h1] at h
          refine .inr ⟨a + p.tasks.toNat, hes.2 (.inr ⟨_, ha, by simp only [Prod.mk.injEq, true_and]; omega⟩), ?_⟩
          rw [if_neg (by omega), o3 _ (by omega), Nat.add_sub_cancel]
          omega
  have hu : ∀ t, t < p.tasks.toNat + q.tasks.toNat → Ej.getD t 0 = if t < p.tasks.toNat then Ep.getD t 0 else Eq.getD (t - p.tasks.toNat) 0 := fun t ht => EarF.unique hI tj.earF hF ht
  obtain ⟨s, hs, hsx⟩ := tp.emax
  rw [o1 s hs] at hsx
  obtain ⟨m, hm, hmy⟩ := tq.emax
  rw [o2 m hm] at hmy
  have h1 := tj.elong (m + p.tasks.toNat) (by omega)
  rw [hu _ (by omega), o3 _ (by omega), if_neg (by omega), Nat.add_sub_cancel] at h1
  have h0 := tj.elong s (by omega)
  rw [hu _ (by omega), o3 _ (by omega), if_pos hs] at h0
  obtain ⟨t, ht, hz⟩ := tj.emax
  rw [hu _ ht, o3 _ ht] at hz
  by_cases hlt : t < p.tasks.toNat
  · rw [if_pos hlt] at hz
    have h2 := tp.elong t hlt
    rw [o1 _ hlt] at h2
    omega
  · rw [if_neg hlt] at hz
    have h2 := tq.elong (t - p.tasks.toNat) (by omega)
    rw [o2 _ (by omega)] at h2
    omega
/-- two single tasks, one behind the other -/
theorem behind_reach {p q : Plan} (hf : planFault p = 0) (hg : planFault q = 0) (hj : planFault (joinP p q (moreL p q)) = 0) (h1 : p.tasks = 1) (h2 : q.tasks = 1) : reachB (joinP p q (moreL p q)) 0 ((joinP p q (moreL p q)).tasks - 1) = true := by
  have hJ : (joinP p q (moreL p q)).tasks = 2 := by rw [join_tasks]; omega
  have lp := esOf_lt (planFault_zero.1 hf).2.1
  have lq := esOf_lt (planFault_zero.1 hg).2.1
  have np : ∀ a b, (a, b) ∉ esOf p := fun a b h => by
    have e1 := lp.1 _ h
    have e2 := lp.2 _ h
    refine (planFault_zero.1 hf).2.2.2 ⟨a, e1, ?_⟩
    have : a = b := by simp only at e1 e2; omega
    subst this
    exact Pg.Reach.one h
  have nq : ∀ a b, (a, b) ∉ esOf q := fun a b h => by
    have e1 := lq.1 _ h
    have e2 := lq.2 _ h
    refine (planFault_zero.1 hg).2.2.2 ⟨a, e1, ?_⟩
    have : a = b := by simp only at e1 e2; omega
    subst this
    exact Pg.Reach.one h
  rw [reachB_is hj (by omega) (by omega), hJ]
  refine Pg.Reach.one ((join_es hf hg _).2 (.inr (.inr ?_)))
  unfold moreL
  rw [mem_cross (by omega)]
  exact ⟨0, (mem_sinks hf).2 ⟨by omega, fun s => np _ _⟩, 0, (mem_sources hg).2 ⟨by omega, fun s => nq _ _⟩, by rw [h1]; rfl⟩
end Go.Proofs.Ytnaicippgocdfaa
end
section
namespace Go.Proofs.Ytnaicippgocdfaa
open Go.RowKit
set_option maxRecDepth 100000
set_option maxHeartbeats 2000000
set_option linter.unusedVariables false

theorem big_any (v : Value) (code : List UInt8) (w : World) (hm : code.length ≤ 9223372036854775807) (h : Rd byteE w w.heap.size v code) : Calls Try.prog 6 #[v] w fun e w' => e = .returned (.bool (decide ((1048576 : Int) < (code.length : Int)))) ∧ w = w' := by
  obtain ⟨A, c, rfl, -⟩ := id h
  go_enter Try.func6, Try.ntmps6
  go_wp2
  go_ret
  exact ⟨rfl, rfl⟩
theorem sameInts_same (v v' : Value) (l : List Int) (w : World) (hl : l.length ≤ 2000000) (h : Rd intE w w.heap.size v l) (h' : Rd intE w w.heap.size v' l) :
    Calls Try.prog 20 #[v, v'] w fun e w' => e = .returned (.bool true) ∧ Below w.heap.size w w' := by
  obtain ⟨A, c, rfl, -⟩ := id h
  obtain ⟨A', c', rfl, -⟩ := id h'
  go_enter Try.func20, Try.ntmps20
  go_wp2
  go_loopw [5] (fun i wr => ∃ k : Nat, k ≤ l.length ∧ i = .int .i64 k ∧ Below w.heap.size w wr) (fun i _ => l.length - (intOf i).toNat)
  case atStart => exact ⟨0, Nat.zero_le _, rfl, Below.refl _ _⟩
  case round =>
    obtain ⟨k, hk, rfl, hb⟩ := hrel
    by_cases hlt : k < l.length
    · obtain ⟨b, o, rfl, hbb, c0⟩ := (h.below hb).int hlt
      obtain ⟨b', o', rfl, hbb', d0⟩ := (h'.below hb).int hlt
      have i1 : (k : Int) < (l.length : Int) := by omega
      go_wp2
      go_quiet (fail)
      go_wp2
      exact ⟨⟨k + 1, by omega, by go_num, bdrewN hb _⟩, by simp [intOf]; omega⟩
    · have i1 : ¬ (k : Int) < (l.length : Int) := by omega
      go_wp2
      go_ret
      exact ⟨rfl, hb⟩
theorem sameEdges_same (v v' : Value) (l : List Edge) (w : World) (hl : l.length ≤ 2000000) (h : Rd edgeE w w.heap.size v l) (h' : Rd edgeE w w.heap.size v' l) :
    Calls Try.prog 61 #[v, v'] w fun e w' => e = .returned (.bool true) ∧ Below w.heap.size w w' := by
  obtain ⟨A, c, rfl, -⟩ := id h
  obtain ⟨A', c', rfl, -⟩ := id h'
  go_enter Try.func61, Try.ntmps61
  go_wp2
  go_loopw [5] (fun i wr => ∃ k : Nat, k ≤ l.length ∧ i = .int .i64 k ∧ Below w.heap.size w wr) (fun i _ => l.length - (intOf i).toNat)
  case atStart => exact ⟨0, Nat.zero_le _, rfl, Below.refl _ _⟩
  case round =>
    obtain ⟨k, hk, rfl, hb⟩ := hrel
    by_cases hlt : k < l.length
    · obtain ⟨b, o, rfl, hbb, c0, c1⟩ := (h.below hb).edge hlt
      obtain ⟨b', o', rfl, hbb', d0, d1⟩ := (h'.below hb).edge hlt
      have i1 : (k : Int) < (l.length : Int) := by omega
      go_wp2
      go_quiet (fail)
      go_wp2
      exact ⟨⟨k + 1, by omega, by go_num, bdrewN hb _⟩, by simp [intOf]; omega⟩
    · have i1 : ¬ (k : Int) < (l.length : Int) := by omega
      go_wp2
      go_ret
      exact ⟨rfl, hb⟩
theorem samePlan_same (p : Plan) (ve vf : Value) (w : World) (hl : p.edges.length ≤ 2000000) (h : Rd edgeE w w.heap.size ve p.edges) (h' : Rd edgeE w w.heap.size vf p.edges) :
    Calls Try.prog 25 #[planV p ve, planV p vf] w fun e w' => e = .returned (.bool true) ∧ Below w.heap.size w w' := by
  obtain ⟨D, E, hb⟩ := twoBox_at 26 p ve p vf w
  unfold twoBox planBox at D E hb
  obtain ⟨c0, c1, c2, c3, c4, cs⟩ := D.cells
  obtain ⟨d0, d1, d2, d3, d4, ds⟩ := E.cells
  unfold planV
  go_enter Try.func25, Try.ntmps25
  go_wp2_with fail
  refine (sameEdges_same ve vf p.edges _ hl ((h.below hb).more hb.size) ((h'.below hb).more hb.size)).mono ?_
  rintro e w1 ⟨rfl, b1⟩
  go_wp2
  go_ret
  exact ⟨rfl, bnext hb b1⟩
theorem hasInt_any (v : Value) (l : List Int) (x : Int) (w : World) (hl : l.length ≤ 2000000) (h : Rd intE w w.heap.size v l) :
    Calls Try.prog 43 #[v, .int .i64 x] w fun e w' => e = .returned (.bool (decide (x ∈ l))) ∧ w = w' := by
  obtain ⟨A, c, rfl, -⟩ := id h
  go_enter Try.func43, Try.ntmps43
  go_wp2
  go_loop [5] (fun i => ∃ k : Nat, k ≤ l.length ∧ i = .int .i64 k ∧ Hid (x ∉ l.take k)) (fun i => l.length - (intOf i).toNat)
  case atStart => exact ⟨0, Nat.zero_le _, rfl, by show x ∉ l.take 0; simp⟩
  case round =>
    obtain ⟨k, hk, rfl, hno⟩ := hrel
    by_cases hlt : k < l.length
    · obtain ⟨b, o, rfl, hbb, c0⟩ := h.int hlt
      have i1 : (k : Int) < (l.length : Int) := by omega
      by_cases hx : l[k] = x
      · have S : Hid (decide (x ∈ l) = true) := decide_eq_true (by rw [← hx]; exact List.getElem_mem hlt)
        rw [hx] at c0
        clear hx
        go_wp2
        go_ret
        exact ⟨ret_bool S.out.symm, rfl⟩
      · have S : Hid (x ∉ l.take (k + 1)) := by
          show x ∉ l.take (k + 1)
          rw [take_snoc l k hlt, List.mem_append, List.mem_singleton]
          rintro (h | h)
          · exact hno.out h
          · exact hx h.symm
        have hx' : (l[k] == x) = false := beq_eq_false_iff_ne.2 hx
        clear hx
        go_wp2
        go_round
        case rel => exact ⟨k + 1, by omega, by go_num, S⟩
        case measure => simp [intOf]; omega
    · have i1 : ¬ (k : Int) < (l.length : Int) := by omega
      have hke : k = l.length := by omega
      have S : Hid (decide (x ∈ l) = false) := decide_eq_false (by have := hno.out; rw [hke, List.take_length] at this; exact this)
      clear hke hno
      go_wp2
      go_ret
      exact ⟨ret_bool S.out.symm, rfl⟩
theorem ones_any (p : Plan) (ve : Value) (w : World) (hT : 1 ≤ p.tasks ∧ p.tasks ≤ 12) :
    Calls Try.prog 28 #[planV p ve] w fun e w' => ∃ u, e = .returned u ∧ Ow intE 3 w' w.heap.size u (onesL p) ∧ Below w.heap.size w w' := by
  obtain ⟨i0, hi0, hz0, hz1, hz2⟩ := info_parts int_info
  have hb0 := planBox_below 26 p ve w
  have P0 := BoxAt.new 26 p ve w
  have s0 := planBox_size 26 p ve w
  unfold planV
  go_enter Try.func28, Try.ntmps28
  go_wp2
  have ha : Below (planBox 26 p ve w).heap.size (planBox 26 p ve w) ((planBox 26 p ve w).alloc (.cells #[] 3)) := (Below.refl _ _).alloc (Nat.le_refl _) _
  have O0 := Ow.empty intE 3 (planBox 26 p ve w) (g := w.heap.size + 1) (by rw [planBox_size])
  have P1 := P0.below ha
  have b1 := bnext hb0 ha
  have hz : ((planBox 26 p ve w).alloc (.cells #[] 3)).heap.size = w.heap.size + 2 := by simp [planBox]
  unfold planBox at O0 P1 b1 hz
  clear ha P0 hb0 s0
  generalize ((w.alloc (.cells #[.int .i64 p.prio, .int .i64 p.most, .int .i64 p.wait, .int .i64 p.tasks, ve] 26)).alloc (.cells #[] 3)) = w1 at *
  go_loopw [3, 4] (fun u i wr => ∃ k : Nat, k ≤ p.tasks.toNat ∧ i = .int .i64 k ∧ Ow intE 3 wr (w.heap.size + 1) u (List.replicate k 1) ∧ BoxAt w.heap.size p ve wr ∧ Below w.heap.size w wr ∧ w.heap.size + 2 ≤ wr.heap.size) (fun _ i _ => p.tasks.toNat - (intOf i).toNat)
  case atStart => exact ⟨0, Nat.zero_le _, rfl, O0, P1, b1, by omega⟩
  case round =>
    clear O0 P1 b1 hz
    obtain ⟨k, hk, rfl, O, P, B, hsz⟩ := hrel
    obtain ⟨p0, p1, p2, p3, p4, ps⟩ := P.cells
    by_cases hlt : k < p.tasks.toNat
    · have i1 : (k : Int) < p.tasks := by omega
      have i2 : (k : Int) < 12 := by omega
      obtain ⟨A, cap, rfl, -⟩ := id (Rd.of_own O)
      rw [List.length_replicate] at O ⊢
      have z3 : Hid ((List.replicate k (1 : Int)).length ≤ 3000000) := by show _ ≤ _; rw [List.length_replicate]; omega
      have hax : Below wr.heap.size wr (wr.alloc (.cells #[.int .i64 1] 3)) := (Below.refl _ _).alloc (Nat.le_refl _) _
      go_wp2_with (at_builtin; refine wpList_push_all _ intE (by decide) rfl (.tmp 16) (.tmp 17) rfl Try.underlying27 hi0 hz0 hz1 hz2 rfl (v := .slice A k cap) (l := List.replicate k 1) rfl (O.below hax) rfl (Rd.one intE _ _ 1 rfl rfl 1 (Nat.le_refl _) (Nat.lt_succ_self _)) z3.out (by simp) (by decide) (by simp; omega) ?_; intro v5 w5 o5 g5 f5)
      have hb5 : ∀ g, (Value.slice A k cap).ownBlock = some g → w.heap.size + 1 ≤ g := fun g hg => (O.within g hg).1
      refine ⟨⟨k + 1, by omega, by go_num, ?_, (P.below hax).far g5 (fun e => by have := hb5 _ e.symm; omega), (bnext B hax).grown g5 (by simp; omega) (fun g hg => by have := hb5 g hg; omega), by have := g5.size; simp at this; omega⟩, by simp [intOf]; omega⟩
      rw [List.replicate_succ']
      exact o5
    · have hke : k = p.tasks.toNat := by omega
      go_wp2
      go_ret
      subst hke
      exact ⟨_, rfl, O.more (by omega), B⟩
end Go.Proofs.Ytnaicippgocdfaa
end
section
namespace Go.Proofs.Ytnaicippgocdfaa
open Go.RowKit
set_option maxRecDepth 100000
set_option maxHeartbeats 1000000

theorem mem_tightL {S : List Int} : ∀ (n t : Nat), (t : Int) ∈ tightL S n ↔ t < n ∧ S.getD t 0 = 0
  | 0, t => by simp [tightL]
  | n + 1, t => by
    have ih := mem_tightL (S := S) n t
    have e : tightL S (n + 1) = if S.getD n 0 = 0 then tightL S n ++ [(n : Int)] else tightL S n := by
      rw [tightL]
      split <;> simp
    rw [e]
    by_cases h0 : S.getD n 0 = 0
    · rw [if_pos h0, List.mem_append, ih, List.mem_singleton]
      constructor
      · rintro (⟨h1, h2⟩ | h1)
        · exact ⟨by omega, h2⟩
        · have : t = n := by omega
          subst this
          exact ⟨by omega, h0⟩
      · rintro ⟨h1, h2⟩
        by_cases ht : t = n
        · exact .inr (by omega)
        · exact .inl ⟨by omega, h2⟩
    · rw [if_neg h0, ih]
      constructor
      · rintro ⟨h1, h2⟩
        exact ⟨by omega, h2⟩
      · rintro ⟨h1, h2⟩
        have : t ≠ n := fun e => h0 (e ▸ h2)
        exact ⟨by omega, h2⟩
structure WFacts (p : Plan) (l E D S Tt : List Int) (L W : Int) : Prop where
  el : E.length = p.tasks.toNat
  dl : D.length = p.tasks.toNat
  sl : S.length = p.tasks.toNat
  ll : l.length = p.tasks.toNat
  e0 : ∀ t, t < p.tasks.toNat → 0 ≤ E.getD t 0
  s0 : ∀ t, t < p.tasks.toNat → S.getD t 0 = D.getD t 0 - E.getD t 0 ∧ 0 ≤ S.getD t 0
  lg : ∀ t, t < p.tasks.toNat → E.getD t 0 + l.getD t 0 ≤ L
  ti : ∀ t, t < p.tasks.toNat → (S.getD t 0 = 0 ↔ (t : Int) ∈ Tt)
  ee : ∀ e ∈ esOf p, E.getD e.1 0 + l.getD e.1 0 ≤ E.getD e.2 0 ∧ D.getD e.1 0 + l.getD e.1 0 ≤ D.getD e.2 0
  dg : ∀ t, t < p.tasks.toNat → D.getD t 0 + l.getD t 0 ≤ L
  pos : 0 < Tt.length
  wk : L ≤ W
theorem wfacts {p : Plan} {l : List Int} (h : weightsOk p l = true) : WFacts p l (earliestOf p l) (latestOf p l) (slackOf p l) (tightOf p l) (longestOf p l) (workOf p l) := by
  have ht := times_of h
  have hsl : (slackOf p l).length = p.tasks.toNat := by unfold slackOf; rw [slackL_len, ht.dlen]
  have hsg : ∀ t, t < p.tasks.toNat → (slackOf p l).getD t 0 = (latestOf p l).getD t 0 - (earliestOf p l).getD t 0 := by
    intro t htT
    unfold slackOf slackL
    rw [List.getD_eq_getElem?_getD, List.getElem?_map, List.getElem?_range (by rw [ht.dlen]; exact htT)]
    rfl
  have hti : ∀ t, t < p.tasks.toNat → ((slackOf p l).getD t 0 = 0 ↔ (t : Int) ∈ tightOf p l) := by
    intro t htT
    unfold tightOf
    rw [mem_tightL, hsl]
    exact ⟨fun h => ⟨htT, h⟩, fun h => h.2⟩
  refine ⟨ht.elen, ht.dlen, hsl, ?_, fun t _ => ht.enn t, fun t htT => ⟨hsg t htT, by rw [hsg t htT]; have := ht.ed t htT; omega⟩, ht.elong, hti, fun e he => ⟨ht.ele e he, ht.dle e he⟩, ht.dlong, ?_, ?_⟩
  · have := (weightsOk_all h).2.1; omega
  · obtain ⟨t, htT, hm⟩ := ht.emax
    have h1 := ht.dlong t htT
    have h2 := ht.ed t htT
    have h3 : (t : Int) ∈ tightOf p l := (hti t htT).1 (by rw [hsg t htT]; omega)
    exact List.length_pos_of_mem h3
  · unfold workOf
    rw [if_pos h]
    exact ht.lwork
theorem drawn_weights (code : List UInt8) : weightsOk (drawnWork code).1.1 (drawnWork code).2.1 = true := by
  unfold drawnWork
  simp only
  have hf := curPlan_ok code (curNew code)
  have hT := manyOk_tasks (planFault_zero.1 hf).1
  unfold weightsOk
  simp only [Bool.and_eq_true, decide_eq_true_eq, List.all_eq_true, inB_iff]
  exact ⟨⟨hf, by rw [curWeights_len]; omega⟩, curWeights_bd _ _ _⟩
end Go.Proofs.Ytnaicippgocdfaa
end
section
namespace Go.Proofs.Ytnaicippgocdfaa
open Go.RowKit
set_option maxRecDepth 100000

/-- a plan with weights, drawn twice, and what is kept of it -/
structure FW (p : Plan) (l : List Int) (pb sb : Nat) (ve vs vw vv : Value) (w0 w : World) : Prop where
  P : BoxAt pb p ve w
  S : BoxAt sb p vs w
  rp : Rd edgeE w w.heap.size ve p.edges
  rs : Rd edgeE w w.heap.size vs p.edges
  rw_ : Rd intE w w.heap.size vw l
  rv : Rd intE w w.heap.size vv l
  b : Below w0.heap.size w0 w
theorem Rd.on {α : Type} {e : Enc α} {w w' : World} {v : Value} {l : List α} (h : Rd e w w.heap.size v l) (c : Below w.heap.size w w') : Rd e w' w'.heap.size v l := (h.below c).more c.size
theorem FW.below {p : Plan} {l : List Int} {pb sb : Nat} {ve vs vw vv : Value} {w0 w w' : World} (h : FW p l pb sb ve vs vw vv w0 w) (c : Below w.heap.size w w') : FW p l pb sb ve vs vw vv w0 w' :=
  ⟨h.P.below c, h.S.below c, h.rp.on c, h.rs.on c, h.rw_.on c, h.rv.on c, bnext h.b c⟩
/-- both drawn -/
theorem FW.start {p : Plan} {l : List Int} {A1 A2 A3 A4 : Option Addr} {c1 c2 c3 c4 : Nat} {w0 w1 w2 : World}
    (b1 : Below w0.heap.size w0 w1) (o1 : Ow edgeE 52 w1 w0.heap.size (.slice A1 p.edges.length c1) p.edges) (q1 : Ow intE 3 w1 w0.heap.size (.slice A2 l.length c2) l)
    (b2 : Below (w1.alloc (.cells #[.int .i64 p.prio, .int .i64 p.most, .int .i64 p.wait, .int .i64 p.tasks, .slice A1 p.edges.length c1] 26)).heap.size (w1.alloc (.cells #[.int .i64 p.prio, .int .i64 p.most, .int .i64 p.wait, .int .i64 p.tasks, .slice A1 p.edges.length c1] 26)) w2)
    {B1 B2 : Nat} (o2 : Ow edgeE 52 w2 B1 (.slice A3 p.edges.length c3) p.edges) (q2 : Ow intE 3 w2 B2 (.slice A4 l.length c4) l) :
    FW p l w1.heap.size w2.heap.size (.slice A1 p.edges.length c1) (.slice A3 p.edges.length c3) (.slice A2 l.length c2) (.slice A4 l.length c4) w0 (w2.alloc (.cells #[.int .i64 p.prio, .int .i64 p.most, .int .i64 p.wait, .int .i64 p.tasks, .slice A3 p.edges.length c3] 26)) := by
  have a1 := (Below.refl w1.heap.size w1).alloc (Nat.le_refl _) (.cells #[.int .i64 p.prio, .int .i64 p.most, .int .i64 p.wait, .int .i64 p.tasks, .slice A1 p.edges.length c1] 26)
  have a2 := (Below.refl w2.heap.size w2).alloc (Nat.le_refl _) (.cells #[.int .i64 p.prio, .int .i64 p.most, .int .i64 p.wait, .int .i64 p.tasks, .slice A3 p.edges.length c3] 26)
  refine ⟨((BoxAt.new' 26 p _ w1 rfl).below b2).below a2, BoxAt.new' 26 p _ w2 rfl, (((Rd.of_own o1).on a1).on b2).on a2, (Rd.of_own o2).on a2, (((Rd.of_own q1).on a1).on b2).on a2, (Rd.of_own q2).on a2, bnext (bnext (bnext b1 a1) b2) a2⟩

end Go.Proofs.Ytnaicippgocdfaa
end
