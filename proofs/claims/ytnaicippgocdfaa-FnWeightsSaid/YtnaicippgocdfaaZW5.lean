/-
  Plain facts on plans turned round, reduced, laid beside and behind each other. The small helpers of the laws: lists and plans that are the same, a number in a list, ones. Plain facts for the law on weights: the slack, what is tight; a drawn plan fits its weights. LeastEnd of both. The law FnWeights: its walk, out of the contracts of what it calls. The argument of a law that draws: bytes, read as data. Closed facts of the whole program, each by itself. The head's string is laid out as a list of numbers first.
-/
import Derived.Test.YtnaicippgocdfaaZW4
section
namespace Go.Proofs.Ytnaicippgocdfaa
open Go.RowKit
set_option maxRecDepth 100000
set_option maxHeartbeats 1000000
set_option linter.unusedVariables false

theorem Way.mono {es es' : List (Nat × Nat)} (hs : ∀ e ∈ es, e ∈ es') {a b : Nat} {l : List Nat} (h : Pg.Way es a l b) : Pg.Way es' a l b := by
  induction h with
  | nil a => exact .nil a
  | cons h1 _ ih => exact .cons (hs _ h1) ih
theorem Reach.mono {es es' : List (Nat × Nat)} (hs : ∀ e ∈ es, e ∈ es') {a b : Nat} (h : Pg.Reach es a b) : Pg.Reach es' a b := by
  obtain ⟨l, hl, hw⟩ := h
  exact ⟨l, hl, Way.mono hs hw⟩
theorem Way.flip {es es' : List (Nat × Nat)} (hs : ∀ e ∈ es, (e.2, e.1) ∈ es') {a b : Nat} {l : List Nat} (h : Pg.Way es a l b) : l ≠ [] → Pg.Reach es' b a := by
  induction h with
  | nil a => intro h; exact absurd rfl h
  | @cons a c b l h1 h2 ih =>
    intro _
    by_cases hl : l = []
    · subst hl
      cases h2
      exact Pg.Reach.one (hs _ h1)
    · exact Pg.Reach.snoc (ih hl) (hs _ h1)
theorem Reach.flip {es es' : List (Nat × Nat)} (hs : ∀ e ∈ es, (e.2, e.1) ∈ es') {a b : Nat} (h : Pg.Reach es a b) : Pg.Reach es' b a := by
  obtain ⟨l, hl, hw⟩ := h
  exact Way.flip hs hw hl
theorem mem_esOf {p : Plan} {x : Nat × Nat} : x ∈ esOf p ↔ ∃ e ∈ p.edges, x = (e.fr.toNat, e.to.toNat) := by
  simp only [esOf, esL, List.mem_map]
  constructor
  · rintro ⟨e, he, rfl⟩; exact ⟨e, he, rfl⟩
  · rintro ⟨e, he, rfl⟩; exact ⟨e, he, rfl⟩

/-! turned round -/
theorem rev_eq {p : Plan} (hf : planFault p = 0) : reversed p = { p with edges := p.edges.map flipE } := by unfold reversed; rw [if_pos hf]
theorem flipE_inj {a b : Edge} (h : flipE a = flipE b) : a = b := by
  cases a; cases b
  simp only [flipE, Edge.mk.injEq] at h
  rw [h.1, h.2]
theorem rev_es {p : Plan} (hf : planFault p = 0) {x y : Nat} : (x, y) ∈ esOf (reversed p) ↔ (y, x) ∈ esOf p := by
  rw [mem_esOf, mem_esOf, rev_eq hf]
  constructor
  · rintro ⟨e, he, hx⟩
    obtain ⟨e0, he0, rfl⟩ := List.mem_map.1 he
    simp only [flipE, Prod.mk.injEq] at hx
    exact ⟨e0, he0, by rw [hx.1, hx.2]⟩
  · rintro ⟨e, he, hx⟩
    simp only [Prod.mk.injEq] at hx
    exact ⟨flipE e, List.mem_map.2 ⟨e, he, rfl⟩, by simp only [flipE]; rw [hx.1, hx.2]⟩
theorem nodup_map_flip : ∀ {l : List Edge}, l.Nodup → (l.map flipE).Nodup
  | [], _ => by simp
  | e :: l, h => by
    rw [List.nodup_cons] at h
    rw [List.map_cons, List.nodup_cons]
    refine ⟨fun hm => ?_, nodup_map_flip h.2⟩
    obtain ⟨x, hx, he⟩ := List.mem_map.1 hm
    rw [flipE_inj he] at hx
    exact h.1 hx
theorem rev_fault {p : Plan} (hf : planFault p = 0) : planFault (reversed p) = 0 := by
  obtain ⟨h1, h2, h3, h4⟩ := planFault_zero.1 hf
  refine planFault_zero.2 ⟨?_, ?_, ?_, ?_⟩
  · rw [rev_eq hf]
    simpa [manyOk] using h1
  · rw [rev_eq hf]
    intro e he
    obtain ⟨e0, he0, rfl⟩ := List.mem_map.1 he
    have := h2 e0 he0
    simp only [edgeIn, flipE, Bool.and_eq_true] at this ⊢
    exact ⟨this.2, this.1⟩
  · rw [rev_eq hf]
    exact nodup_map_flip h3
  · rintro ⟨t, ht, hr⟩
    refine h4 ⟨t, by rw [rev_eq hf] at ht; exact ht, Reach.flip (fun e he => ?_) hr⟩
    exact (rev_es hf).1 he
theorem rev_tasks {p : Plan} (hf : planFault p = 0) : (reversed p).tasks = p.tasks := by rw [rev_eq hf]
theorem rev_rev {p : Plan} (hf : planFault p = 0) : reversed (reversed p) = p := by
  rw [rev_eq (rev_fault hf), rev_eq hf]
  simp only [List.map_map]
  have : (flipE ∘ flipE) = id := by
    funext e
    rfl
  rw [this, List.map_id]
theorem rev_sources {p : Plan} (hf : planFault p = 0) : sourcesOf (reversed p) = sinksOf p := by
  unfold sourcesOf sinksOf
  rw [if_pos (rev_fault hf), if_pos hf, rev_tasks hf]
  congr 1
  funext t
  unfold beforeL behindL
  apply List.filter_congr
  intro s _
  exact decide_eq_decide.2 (rev_es hf)
theorem rev_sinks {p : Plan} (hf : planFault p = 0) : sinksOf (reversed p) = sourcesOf p := by
  unfold sourcesOf sinksOf
  rw [if_pos (rev_fault hf), if_pos hf, rev_tasks hf]
  congr 1
  funext t
  unfold beforeL behindL
  apply List.filter_congr
  intro s _
  exact decide_eq_decide.2 (rev_es hf)

/-! ones -/
def onesL (p : Plan) : List Int := List.replicate p.tasks.toNat 1
theorem ones_getD {n t : Nat} (h : t < n) : (List.replicate n (1 : Int)).getD t 0 = 1 := by
  rw [List.getD_eq_getElem?_getD, List.getElem?_replicate, if_pos h]; rfl
theorem ones_ok {p : Plan} (hf : planFault p = 0) : weightsOk p (onesL p) = true := by
  have hT := manyOk_tasks (planFault_zero.1 hf).1
  unfold weightsOk onesL
  simp only [Bool.and_eq_true, decide_eq_true_eq, List.all_eq_true, List.length_replicate]
  refine ⟨⟨hf, by omega⟩, fun x hx => ?_⟩
  rw [(List.mem_replicate.1 hx).2]
  decide
/-- the earliest rises along a way -/
theorem reach_up {p : Plan} (hf : planFault p = 0) {a b : Nat} (h : Pg.Reach (esOf p) a b) : (earliestOf p (onesL p)).getD a 0 < (earliestOf p (onesL p)).getD b 0 := by
  have ht := times_of (ones_ok hf)
  have hl := esOf_lt (planFault_zero.1 hf).2.1
  obtain ⟨l, hne, hw⟩ := h
  induction hw with
  | nil a => exact absurd rfl hne
  | @cons a c b l h1 h2 ih =>
    have h3 := ht.ele _ h1
    have h4 : (onesL p).getD a 0 = 1 := ones_getD (hl.1 _ h1)
    simp only at h3
    by_cases hl0 : l = []
    · subst hl0
      cases h2
      omega
    · have := ih hl0
      omega
/-! reduced -/
theorem red_eq {p : Plan} (hf : planFault p = 0) : reduced p = { p with edges := p.edges.filter fun e => !redUpto p e p.tasks.toNat } := by unfold reduced; rw [if_pos hf]
theorem red_tasks {p : Plan} (hf : planFault p = 0) : (reduced p).tasks = p.tasks := by rw [red_eq hf]
theorem red_mem {p : Plan} (hf : planFault p = 0) {e : Edge} : e ∈ (reduced p).edges ↔ e ∈ p.edges ∧ redUpto p e p.tasks.toNat = false := by
  rw [red_eq hf]
  simp
theorem red_len {p : Plan} (hf : planFault p = 0) : (reduced p).edges.length ≤ p.edges.length := by
  rw [red_eq hf]
  exact List.length_filter_le _ _
theorem red_sub {p : Plan} (hf : planFault p = 0) : ∀ x ∈ esOf (reduced p), x ∈ esOf p := by
  intro x hx
  rw [mem_esOf] at hx ⊢
  obtain ⟨e, he, rfl⟩ := hx
  exact ⟨e, ((red_mem hf).1 he).1, rfl⟩
theorem reachB_is {p : Plan} (hf : planFault p = 0) {a b : Int} (ha : 0 ≤ a ∧ a < p.tasks) (hb : 0 ≤ b ∧ b < p.tasks) : reachB p a b = true ↔ Pg.Reach (esOf p) a.toNat b.toNat := by
  have h1 : isTaskB p a = true := by
    unfold isTaskB
    simp only [Bool.and_eq_true, decide_eq_true_eq, inB_iff]
    exact ⟨hf, by omega⟩
  have h2 : isTaskB p b = true := by
    unfold isTaskB
    simp only [Bool.and_eq_true, decide_eq_true_eq, inB_iff]
    exact ⟨hf, by omega⟩
  unfold reachB
  rw [h1, h2]
  simp
theorem redUpto_iff {p : Plan} (hf : planFault p = 0) {e : Edge} (he : e ∈ p.edges) : redUpto p e p.tasks.toNat = true ↔ ∃ k, Pg.Reach (esOf p) e.fr.toNat k ∧ Pg.Reach (esOf p) k e.to.toNat := by
  have hin := (planFault_zero.1 hf).2.1 e he
  simp only [edgeIn, Bool.and_eq_true, inB_iff] at hin
  have hl := esOf_lt (planFault_zero.1 hf).2.1
  have hT := manyOk_tasks (planFault_zero.1 hf).1
  unfold redUpto
  rw [List.any_eq_true]
  constructor
  · rintro ⟨k, hk, hb⟩
    rw [List.mem_range] at hk
    rw [Bool.and_eq_true, reachB_is hf (by omega) (by omega), reachB_is hf (by omega) (by omega)] at hb
    exact ⟨k, by simpa using hb⟩
  · rintro ⟨k, h1, h2⟩
    have hk : k < p.tasks.toNat := by
      obtain ⟨l, hne, hw⟩ := h2
      cases hw with
      | nil => exact absurd rfl hne
      | cons h3 _ => exact hl.1 _ h3
    refine ⟨k, List.mem_range.2 hk, ?_⟩
    rw [Bool.and_eq_true, reachB_is hf (by omega) (by omega), reachB_is hf (by omega) (by omega)]
    simpa using ⟨h1, h2⟩
theorem red_reach {p : Plan} (hf : planFault p = 0) : ∀ (n : Nat) (a b : Nat), Pg.Reach (esOf p) a b → ((earliestOf p (onesL p)).getD b 0 - (earliestOf p (onesL p)).getD a 0).toNat ≤ n → Pg.Reach (esOf (reduced p)) a b
  | 0, a, b, h, hn => by
    have := reach_up hf h
    omega
  | n + 1, a, b, h, hn => by
    by_cases hk : ∃ k, Pg.Reach (esOf p) a k ∧ Pg.Reach (esOf p) k b
    · obtain ⟨k, h1, h2⟩ := hk
      have e1 := reach_up hf h1
      have e2 := reach_up hf h2
      exact Pg.Reach.trans (red_reach hf n a k h1 (by omega)) (red_reach hf n k b h2 (by omega))
    · obtain ⟨l, hne, hw⟩ := h
      cases hw with
      | nil => exact absurd rfl hne
      | @cons _ c _ l h1 h2 =>
        by_cases hl : l = []
        · subst hl
          cases h2
          obtain ⟨e, he, hx⟩ := mem_esOf.1 h1
          simp only [Prod.mk.injEq] at hx
          refine Pg.Reach.one (mem_esOf.2 ⟨e, (red_mem hf).2 ⟨he, ?_⟩, by rw [hx.1, hx.2]⟩)
          rw [← Bool.not_eq_true, redUpto_iff hf he, ← hx.1, ← hx.2]
          exact hk
        · exact absurd ⟨c, Pg.Reach.one h1, l, hl, h2⟩ hk
theorem red_reach_iff {p : Plan} (hf : planFault p = 0) {a b : Nat} : Pg.Reach (esOf p) a b ↔ Pg.Reach (esOf (reduced p)) a b :=
  ⟨fun h => red_reach hf _ a b h (Nat.le_refl _), Reach.mono (red_sub hf)⟩
theorem red_fault {p : Plan} (hf : planFault p = 0) : planFault (reduced p) = 0 := by
  obtain ⟨h1, h2, h3, h4⟩ := planFault_zero.1 hf
  refine planFault_zero.2 ⟨?_, fun e he => ?_, ?_, ?_⟩
  · have hl := red_len hf
    rw [red_eq hf] at hl ⊢
    simp only [manyOk, Bool.and_eq_true, decide_eq_true_eq] at h1 ⊢
    simp only at hl
    exact ⟨⟨⟨⟨h1.1.1.1.1, by omega⟩, h1.1.1.2⟩, h1.1.2⟩, h1.2⟩
  · rw [red_tasks hf]
    exact h2 e ((red_mem hf).1 he).1
  · rw [red_eq hf]
    exact h3.filter _
  · rintro ⟨t, ht, hr⟩
    exact h4 ⟨t, by rw [red_tasks hf] at ht; exact ht, (red_reach_iff hf).2 hr⟩
theorem red_same {p : Plan} (hf : planFault p = 0) : sameOrder p (reduced p) = true := by
  simp only [sameOrder, decide_eq_true_eq]
  exact ⟨hf, red_fault hf, (red_tasks hf).symm, fun a b _ _ => red_reach_iff hf⟩
theorem red_red {p : Plan} (hf : planFault p = 0) : reduced (reduced p) = reduced p := by
  have h : (reduced p).edges.filter (fun e => !redUpto (reduced p) e (reduced p).tasks.toNat) = (reduced p).edges := by
    rw [List.filter_eq_self]
    intro e he
    rw [Bool.not_eq_true', ← Bool.not_eq_true, redUpto_iff (red_fault hf) he]
    rintro ⟨k, h1, h2⟩
    have h3 := ((red_mem hf).1 he)
    have h4 := (redUpto_iff hf h3.1).2 ⟨k, (red_reach_iff hf).2 h1, (red_reach_iff hf).2 h2⟩
    rw [h3.2] at h4
    exact absurd h4 (by simp)
  rw [red_eq (red_fault hf), h]

/-! one plan beside or behind another one -/
structure EarF (es : List (Nat × Nat)) (T : Nat) (l : List Int) (E : Nat → Int) : Prop where
  nn : ∀ t, t < T → 0 ≤ E t
  le : ∀ e ∈ es, E e.1 + l.getD e.1 0 ≤ E e.2
  eq : ∀ t, t < T → E t = 0 ∨ ∃ a, (a, t) ∈ es ∧ E t = E a + l.getD a 0
theorem EarF.unique_le {es : List (Nat × Nat)} {T : Nat} {l : List Int} {ord : List Nat} (hI : OrderInv es T T ord) {E F : Nat → Int} (hE : EarF es T l E) (hF : EarF es T l F) : ∀ n i (hi : i < ord.length), i < n → E ord[i] ≤ F ord[i]
  | 0, _, _, h => absurd h (by omega)
  | n + 1, i, hi, hn => by
    have ht := hI.lt _ (List.getElem_mem hi)
    rcases hE.eq _ ht with h0 | ⟨a, ha, h0⟩
    · have := hF.nn _ ht
      omega
    · have h1 := hF.le _ ha
      have h2 := hI.closed i hi a ha
      obtain ⟨j, hj, he⟩ := List.getElem_of_mem h2
      rw [List.length_take] at hj
      rw [List.getElem_take] at he
      have h3 := EarF.unique_le hI hE hF n j (by omega) (by omega)
      rw [he] at h3
      simp only at h1
      omega
theorem EarF.unique {es : List (Nat × Nat)} {T : Nat} {l : List Int} {ord : List Nat} (hI : OrderInv es T T ord) {E F : Nat → Int} (hE : EarF es T l E) (hF : EarF es T l F) {t : Nat} (ht : t < T) : E t = F t := by
  obtain ⟨i, hi, rfl⟩ := List.getElem_of_mem (order_all hI ht)
  have h1 := EarF.unique_le hI hE hF (i + 1) i hi (by omega)
  have h2 := EarF.unique_le hI hF hE (i + 1) i hi (by omega)
  omega
theorem Times.earF {es : List (Nat × Nat)} {T : Nat} {l E D : List Int} {L : Int} (h : Times es T l E D L) : EarF es T l (fun t => E.getD t 0) :=
  ⟨fun t _ => h.enn t, h.ele, h.eeq⟩
theorem join_tasks (p q : Plan) (m : List Edge) : (joinP p q m).tasks = p.tasks + q.tasks := rfl
theorem join_es {p q : Plan} (hf : planFault p = 0) (hg : planFault q = 0) (m : List Edge) {x : Nat × Nat} : x ∈ esOf (joinP p q m) ↔ x ∈ esOf p ∨ (∃ y ∈ esOf q, x = (y.1 + p.tasks.toNat, y.2 + p.tasks.toNat)) ∨ x ∈ esL m := by
  have hT := manyOk_tasks (planFault_zero.1 hf).1
  have hq := (planFault_zero.1 hg).2.1
  have e : (joinP p q m).edges = (p.edges ++ q.edges.map (shiftE p.tasks)) ++ m := by
    simp [joinP, joinL]
  unfold esOf
  rw [e]
  simp only [esL, List.map_append, List.mem_append, List.map_map]
  rw [or_assoc]
  refine or_congr Iff.rfl (or_congr ?_ Iff.rfl)
  simp only [List.mem_map, Function.comp]
  constructor
  · rintro ⟨a, ha, rfl⟩
    have := hq a ha
    simp only [edgeIn, Bool.and_eq_true, inB_iff] at this
    refine ⟨_, ⟨a, ha, rfl⟩, ?_⟩
    simp only [shiftE, Prod.mk.injEq]
    omega
  · rintro ⟨y, ⟨a, ha, rfl⟩, rfl⟩
    have := hq a ha
    simp only [edgeIn, Bool.and_eq_true, inB_iff] at this
    refine ⟨a, ha, ?_⟩
    simp only [shiftE, Prod.mk.injEq]
    omega
theorem mem_cross {t : Int} (ht : 0 ≤ t) {A B : List Nat} {x : Nat × Nat} : x ∈ esL (crossL t A B) ↔ ∃ a ∈ A, ∃ b ∈ B, x = (a, b + t.toNat) := by
  simp only [esL, crossL, crossRow, List.mem_map, List.mem_flatMap]
  constructor
  · rintro ⟨e, ⟨a, ha, b, hb, rfl⟩, rfl⟩
    refine ⟨a, ha, b, hb, ?_⟩
    simp only [crossE, Prod.mk.injEq]
    omega
  · rintro ⟨a, ha, b, hb, rfl⟩
    refine ⟨crossE t a b, ⟨a, ha, b, hb, rfl⟩, ?_⟩
    simp only [crossE, Prod.mk.injEq]
    omega
theorem mem_sinks {p : Plan} (hf : planFault p = 0) {t : Nat} : t ∈ sinksOf p ↔ t < p.tasks.toNat ∧ ∀ s, (t, s) ∉ esOf p := by
  have hl := esOf_lt (planFault_zero.1 hf).2.1
  unfold sinksOf
  rw [if_pos hf]
  unfold endsL
  rw [List.mem_filter, List.mem_range, List.isEmpty_iff, List.eq_nil_iff_forall_not_mem]
  refine and_congr Iff.rfl (forall_congr' fun s => ?_)
  rw [behindL_iff hl.2]
theorem mem_sources {p : Plan} (hf : planFault p = 0) {t : Nat} : t ∈ sourcesOf p ↔ t < p.tasks.toNat ∧ ∀ s, (s, t) ∉ esOf p := by
  have hl := esOf_lt (planFault_zero.1 hf).2.1
  unfold sourcesOf
  rw [if_pos hf]
  unfold endsL
  rw [List.mem_filter, List.mem_range, List.isEmpty_iff, List.eq_nil_iff_forall_not_mem]
  refine and_congr Iff.rfl (forall_congr' fun s => ?_)
  rw [beforeL_iff hl.1]

theorem behind_long {p q : Plan} (hf : planFault p = 0) (hg : planFault q = 0) (hj : planFault (joinP p q (moreL p q)) = 0) :
    longestOf (joinP p q (moreL p q)) (onesL (joinP p q (moreL p q))) = longestOf p (onesL p) + longestOf q (onesL q) := by
  have tp := times_of (ones_ok hf)
  have tq := times_of (ones_ok hg)
  have tj := times_of (ones_ok hj)
  have hT := manyOk_tasks (planFault_zero.1 hf).1
  have hU := manyOk_tasks (planFault_zero.1 hg).1
  have lp := esOf_lt (planFault_zero.1 hf).2.1
  have lq := esOf_lt (planFault_zero.1 hg).2.1
  have hes : ∀ {x : Nat × Nat}, x ∈ esOf (joinP p q (moreL p q)) ↔ x ∈ esOf p ∨ (∃ y ∈ esOf q, x = (y.1 + p.tasks.toNat, y.2 + p.tasks.toNat)) ∨ ∃ a ∈ sinksOf p, ∃ b ∈ sourcesOf q, x = (a, b + p.tasks.toNat) := by
    intro x
    rw [join_es hf hg]
    unfold moreL
    rw [mem_cross (by omega)]
  have hJ : (joinP p q (moreL p q)).tasks.toNat = p.tasks.toNat + q.tasks.toNat := by rw [join_tasks]; omega
  have o1 : ∀ t, t < p.tasks.toNat → (onesL p).getD t 0 = 1 := fun t h => ones_getD h
  have o2 : ∀ t, t < q.tasks.toNat → (onesL q).getD t 0 = 1 := fun t h => ones_getD h
  have o3 : ∀ t, t < p.tasks.toNat + q.tasks.toNat → (onesL (joinP p q (moreL p q))).getD t 0 = 1 := fun t h => ones_getD (by rw [hJ]; exact h)
  have hI := orderOf_inv hj
  rw [hJ] at hI tj
  generalize longestOf p (onesL p) = x at *
  generalize longestOf q (onesL q) = y at *
  generalize earliestOf p (onesL p) = Ep at *
  generalize earliestOf q (onesL q) = Eq at *
  generalize longestOf (joinP p q (moreL p q)) (onesL (joinP p q (moreL p q))) = z at *
  generalize earliestOf (joinP p q (moreL p q)) (onesL (joinP p q (moreL p q))) = Ej at *
  -- the last of p is a sink
  obtain ⟨s, hs, hsx⟩ := tp.emax
  rw [o1 s hs] at hsx
  have hsink : s ∈ sinksOf p := (mem_sinks hf).2 ⟨hs, fun b hb => by
    have h1 := tp.ele _ hb
    have h2 := tp.elong b (lp.2 _ hb)
    rw [o1 b (lp.2 _ hb)] at h2
    simp only [o1 s hs] at h1
    omega⟩
  have hF : EarF (esOf (joinP p q (moreL p q))) (p.tasks.toNat + q.tasks.toNat) (onesL (joinP p q (moreL p q))) (fun t => if t < p.tasks.toNat then Ep.getD t 0 else x + Eq.getD (t - p.tasks.toNat) 0) := by
    have hx0 : 0 ≤ x := by have := tp.enn s; omega
    refine ⟨fun t ht => ?_, fun e he => ?_, fun t ht => ?_⟩
    · have h1 := tp.enn t
      have h2 := tq.enn (t - p.tasks.toNat)
      split <;> omega
    · rcases hes.1 he with h | ⟨y, hy, rfl⟩ | ⟨a, ha, b, hb, rfl⟩
      · have h1 := lp.1 _ h
        have h2 := lp.2 _ h
        have h3 := tp.ele _ h
        rw [o1 _ h1] at h3
        simp only [if_pos h1, if_pos h2]
        rw [o3 _ (by omega)]
        exact h3
      · have h1 := lq.1 _ hy
        have h2 := lq.2 _ hy
        have h3 := tq.ele _ hy
        rw [o2 _ h1] at h3
        simp only [if_neg (show ¬ y.1 + p.tasks.toNat < p.tasks.toNat by omega), if_neg (show ¬ y.2 + p.tasks.toNat < p.tasks.toNat by omega), Nat.add_sub_cancel]
        rw [o3 _ (by omega)]
        omega
      · have h1 := ((mem_sinks hf).1 ha).1
        have h2 := ((mem_sources hg).1 hb).1
        have h3 := tp.elong a h1
        rw [o1 _ h1] at h3
        have h4 := tq.enn b
        simp only [if_pos h1, if_neg (show ¬ b + p.tasks.toNat < p.tasks.toNat by omega), Nat.add_sub_cancel]
        rw [o3 _ (by omega)]
        omega
    · by_cases hlt : t < p.tasks.toNat
      · simp only [if_pos hlt]
        rcases tp.eeq t hlt with h | ⟨a, ha, h⟩
        · exact .inl h
        · have h1 := lp.1 _ ha
          rw [o1 _ h1] at h
          refine .inr ⟨a, hes.2 (.inl ha), ?_⟩
          rw [if_pos h1, o3 _ (by omega)]
          exact h
      · simp only [if_neg hlt]
        rcases tq.eeq (t - p.tasks.toNat) (by omega) with h | ⟨a, ha, h⟩
        · have hsrc : t - p.tasks.toNat ∈ sourcesOf q := (mem_sources hg).2 ⟨by omega, fun b hb => by
            have h1 := tq.ele _ hb
            have h2 := tq.enn b
            have h3 := o2 b (lq.1 _ hb)
            simp only [h3] at h1
            omega⟩
          refine .inr ⟨s, hes.2 (.inr (.inr ⟨s, hsink, _, hsrc, by congr 1; omega⟩)), ?_⟩
          rw [if_pos hs, o3 _ (by omega), h]
          omega
        · have h1 := lq.1 _ ha
          rw [o2 _ h1] at h
          refine .inr ⟨a + p.tasks.toNat, hes.2 (.inr (.inl ⟨_, ha, by simp only [Prod.mk.injEq, true_and]; omega⟩)), ?_⟩
          rw [if_neg (by omega), o3 _ (by omega), Nat.add_sub_cancel]
          omega
  have hu : ∀ t, t < p.tasks.toNat + q.tasks.toNat → Ej.getD t 0 = if t < p.tasks.toNat then Ep.getD t 0 else x + Eq.getD (t - p.tasks.toNat) 0 := fun t ht => EarF.unique hI tj.earF hF ht
  obtain ⟨m, hm, hmy⟩ := tq.emax
  rw [o2 m hm] at hmy
  have h1 := tj.elong (m + p.tasks.toNat) (by omega)
  rw [hu _ (by omega), o3 _ (by omega), if_neg (by omega), Nat.add_sub_cancel] at h1
  obtain ⟨t, ht, hz⟩ := tj.emax
  rw [hu _ ht, o3 _ ht] at hz
  have hm0 := tq.enn m
  by_cases hlt : t < p.tasks.toNat
  · rw [if_pos hlt] at hz
    have h2 := tp.elong t hlt
    rw [o1 _ hlt] at h2
    omega
  · rw [if_neg hlt] at hz
    have h2 := tq.elong (t - p.tasks.toNat) (by omega)
    rw [o2 _ (by omega)] at h2
    omega
theorem beside_long {p q : Plan} (hf : planFault p = 0) (hg : planFault q = 0) (hj : planFault (joinP p q []) = 0) :
    longestOf (joinP p q []) (onesL (joinP p q [])) = max (longestOf p (onesL p)) (longestOf q (onesL q)) := by
  have tp := times_of (ones_ok hf)
  have tq := times_of (ones_ok hg)
  have tj := times_of (ones_ok hj)
  have hT := manyOk_tasks (planFault_zero.1 hf).1
  have hU := manyOk_tasks (planFault_zero.1 hg).1
  have lp := esOf_lt (planFault_zero.1 hf).2.1
  have lq := esOf_lt (planFault_zero.1 hg).2.1
  have hes : ∀ {x : Nat × Nat}, x ∈ esOf (joinP p q []) ↔ x ∈ esOf p ∨ (∃ y ∈ esOf q, x = (y.1 + p.tasks.toNat, y.2 + p.tasks.toNat)) := by
    intro x
    rw [join_es hf hg]
    simp [esL]
  have hJ : (joinP p q []).tasks.toNat = p.tasks.toNat + q.tasks.toNat := by rw [join_tasks]; omega
  have o1 : ∀ t, t < p.tasks.toNat → (onesL p).getD t 0 = 1 := fun t h => ones_getD h
  have o2 : ∀ t, t < q.tasks.toNat → (onesL q).getD t 0 = 1 := fun t h => ones_getD h
  have o3 : ∀ t, t < p.tasks.toNat + q.tasks.toNat → (onesL (joinP p q [])).getD t 0 = 1 := fun t h => ones_getD (by rw [hJ]; exact h)
  have hI := orderOf_inv hj
  rw [hJ] at hI tj
  generalize longestOf p (onesL p) = x at *
  generalize longestOf q (onesL q) = y at *
  generalize earliestOf p (onesL p) = Ep at *
  generalize earliestOf q (onesL q) = Eq at *
  generalize longestOf (joinP p q []) (onesL (joinP p q [])) = z at *
  generalize earliestOf (joinP p q []) (onesL (joinP p q [])) = Ej at *
  have hF : EarF (esOf (joinP p q [])) (p.tasks.toNat + q.tasks.toNat) (onesL (joinP p q [])) (fun t => if t < p.tasks.toNat then Ep.getD t 0 else Eq.getD (t - p.tasks.toNat) 0) := by
    refine ⟨fun t ht => ?_, fun e he => ?_, fun t ht => ?_⟩
    · have h1 := tp.enn t
      have h2 := tq.enn (t - p.tasks.toNat)
      split <;> omega
    · rcases hes.1 he with h | ⟨y, hy, rfl⟩
      · have h1 := lp.1 _ h
        have h2 := lp.2 _ h
        have h3 := tp.ele _ h
        rw [o1 _ h1] at h3
        simp only [if_pos h1, if_pos h2]
        rw [o3 _ (by omega)]
        exact h3
      · have h1 := lq.1 _ hy
        have h2 := lq.2 _ hy
        have h3 := tq.ele _ hy
        rw [o2 _ h1] at h3
        simp only [if_neg (show ¬ y.1 + p.tasks.toNat < p.tasks.toNat by omega), if_neg (show ¬ y.2 + p.tasks.toNat < p.tasks.toNat by omega), Nat.add_sub_cancel]
        rw [o3 _ (by omega)]
        omega
    · by_cases hlt : t < p.tasks.toNat
      · simp only [if_pos hlt]
        rcases tp.eeq t hlt with h | ⟨a, ha, h⟩
        · exact .inl h
        · have h1 := lp.1 _ ha
          rw [o1 _ h1] at h
          refine .inr ⟨a, hes.2 (.inl ha), ?_⟩
          rw [if_pos h1, o3 _ (by omega)]
          exact h
      · simp only [if_neg hlt]
        rcases tq.eeq (t - p.tasks.toNat) (by omega) with h | ⟨a, ha, h⟩
        · exact .inl h
        · have h1 := lq.1 _ ha
          rw [o2 _ h1] at h
          refine .inr ⟨a + p.tasks.toNat, hes.2 (.inr ⟨_, ha, by simp only [Prod.mk.injEq, true_and]; omega⟩), ?_⟩
          rw [if_neg (by omega), o3 _ (by omega), Nat.add_sub_cancel]
          omega
  have hu : ∀ t, t < p.tasks.toNat + q.tasks.toNat → Ej.getD t 0 = if t < p.tasks.toNat then Ep.getD t 0 else Eq.getD (t - p.tasks.toNat) 0 := fun t ht => EarF.unique hI tj.earF hF ht
  obtain ⟨s, hs, hsx⟩ := tp.emax
  rw [o1 s hs] at hsx
  obtain ⟨m, hm, hmy⟩ := tq.emax
  rw [o2 m hm] at hmy
  have h1 := tj.elong (m + p.tasks.toNat) (by omega)
  rw [hu _ (by omega), o3 _ (by omega), if_neg (by omega), Nat.add_sub_cancel] at h1
  have h0 := tj.elong s (by omega)
  rw [hu _ (by omega), o3 _ (by omega), if_pos hs] at h0
  obtain ⟨t, ht, hz⟩ := tj.emax
  rw [hu _ ht, o3 _ ht] at hz
  by_cases hlt : t < p.tasks.toNat
  · rw [if_pos hlt] at hz
    have h2 := tp.elong t hlt
    rw [o1 _ hlt] at h2
    omega
  · rw [if_neg hlt] at hz
    have h2 := tq.elong (t - p.tasks.toNat) (by omega)
    rw [o2 _ (by omega)] at h2
    omega
/-- two single tasks, one behind the other -/
theorem behind_reach {p q : Plan} (hf : planFault p = 0) (hg : planFault q = 0) (hj : planFault (joinP p q (moreL p q)) = 0) (h1 : p.tasks = 1) (h2 : q.tasks = 1) : reachB (joinP p q (moreL p q)) 0 ((joinP p q (moreL p q)).tasks - 1) = true := by
  have hJ : (joinP p q (moreL p q)).tasks = 2 := by rw [join_tasks]; omega
  have lp := esOf_lt (planFault_zero.1 hf).2.1
  have lq := esOf_lt (planFault_zero.1 hg).2.1
  have np : ∀ a b, (a, b) ∉ esOf p := fun a b h => by
    have e1 := lp.1 _ h
    have e2 := lp.2 _ h
    refine (planFault_zero.1 hf).2.2.2 ⟨a, e1, ?_⟩
    have : a = b := by simp only at e1 e2; omega
    subst this
    exact Pg.Reach.one h
  have nq : ∀ a b, (a, b) ∉ esOf q := fun a b h => by
    have e1 := lq.1 _ h
    have e2 := lq.2 _ h
    refine (planFault_zero.1 hg).2.2.2 ⟨a, e1, ?_⟩
    have : a = b := by simp only at e1 e2; omega
    subst this
    exact Pg.Reach.one h
  rw [reachB_is hj (by omega) (by omega), hJ]
  refine Pg.Reach.one ((join_es hf hg _).2 (.inr (.inr ?_)))
  unfold moreL
  rw [mem_cross (by omega)]
  exact ⟨0, (mem_sinks hf).2 ⟨by omega, fun s => np _ _⟩, 0, (mem_sources hg).2 ⟨by omega, fun s => nq _ _⟩, by rw [h1]; rfl⟩
end Go.Proofs.Ytnaicippgocdfaa
end
section
namespace Go.Proofs.Ytnaicippgocdfaa
open Go.RowKit
set_option maxRecDepth 100000
set_option maxHeartbeats 2000000
set_option linter.unusedVariables false

theorem big_any (v : Value) (code : List UInt8) (w : World) (hm : code.length ≤ 9223372036854775807) (h : Rd byteE w w.heap.size v code) : Calls Try.prog 6 #[v] w fun e w' => e = .returned (.bool (decide ((1048576 : Int) < (code.length : Int)))) ∧ w = w' := by
  obtain ⟨A, c, rfl, -⟩ := id h
  go_enter Try.func6, Try.ntmps6
  go_wp2
  go_ret
  exact ⟨rfl, rfl⟩
theorem sameInts_same (v v' : Value) (l : List Int) (w : World) (hl : l.length ≤ 2000000) (h : Rd intE w w.heap.size v l) (h' : Rd intE w w.heap.size v' l) :
    Calls Try.prog 20 #[v, v'] w fun e w' => e = .returned (.bool true) ∧ Below w.heap.size w w' := by
  obtain ⟨A, c, rfl, -⟩ := id h
  obtain ⟨A', c', rfl, -⟩ := id h'
  go_enter Try.func20, Try.ntmps20
  go_wp2
  go_loopw [5] (fun i wr => ∃ k : Nat, k ≤ l.length ∧ i = .int .i64 k ∧ Below w.heap.size w wr) (fun i _ => l.length - (intOf i).toNat)
  case atStart => exact ⟨0, Nat.zero_le _, rfl, Below.refl _ _⟩
  case round =>
    obtain ⟨k, hk, rfl, hb⟩ := hrel
    by_cases hlt : k < l.length
    · obtain ⟨b, o, rfl, hbb, c0⟩ := (h.below hb).int hlt
      obtain ⟨b', o', rfl, hbb', d0⟩ := (h'.below hb).int hlt
      have i1 : (k : Int) < (l.length : Int) := by omega
      go_wp2
      go_quiet (fail)
      go_wp2
      exact ⟨⟨k + 1, by omega, by go_num, bdrewN hb _⟩, by simp [intOf]; omega⟩
    · have i1 : ¬ (k : Int) < (l.length : Int) := by omega
      go_wp2
      go_ret
      exact ⟨rfl, hb⟩
theorem sameEdges_same (v v' : Value) (l : List Edge) (w : World) (hl : l.length ≤ 2000000) (h : Rd edgeE w w.heap.size v l) (h' : Rd edgeE w w.heap.size v' l) :
    Calls Try.prog 61 #[v, v'] w fun e w' => e = .returned (.bool true) ∧ Below w.heap.size w w' := by
  obtain ⟨A, c, rfl, -⟩ := id h
  obtain ⟨A', c', rfl, -⟩ := id h'
  go_enter Try.func61, Try.ntmps61
  go_wp2
  go_loopw [5] (fun i wr => ∃ k : Nat, k ≤ l.length ∧ i = .int .i64 k ∧ Below w.heap.size w wr) (fun i _ => l.length - (intOf i).toNat)
  case atStart => exact ⟨0, Nat.zero_le _, rfl, Below.refl _ _⟩
  case round =>
    obtain ⟨k, hk, rfl, hb⟩ := hrel
    by_cases hlt : k < l.length
    · obtain ⟨b, o, rfl, hbb, c0, c1⟩ := (h.below hb).edge hlt
      obtain ⟨b', o', rfl, hbb', d0, d1⟩ := (h'.below hb).edge hlt
      have i1 : (k : Int) < (l.length : Int) := by omega
      go_wp2
      go_quiet (fail)
      go_wp2
      exact ⟨⟨k + 1, by omega, by go_num, bdrewN hb _⟩, by simp [intOf]; omega⟩
    · have i1 : ¬ (k : Int) < (l.length : Int) := by omega
      go_wp2
      go_ret
      exact ⟨rfl, hb⟩
theorem samePlan_same (p : Plan) (ve vf : Value) (w : World) (hl : p.edges.length ≤ 2000000) (h : Rd edgeE w w.heap.size ve p.edges) (h' : Rd edgeE w w.heap.size vf p.edges) :
    Calls Try.prog 25 #[planV p ve, planV p vf] w fun e w' => e = .returned (.bool true) ∧ Below w.heap.size w w' := by
  obtain ⟨D, E, hb⟩ := twoBox_at 26 p ve p vf w
  unfold twoBox planBox at D E hb
  obtain ⟨c0, c1, c2, c3, c4, cs⟩ := D.cells
  obtain ⟨d0, d1, d2, d3, d4, ds⟩ := E.cells
  unfold planV
  go_enter Try.func25, Try.ntmps25
  go_wp2_with fail
  refine (sameEdges_same ve vf p.edges _ hl ((h.below hb).more hb.size) ((h'.below hb).more hb.size)).mono ?_
  rintro e w1 ⟨rfl, b1⟩
  go_wp2
  go_ret
  exact ⟨rfl, bnext hb b1⟩
theorem hasInt_any (v : Value) (l : List Int) (x : Int) (w : World) (hl : l.length ≤ 2000000) (h : Rd intE w w.heap.size v l) :
    Calls Try.prog 43 #[v, .int .i64 x] w fun e w' => e = .returned (.bool (decide (x ∈ l))) ∧ w = w' := by
  obtain ⟨A, c, rfl, -⟩ := id h
  go_enter Try.func43, Try.ntmps43
  go_wp2
  go_loop [5] (fun i => ∃ k : Nat, k ≤ l.length ∧ i = .int .i64 k ∧ Hid (x ∉ l.take k)) (fun i => l.length - (intOf i).toNat)
  case atStart => exact ⟨0, Nat.zero_le _, rfl, by show x ∉ l.take 0; simp⟩
  case round =>
    obtain ⟨k, hk, rfl, hno⟩ := hrel
    by_cases hlt : k < l.length
    · obtain ⟨b, o, rfl, hbb, c0⟩ := h.int hlt
      have i1 : (k : Int) < (l.length : Int) := by omega
      by_cases hx : l[k] = x
      · have S : Hid (decide (x ∈ l) = true) := decide_eq_true (by rw [← hx]; exact List.getElem_mem hlt)
        rw [hx] at c0
        clear hx
        go_wp2
        go_ret
        exact ⟨ret_bool S.out.symm, rfl⟩
      · have S : Hid (x ∉ l.take (k + 1)) := by
          show x ∉ l.take (k + 1)
          rw [take_snoc l k hlt, List.mem_append, List.mem_singleton]
          rintro (h | h)
          · exact hno.out h
          · exact hx h.symm
        have hx' : (l[k] == x) = false := beq_eq_false_iff_ne.2 hx
        clear hx
        go_wp2
        go_round
        case rel => exact ⟨k + 1, by omega, by go_num, S⟩
        case measure => simp [intOf]; omega
    · have i1 : ¬ (k : Int) < (l.length : Int) := by omega
      have hke : k = l.length := by omega
      have S : Hid (decide (x ∈ l) = false) := decide_eq_false (by have := hno.out; rw [hke, List.take_length] at this; exact this)
      clear hke hno
      go_wp2
      go_ret
      exact ⟨ret_bool S.out.symm, rfl⟩
theorem ones_any (p : Plan) (ve : Value) (w : World) (hT : 1 ≤ p.tasks ∧ p.tasks ≤ 12) :
    Calls Try.prog 28 #[planV p ve] w fun e w' => ∃ u, e = .returned u ∧ Ow intE 3 w' w.heap.size u (onesL p) ∧ Below w.heap.size w w' := by
  obtain ⟨i0, hi0, hz0, hz1, hz2⟩ := info_parts int_info
  have hb0 := planBox_below 26 p ve w
  have P0 := BoxAt.new 26 p ve w
  have s0 := planBox_size 26 p ve w
  unfold planV
  go_enter Try.func28, Try.ntmps28
  go_wp2
  have ha : Below (planBox 26 p ve w).heap.size (planBox 26 p ve w) ((planBox 26 p ve w).alloc (.cells #[] 3)) := (Below.refl _ _).alloc (Nat.le_refl _) _
  have O0 := Ow.empty intE 3 (planBox 26 p ve w) (g := w.heap.size + 1) (by rw [planBox_size])
  have P1 := P0.below ha
  have b1 := bnext hb0 ha
  have hz : ((planBox 26 p ve w).alloc (.cells #[] 3)).heap.size = w.heap.size + 2 := by simp [planBox]
  unfold planBox at O0 P1 b1 hz
  clear ha P0 hb0 s0
  generalize ((w.alloc (.cells #[.int .i64 p.prio, .int .i64 p.most, .int .i64 p.wait, .int .i64 p.tasks, ve] 26)).alloc (.cells #[] 3)) = w1 at *
  go_loopw [3, 4] (fun u i wr => ∃ k : Nat, k ≤ p.tasks.toNat ∧ i = .int .i64 k ∧ Ow intE 3 wr (w.heap.size + 1) u (List.replicate k 1) ∧ BoxAt w.heap.size p ve wr ∧ Below w.heap.size w wr ∧ w.heap.size + 2 ≤ wr.heap.size) (fun _ i _ => p.tasks.toNat - (intOf i).toNat)
  case atStart => exact ⟨0, Nat.zero_le _, rfl, O0, P1, b1, by omega⟩
  case round =>
    clear O0 P1 b1 hz
    obtain ⟨k, hk, rfl, O, P, B, hsz⟩ := hrel
    obtain ⟨p0, p1, p2, p3, p4, ps⟩ := P.cells
    by_cases hlt : k < p.tasks.toNat
    · have i1 : (k : Int) < p.tasks := by omega
      have i2 : (k : Int) < 12 := by omega
      obtain ⟨A, cap, rfl, -⟩ := id (Rd.of_own O)
      rw [List.length_replicate] at O ⊢
      have z3 : Hid ((List.replicate k (1 : Int)).length ≤ 3000000) := by show _ ≤ _; rw [List.length_replicate]; omega
      have hax : Below wr.heap.size wr (wr.alloc (.cells #[.int .i64 1] 3)) := (Below.refl _ _).alloc (Nat.le_refl _) _
      go_wp2_with (at_builtin; refine wpList_push_all _ intE (by decide) rfl (.tmp 16) (.tmp 17) rfl Try.underlying27 hi0 hz0 hz1 hz2 rfl (v := .slice A k cap) (l := List.replicate k 1) rfl (O.below hax) rfl (Rd.one intE _ _ 1 rfl rfl 1 (Nat.le_refl _) (Nat.lt_succ_self _)) z3.out (by simp) (by decide) (by simp; omega) ?_; intro v5 w5 o5 g5 f5)
      have hb5 : ∀ g, (Value.slice A k cap).ownBlock = some g → w.heap.size + 1 ≤ g := fun g hg => (O.within g hg).1
      refine ⟨⟨k + 1, by omega, by go_num, ?_, (P.below hax).far g5 (fun e => by have := hb5 _ e.symm; omega), (bnext B hax).grown g5 (by simp; omega) (fun g hg => by have := hb5 g hg; omega), by have := g5.size; simp at this; omega⟩, by simp [intOf]; omega⟩
      rw [List.replicate_succ']
      exact o5
    · have hke : k = p.tasks.toNat := by omega
      go_wp2
      go_ret
      subst hke
      exact ⟨_, rfl, O.more (by omega), B⟩
end Go.Proofs.Ytnaicippgocdfaa
end
section
namespace Go.Proofs.Ytnaicippgocdfaa
open Go.RowKit
set_option maxRecDepth 100000
set_option maxHeartbeats 1000000

theorem mem_tightL {S : List Int} : ∀ (n t : Nat), (t : Int) ∈ tightL S n ↔ t < n ∧ S.getD t 0 = 0
  | 0, t => by simp [tightL]
  | n + 1, t => by
    have ih := mem_tightL (S := S) n t
    have e : tightL S (n + 1) = if S.getD n 0 = 0 then tightL S n ++ [(n : Int)] else tightL S n := by
      rw [tightL]
      split <;> simp
    rw [e]
    by_cases h0 : S.getD n 0 = 0
    · rw [if_pos h0, List.mem_append, ih, List.mem_singleton]
      constructor
      · rintro (⟨h1, h2⟩ | h1)
        · exact ⟨by omega, h2⟩
        · have : t = n := by omega
          subst this
          exact ⟨by omega, h0⟩
      · rintro ⟨h1, h2⟩
        by_cases ht : t = n
        · exact .inr (by omega)
        · exact .inl ⟨by omega, h2⟩
    · rw [if_neg h0, ih]
      constructor
      · rintro ⟨h1, h2⟩
        exact ⟨by omega, h2⟩
      · rintro ⟨h1, h2⟩
        have : t ≠ n := fun e => h0 (e ▸ h2)
        exact ⟨by omega, h2⟩
structure WFacts (p : Plan) (l E D S Tt : List Int) (L W : Int) : Prop where
  el : E.length = p.tasks.toNat
  dl : D.length = p.tasks.toNat
  sl : S.length = p.tasks.toNat
  ll : l.length = p.tasks.toNat
  e0 : ∀ t, t < p.tasks.toNat → 0 ≤ E.getD t 0
  s0 : ∀ t, t < p.tasks.toNat → S.getD t 0 = D.getD t 0 - E.getD t 0 ∧ 0 ≤ S.getD t 0
  lg : ∀ t, t < p.tasks.toNat → E.getD t 0 + l.getD t 0 ≤ L
  ti : ∀ t, t < p.tasks.toNat → (S.getD t 0 = 0 ↔ (t : Int) ∈ Tt)
  ee : ∀ e ∈ esOf p, E.getD e.1 0 + l.getD e.1 0 ≤ E.getD e.2 0 ∧ D.getD e.1 0 + l.getD e.1 0 ≤ D.getD e.2 0
  dg : ∀ t, t < p.tasks.toNat → D.getD t 0 + l.getD t 0 ≤ L
  pos : 0 < Tt.length
  wk : L ≤ W
theorem wfacts {p : Plan} {l : List Int} (h : weightsOk p l = true) : WFacts p l (earliestOf p l) (latestOf p l) (slackOf p l) (tightOf p l) (longestOf p l) (workOf p l) := by
  have ht := times_of h
  have hsl : (slackOf p l).length = p.tasks.toNat := by unfold slackOf; rw [slackL_len, ht.dlen]
  have hsg : ∀ t, t < p.tasks.toNat → (slackOf p l).getD t 0 = (latestOf p l).getD t 0 - (earliestOf p l).getD t 0 := by
    intro t htT
    unfold slackOf slackL
    rw [List.getD_eq_getElem?_getD, List.getElem?_map, List.getElem?_range (by rw [ht.dlen]; exact htT)]
    rfl
  have hti : ∀ t, t < p.tasks.toNat → ((slackOf p l).getD t 0 = 0 ↔ (t : Int) ∈ tightOf p l) := by
    intro t htT
    unfold tightOf
    rw [mem_tightL, hsl]
    exact ⟨fun h => ⟨htT, h⟩, fun h => h.2⟩
  refine ⟨ht.elen, ht.dlen, hsl, ?_, fun t _ => ht.enn t, fun t htT => ⟨hsg t htT, by rw [hsg t htT]; have := ht.ed t htT; omega⟩, ht.elong, hti, fun e he => ⟨ht.ele e he, ht.dle e he⟩, ht.dlong, ?_, ?_⟩
  · have := (weightsOk_all h).2.1; omega
  · obtain ⟨t, htT, hm⟩ := ht.emax
    have h1 := ht.dlong t htT
    have h2 := ht.ed t htT
    have h3 : (t : Int) ∈ tightOf p l := (hti t htT).1 (by rw [hsg t htT]; omega)
    exact List.length_pos_of_mem h3
  · unfold workOf
    rw [if_pos h]
    exact ht.lwork
theorem drawn_weights (code : List UInt8) : weightsOk (drawnWork code).1.1 (drawnWork code).2.1 = true := by
  unfold drawnWork
  simp only
  have hf := curPlan_ok code (curNew code)
  have hT := manyOk_tasks (planFault_zero.1 hf).1
  unfold weightsOk
  simp only [Bool.and_eq_true, decide_eq_true_eq, List.all_eq_true, inB_iff]
  exact ⟨⟨hf, by rw [curWeights_len]; omega⟩, curWeights_bd _ _ _⟩
end Go.Proofs.Ytnaicippgocdfaa
end
section
namespace Go.Proofs.Ytnaicippgocdfaa
open Go.RowKit
set_option maxRecDepth 100000
set_option maxHeartbeats 2000000

noncomputable def leastEnd (p : Plan) (l : List Int) (many : Int) : Int := if weightsOk p l = true ∧ inB many 1 8 = true then max (longestOf p l) ((workOf p l + many - 1) / many) else 0
theorem leastEnd_no {p : Plan} {l : List Int} {many : Int} (h : ¬ (weightsOk p l = true ∧ inB many 1 8 = true)) : leastEnd p l many = 0 := by unfold leastEnd; rw [if_neg h]
theorem leastEnd_yes {p : Plan} {l : List Int} {many : Int} (h : weightsOk p l = true ∧ inB many 1 8 = true) : leastEnd p l many = max (longestOf p l) ((workOf p l + many - 1) / many) := by unfold leastEnd; rw [if_pos h]
theorem longestOf_bd {p : Plan} {l : List Int} (h : weightsOk p l = true) : 0 ≤ longestOf p l ∧ longestOf p l ≤ 145000 := longUpto_bd (earliestOf_bd p l) (weightsOk_all h).2.2 _
theorem workOf_bd {p : Plan} {l : List Int} (h : weightsOk p l = true) : 0 ≤ workOf p l ∧ workOf p l ≤ 12000 := by
  have h1 := sum_bound (weightsOk_all h).2.2
  have h2 := weightsOk_len h
  simp only [workOf, if_pos h]
  omega

theorem implLeast_any (p : Plan) (ve v : Value) (l : List Int) (many : Int) (w : World) (hl : p.edges.length ≤ 2000000) (hl2 : l.length ≤ 2000000) (h : Rd edgeE w w.heap.size ve p.edges) (h2 : Rd intE w w.heap.size v l) :
    Calls Try.prog 14 #[planV p ve, v, .int .i64 many] w fun e w' => e = .returned (.int .i64 (leastEnd p l many)) ∧ Below w.heap.size w w' := by
  have hb0 := planBox_below 26 p ve w
  have D0 := BoxAt.new 26 p ve w
  cases hf : weightsOk p l
  · have H := Lib.hid (leastEnd_no (p := p) (l := l) (many := many) (fun x => by rw [hf] at x; cases x.1))
    have HF := Lib.hid hf
    clear hf
    unfold planV
    go_enter Try.func14, Try.ntmps14
    go_wp2_with fail
    refine (implWeightsOk_any p ve v l _ hl hl2 ((h.below hb0).more hb0.size) ((h2.below hb0).more hb0.size)).mono ?_
    rintro e w1 ⟨rfl, hb1⟩
    rw [HF.out]
    go_wp2
    go_ret
    exact ⟨ret_int H.out.symm, bnext hb0 hb1⟩
  cases hm : inB many 1 8
  · have H := Lib.hid (leastEnd_no (p := p) (l := l) (many := many) (fun x => by rw [hm] at x; cases x.2))
    have HF := Lib.hid hf
    clear hf
    unfold planV
    go_enter Try.func14, Try.ntmps14
    go_wp2_with fail
    refine (implWeightsOk_any p ve v l _ hl hl2 ((h.below hb0).more hb0.size) ((h2.below hb0).more hb0.size)).mono ?_
    rintro e w1 ⟨rfl, hb1⟩
    rw [HF.out]
    have hb := bnext hb0 hb1
    go_wp2_with (go_at_call 49; refine (within_any _ _ _ _).mono ?_; rintro e w' ⟨rfl, rfl⟩)
    go_ret
    exact ⟨ret_int H.out.symm, hb⟩
  have H := Lib.hid (leastEnd_yes ⟨hf, hm⟩)
  have HF := Lib.hid hf
  obtain ⟨m1, m2⟩ := inB_iff.1 hm
  obtain ⟨l1, l2⟩ := longestOf_bd hf
  obtain ⟨k1, k2⟩ := workOf_bd hf
  clear hf
  unfold planV
  go_enter Try.func14, Try.ntmps14
  go_wp2_with fail
  refine (implWeightsOk_any p ve v l _ hl hl2 ((h.below hb0).more hb0.size) ((h2.below hb0).more hb0.size)).mono ?_
  rintro e w1 ⟨rfl, hb1⟩
  rw [HF.out]
  have hb := bnext hb0 hb1
  have D := D0.below hb1
  clear hb0 hb1 D0
  obtain ⟨x0, x1, x2, x3, x4, xs⟩ := D.cells
  generalize hL : longestOf p l = L at *
  have HL := Lib.hid hL
  generalize hK : workOf p l = K at *
  have HK := Lib.hid hK
  clear hL hK
  have hs1 : IntKind.i64.wrap (K + many) = K + many := IntWalk.i64_in _ (by omega)
  have hs2 : IntKind.i64.wrap (K + many - 1) = K + many - 1 := IntWalk.i64_in _ (by omega)
  have hq : 0 ≤ (K + many - 1) / many ∧ (K + many - 1) / many ≤ 20000 := by
    refine ⟨Int.ediv_nonneg (by omega) (by omega), ?_⟩
    have := Int.ediv_le_self many (a := K + many - 1) (by omega)
    omega
  obtain ⟨q1, q2⟩ := hq
  go_wp2_with (go_at_call 49; refine (within_any _ _ _ _).mono ?_; rintro e w' ⟨rfl, rfl⟩)
  have hlc := later_cell w1
  refine wp_region_pure (by kernel_rfl) (by kernel_rfl) ?_
  repeat (go_big_quiet_step ((first
    | (go_at_call 31; rename_i x; have h1 := implLongest_any p ve v l x.1 hl hl2 ((h.below (bnext hb x.2)).more (bnext hb x.2).size) ((h2.below (bnext hb x.2)).more (bnext hb x.2).size); rw [HL.out] at h1; unfold planV at h1; with_reducible exact pure_of h1)
    | (go_at_call 44; rename_i x; have h1 := implWorkOf_any p ve v l x.1 hl hl2 ((h.below (bnext hb x.2)).more (bnext hb x.2).size) ((h2.below (bnext hb x.2)).more (bnext hb x.2).size); rw [HK.out] at h1; unfold planV at h1; with_reducible exact pure_of h1))))
  refine wpQuiet_nil ?_
  rintro _ ⟨⟨w3, hb3⟩, rfl⟩
  clear hlc
  go_wp2
  go_ret
  exact ⟨ret_int H.out.symm, bnext hb hb3⟩
theorem specLeast_any (p : Plan) (ve v : Value) (l : List Int) (many : Int) (w : World) (hl : p.edges.length ≤ 2000000) (hl2 : l.length ≤ 2000000) (h : Rd edgeE w w.heap.size ve p.edges) (h2 : Rd intE w w.heap.size v l) :
    Calls Try.prog 16 #[planV p ve, v, .int .i64 many] w fun e w' => e = .returned (.int .i64 (leastEnd p l many)) ∧ Below w.heap.size w w' := by
  have hb0 := planBox_below 26 p ve w
  have D0 := BoxAt.new 26 p ve w
  cases hf : weightsOk p l
  · have H := Lib.hid (leastEnd_no (p := p) (l := l) (many := many) (fun x => by rw [hf] at x; cases x.1))
    have HF := Lib.hid hf
    clear hf
    unfold planV
    go_enter Try.func16, Try.ntmps16
    go_wp2_with fail
    refine (specWeightsOk_any p ve v l _ hl hl2 ((h.below hb0).more hb0.size) ((h2.below hb0).more hb0.size)).mono ?_
    rintro e w1 ⟨rfl, hb1⟩
    rw [HF.out]
    go_wp2
    go_ret
    exact ⟨ret_int H.out.symm, bnext hb0 hb1⟩
  cases hm : inB many 1 8
  · have H := Lib.hid (leastEnd_no (p := p) (l := l) (many := many) (fun x => by rw [hm] at x; cases x.2))
    have HF := Lib.hid hf
    clear hf
    unfold planV
    go_enter Try.func16, Try.ntmps16
    go_wp2_with fail
    refine (specWeightsOk_any p ve v l _ hl hl2 ((h.below hb0).more hb0.size) ((h2.below hb0).more hb0.size)).mono ?_
    rintro e w1 ⟨rfl, hb1⟩
    rw [HF.out]
    have hb := bnext hb0 hb1
    go_wp2_with (go_at_call 52; refine (l01In_any _ _ _ _).mono ?_; rintro e w' ⟨rfl, rfl⟩)
    go_ret
    exact ⟨ret_int H.out.symm, hb⟩
  have H := Lib.hid (leastEnd_yes ⟨hf, hm⟩)
  have HF := Lib.hid hf
  obtain ⟨m1, m2⟩ := inB_iff.1 hm
  obtain ⟨l1, l2⟩ := longestOf_bd hf
  obtain ⟨k1, k2⟩ := workOf_bd hf
  clear hf
  unfold planV
  go_enter Try.func16, Try.ntmps16
  go_wp2_with fail
  refine (specWeightsOk_any p ve v l _ hl hl2 ((h.below hb0).more hb0.size) ((h2.below hb0).more hb0.size)).mono ?_
  rintro e w1 ⟨rfl, hb1⟩
  rw [HF.out]
  have hb := bnext hb0 hb1
  have D := D0.below hb1
  clear hb0 hb1 D0
  obtain ⟨x0, x1, x2, x3, x4, xs⟩ := D.cells
  generalize hL : longestOf p l = L at *
  have HL := Lib.hid hL
  generalize hK : workOf p l = K at *
  have HK := Lib.hid hK
  clear hL hK
  have hs1 : IntKind.i64.wrap (K + many) = K + many := IntWalk.i64_in _ (by omega)
  have hs2 : IntKind.i64.wrap (K + many - 1) = K + many - 1 := IntWalk.i64_in _ (by omega)
  have hq : 0 ≤ (K + many - 1) / many ∧ (K + many - 1) / many ≤ 20000 := by
    refine ⟨Int.ediv_nonneg (by omega) (by omega), ?_⟩
    have := Int.ediv_le_self many (a := K + many - 1) (by omega)
    omega
  obtain ⟨q1, q2⟩ := hq
  go_wp2_with (go_at_call 52; refine (l01In_any _ _ _ _).mono ?_; rintro e w' ⟨rfl, rfl⟩)
  clear x0 x1 x2 x3 x4 xs
  refine (specWorkOf_any p ve v l _ hl hl2 ((h.below hb).more hb.size) ((h2.below hb).more hb.size)).mono ?_
  rintro e w2 ⟨rfl, hb2⟩
  rw [HK.out]
  have D := D.below hb2
  have hb := bnext hb hb2
  obtain ⟨x0, x1, x2, x3, x4, xs⟩ := D.cells
  go_wp2_with fail
  clear x0 x1 x2 x3 x4 xs
  refine (specLongest_any p ve v l _ hl hl2 ((h.below hb).more hb.size) ((h2.below hb).more hb.size)).mono ?_
  rintro e w3 ⟨rfl, hb3⟩
  rw [HL.out]
  have D := D.below hb3
  have hb := bnext hb hb3
  obtain ⟨x0, x1, x2, x3, x4, xs⟩ := D.cells
  by_cases hgt : (K + many - 1) / many < L
  · have hmax := Lib.hid (show max L ((K + many - 1) / many) = L by omega)
    go_wp2_with fail
    clear x0 x1 x2 x3 x4 xs
    refine (specLongest_any p ve v l _ hl hl2 ((h.below hb).more hb.size) ((h2.below hb).more hb.size)).mono ?_
    rintro e w4 ⟨rfl, hb4⟩
    rw [HL.out]
    have hb := bnext hb hb4
    go_wp2
    go_ret
    exact ⟨ret_int (by rw [H.out, hmax.out]), hb⟩
  · have hmax := Lib.hid (show max L ((K + many - 1) / many) = (K + many - 1) / many by omega)
    go_wp2
    go_ret
    exact ⟨ret_int (by rw [H.out, hmax.out]), hb⟩
end Go.Proofs.Ytnaicippgocdfaa
end
section
namespace Go.Proofs.Ytnaicippgocdfaa
open Go.RowKit
set_option maxRecDepth 100000
set_option maxHeartbeats 4000000
set_option linter.unusedVariables false

/-- a plan with weights, drawn twice, and what is kept of it -/
structure FW (p : Plan) (l : List Int) (pb sb : Nat) (ve vs vw vv : Value) (w0 w : World) : Prop where
  P : BoxAt pb p ve w
  S : BoxAt sb p vs w
  rp : Rd edgeE w w.heap.size ve p.edges
  rs : Rd edgeE w w.heap.size vs p.edges
  rw_ : Rd intE w w.heap.size vw l
  rv : Rd intE w w.heap.size vv l
  b : Below w0.heap.size w0 w
theorem Rd.on {α : Type} {e : Enc α} {w w' : World} {v : Value} {l : List α} (h : Rd e w w.heap.size v l) (c : Below w.heap.size w w') : Rd e w' w'.heap.size v l := (h.below c).more c.size
theorem FW.below {p : Plan} {l : List Int} {pb sb : Nat} {ve vs vw vv : Value} {w0 w w' : World} (h : FW p l pb sb ve vs vw vv w0 w) (c : Below w.heap.size w w') : FW p l pb sb ve vs vw vv w0 w' :=
  ⟨h.P.below c, h.S.below c, h.rp.on c, h.rs.on c, h.rw_.on c, h.rv.on c, bnext h.b c⟩
/-- both drawn -/
theorem FW.start {p : Plan} {l : List Int} {A1 A2 A3 A4 : Option Addr} {c1 c2 c3 c4 : Nat} {w0 w1 w2 : World}
    (b1 : Below w0.heap.size w0 w1) (o1 : Ow edgeE 52 w1 w0.heap.size (.slice A1 p.edges.length c1) p.edges) (q1 : Ow intE 3 w1 w0.heap.size (.slice A2 l.length c2) l)
    (b2 : Below (w1.alloc (.cells #[.int .i64 p.prio, .int .i64 p.most, .int .i64 p.wait, .int .i64 p.tasks, .slice A1 p.edges.length c1] 26)).heap.size (w1.alloc (.cells #[.int .i64 p.prio, .int .i64 p.most, .int .i64 p.wait, .int .i64 p.tasks, .slice A1 p.edges.length c1] 26)) w2)
    {B1 B2 : Nat} (o2 : Ow edgeE 52 w2 B1 (.slice A3 p.edges.length c3) p.edges) (q2 : Ow intE 3 w2 B2 (.slice A4 l.length c4) l) :
    FW p l w1.heap.size w2.heap.size (.slice A1 p.edges.length c1) (.slice A3 p.edges.length c3) (.slice A2 l.length c2) (.slice A4 l.length c4) w0 (w2.alloc (.cells #[.int .i64 p.prio, .int .i64 p.most, .int .i64 p.wait, .int .i64 p.tasks, .slice A3 p.edges.length c3] 26)) := by
  have a1 := (Below.refl w1.heap.size w1).alloc (Nat.le_refl _) (.cells #[.int .i64 p.prio, .int .i64 p.most, .int .i64 p.wait, .int .i64 p.tasks, .slice A1 p.edges.length c1] 26)
  have a2 := (Below.refl w2.heap.size w2).alloc (Nat.le_refl _) (.cells #[.int .i64 p.prio, .int .i64 p.most, .int .i64 p.wait, .int .i64 p.tasks, .slice A3 p.edges.length c3] 26)
  refine ⟨((BoxAt.new' 26 p _ w1 rfl).below b2).below a2, BoxAt.new' 26 p _ w2 rfl, (((Rd.of_own o1).on a1).on b2).on a2, (Rd.of_own o2).on a2, (((Rd.of_own q1).on a1).on b2).on a2, (Rd.of_own q2).on a2, bnext (bnext (bnext b1 a1) b2) a2⟩

theorem lawWeights_walk (v : Value) (code : List UInt8) (w : World) (hm : code.length ≤ 9223372036854775807) (h : Rd byteE w w.heap.size v code) :
    Calls Try.prog 5 #[v] w fun e w' => e = .returned (.bool true) ∧ Below w.heap.size w w' := by
  by_cases hbig : (1048576 : Int) < (code.length : Int)
  · go_enter Try.func5, Try.ntmps5
    go_wp2_with fail
    refine (big_any v code w hm h).mono ?_
    rintro e w1 ⟨rfl, rfl⟩
    go_wp2
    go_ret
    exact ⟨rfl, Below.refl _ _⟩
  have hs : code.length ≤ 1048576 := by omega
  have hbg : decide ((1048576 : Int) < (code.length : Int)) = false := by simpa using hbig
  go_enter Try.func5, Try.ntmps5
  go_wp2_with fail
  refine (big_any v code w hm h).mono ?_
  rintro e w0 ⟨rfl, rfl⟩
  rw [hbg]
  clear hbg hbig
  go_wp2_with fail
  have hok := drawn_weights code
  refine (drawWork_any v code w hs h).mono ?_
  rintro e w1 ⟨u1, u2, rfl, o1, q1, b1⟩
  have hD : ∀ (W : World), Rd byteE W W.heap.size v code → Calls Try.prog 7 #[v] W (WorkP code W) := fun W hW => drawWork_any v code W hs hW
  unfold WorkP at hD
  have h1 := h.on b1
  generalize (drawnWork code).1.1 = p at *
  generalize (drawnWork code).2.1 = l at *
  generalize (1 + (curBelow code 4 (drawnWork code).2.2).1) = many at *
  have HD := Lib.hid hD
  clear hD h
  have hf := wfacts hok
  have HF := Lib.hid hf
  have hT := manyOk_tasks (planFault_zero.1 (weightsOk_all hok).1).1
  have hE := manyOk_edges (planFault_zero.1 (weightsOk_all hok).1).1
  have hin := Lib.hid (planFault_zero.1 (weightsOk_all hok).1).2.1
  have HL := Lib.hid hf.ll
  have hL : l.length ≤ 12 := by rw [HL.out]; omega
  have HW := Lib.hid hok
  clear hok hf
  obtain ⟨A1, c1, rfl, -⟩ := id (Rd.of_own o1)
  obtain ⟨A2, c2, rfl, -⟩ := id (Rd.of_own q1)
  go_wp2_with fail
  refine (HD.out _ (h1.on ((Below.refl _ _).alloc (Nat.le_refl _) _))).mono ?_
  rintro e w2 ⟨u3, u4, rfl, o2, q2, b2⟩
  obtain ⟨A3, c3, rfl, -⟩ := id (Rd.of_own o2)
  obtain ⟨A4, c4, rfl, -⟩ := id (Rd.of_own q2)
  have X := FW.start b1 o1 q1 b2 o2 q2
  clear b1 o1 q1 b2 o2 q2 HD h1
  obtain ⟨p0, p1, p2, p3, p4, ps⟩ := X.P.cells
  go_wp2_with fail
  clear p0 p1 p2 p3 p4 ps
  generalize w1.heap.size = pb at *
  generalize hsb : w2.heap.size = sb at *
  clear hsb
  generalize (w2.alloc (.cells #[.int .i64 p.prio, .int .i64 p.most, .int .i64 p.wait, .int .i64 p.tasks, .slice A3 p.edges.length c3] 26)) = w3 at *
  have hE2 : p.edges.length ≤ 2000000 := by omega
  have hL2 : l.length ≤ 2000000 := by omega
  refine (implEarliest_any p _ _ l _ hE2 hL2 X.rp X.rw_).mono ?_
  rintro e w4 ⟨u5, rfl, oE, b4⟩
  replace X := X.below b4
  have rE := Rd.of_own oE
  clear oE b4
  obtain ⟨p0, p1, p2, p3, p4, ps⟩ := X.P.cells
  go_wp2_with fail
  clear p0 p1 p2 p3 p4 ps
  refine (implLatest_any p _ _ l _ hE2 hL2 X.rp X.rw_).mono ?_
  rintro e w5 ⟨u6, rfl, oD, b5⟩
  replace X := X.below b5
  replace rE := rE.on b5
  have rD := Rd.of_own oD
  clear oD b5
  obtain ⟨p0, p1, p2, p3, p4, ps⟩ := X.P.cells
  go_wp2_with fail
  clear p0 p1 p2 p3 p4 ps
  refine (implSlack_any p _ _ l _ hE2 hL2 X.rp X.rw_).mono ?_
  rintro e w6 ⟨u7, rfl, oS, b6⟩
  replace X := X.below b6
  replace rE := rE.on b6
  replace rD := rD.on b6
  have rS := Rd.of_own oS
  clear oS b6
  obtain ⟨p0, p1, p2, p3, p4, ps⟩ := X.P.cells
  go_wp2_with fail
  clear p0 p1 p2 p3 p4 ps
  refine (implLongest_any p _ _ l _ hE2 hL2 X.rp X.rw_).mono ?_
  rintro e w7 ⟨rfl, b7⟩
  replace X := X.below b7
  replace rE := rE.on b7
  replace rD := rD.on b7
  replace rS := rS.on b7
  clear b7
  obtain ⟨p0, p1, p2, p3, p4, ps⟩ := X.P.cells
  go_wp2_with fail
  clear p0 p1 p2 p3 p4 ps
  refine (implWeightsOk_any p _ _ l _ hE2 hL2 X.rp X.rw_).mono ?_
  rintro e w8 ⟨rfl, b8⟩
  rw [HW.out]
  replace X := X.below b8
  replace rE := rE.on b8
  replace rD := rD.on b8
  replace rS := rS.on b8
  clear b8
  have HNl := Lib.hid (show (earliestOf p l).length ≤ 2000000 by rw [HF.out.el]; omega)
  have HDl := Lib.hid (show (latestOf p l).length ≤ 2000000 by rw [HF.out.dl]; omega)
  have HSl := Lib.hid (show (slackOf p l).length ≤ 2000000 by rw [HF.out.sl]; omega)
  obtain ⟨p0, p1, p2, p3, p4, ps⟩ := X.S.cells
  go_wp2_with fail
  clear p0 p1 p2 p3 p4 ps
  refine (specEarliest_any p _ _ l _ hE2 hL2 X.rs X.rv).mono ?_
  rintro e w9 ⟨u8, rfl, oQ, b9⟩
  replace X := X.below b9
  replace rE := rE.on b9
  replace rD := rD.on b9
  replace rS := rS.on b9
  clear b9
  go_wp2_with fail
  refine (sameInts_same u5 u8 _ _ HNl.out rE (Rd.of_own oQ)).mono ?_
  rintro e w10 ⟨rfl, b10⟩
  replace X := X.below b10
  replace rE := rE.on b10
  replace rD := rD.on b10
  replace rS := rS.on b10
  clear b10 oQ
  obtain ⟨p0, p1, p2, p3, p4, ps⟩ := X.S.cells
  go_wp2_with fail
  clear p0 p1 p2 p3 p4 ps
  refine (specLatest_any p _ _ l _ hE2 hL2 X.rs X.rv).mono ?_
  rintro e w11 ⟨u9, rfl, oQ, b11⟩
  replace X := X.below b11
  replace rE := rE.on b11
  replace rD := rD.on b11
  replace rS := rS.on b11
  clear b11
  go_wp2_with fail
  refine (sameInts_same u6 u9 _ _ HDl.out rD (Rd.of_own oQ)).mono ?_
  rintro e w12 ⟨rfl, b12⟩
  replace X := X.below b12
  replace rE := rE.on b12
  replace rD := rD.on b12
  replace rS := rS.on b12
  clear b12 oQ
  obtain ⟨p0, p1, p2, p3, p4, ps⟩ := X.S.cells
  go_wp2_with fail
  clear p0 p1 p2 p3 p4 ps
  refine (specSlack_any p _ _ l _ hE2 hL2 X.rs X.rv).mono ?_
  rintro e w13 ⟨u10, rfl, oQ, b13⟩
  replace X := X.below b13
  replace rE := rE.on b13
  replace rD := rD.on b13
  replace rS := rS.on b13
  clear b13
  go_wp2_with fail
  refine (sameInts_same u7 u10 _ _ HSl.out rS (Rd.of_own oQ)).mono ?_
  rintro e w14 ⟨rfl, b14⟩
  replace X := X.below b14
  replace rE := rE.on b14
  replace rD := rD.on b14
  replace rS := rS.on b14
  clear b14 oQ
  obtain ⟨p0, p1, p2, p3, p4, ps⟩ := X.P.cells
  go_wp2_with fail
  clear p0 p1 p2 p3 p4 ps
  refine (implTight_any p _ _ l _ hE2 hL2 X.rp X.rw_).mono ?_
  rintro e w15 ⟨u11, rfl, oT, b15⟩
  replace X := X.below b15
  replace rE := rE.on b15
  replace rD := rD.on b15
  replace rS := rS.on b15
  have rT := Rd.of_own oT
  have HTl := Lib.hid (tightOf_len p l)
  clear b15 oT
  obtain ⟨Ae, ce, rfl, -⟩ := id rE
  obtain ⟨Ad, cd, rfl, -⟩ := id rD
  obtain ⟨As, cs, rfl, -⟩ := id rS
  obtain ⟨At, ct, rfl, -⟩ := id rT
  go_wp2_with fail
  generalize earliestOf p l = E at *
  generalize latestOf p l = D at *
  generalize slackOf p l = S at *
  generalize tightOf p l = Tt at *
  generalize longestOf p l = N at *
  generalize hW0 : workOf p l = W at *
  have HW0 := Lib.hid hW0
  clear hW0 HNl HDl HSl
  have hTt : Tt.length ≤ 2000000 := by have := HTl.out; omega
  go_loopw [14] (fun i wr => ∃ k : Nat, k ≤ p.tasks.toNat ∧ i = .int .i64 k ∧ Below w15.heap.size w15 wr) (fun i _ => p.tasks.toNat - (intOf i).toNat)
  case atStart => exact ⟨0, Nat.zero_le _, rfl, Below.refl _ _⟩
  case round =>
    obtain ⟨k, hk, rfl, hb⟩ := hrel
    replace X := X.below hb
    replace rE := rE.on hb
    replace rD := rD.on hb
    replace rS := rS.on hb
    replace rT := rT.on hb
    obtain ⟨p0, p1, p2, p3, p4, ps⟩ := X.S.cells
    by_cases hlt : k < p.tasks.toNat
    · have i1 : (k : Int) < p.tasks := by omega
      have i0 : (0 : Int) ≤ (k : Int) := by omega
      have iE : k < E.length := by rw [HF.out.el]; exact hlt
      have iD : k < D.length := by rw [HF.out.dl]; exact hlt
      have iS : k < S.length := by rw [HF.out.sl]; exact hlt
      have iL : k < l.length := by rw [HF.out.ll]; exact hlt
      have jE : (k : Int) < (E.length : Int) := by omega
      have jD : (k : Int) < (D.length : Int) := by omega
      have jS : (k : Int) < (S.length : Int) := by omega
      have jL : (k : Int) < (l.length : Int) := by omega
      have f1 := HF.out.e0 k hlt
      have f2 := HF.out.s0 k hlt
      have f3 := HF.out.lg k hlt
      have f4 := HF.out.ti k hlt
      rw [getD_at iE] at f1 f2 f3
      rw [getD_at iD] at f2
      rw [getD_at iS] at f2 f4
      have f5 := HF.out.dg k hlt
      rw [getD_at iD] at f5
      rw [getD_at iL] at f3 f5
      have hwt := (weightsOk_all HW.out).2.2 _ (List.getElem_mem iL)
      have hNb : N ≤ 12000 := by have h1 := HF.out.wk; have h2 := workOf_bd HW.out; rw [HW0.out] at h2; omega
      obtain ⟨bE, oE, rfl, gE, cE⟩ := rE.int iE
      obtain ⟨bD, oD, rfl, gD, cD⟩ := rD.int iD
      obtain ⟨bS, oS, rfl, gS, cS⟩ := rS.int iS
      obtain ⟨bL, oL, rfl, gL, cL⟩ := X.rv.int iL
      generalize E[k] = x at *
      generalize D[k] = d at *
      generalize S[k] = y at *
      generalize l[k] = z at *
      have w1' : IntKind.i64.wrap (x + z) = x + z := IntWalk.i64_in _ (by omega)
      have hDu : d ≤ 1000000 := by omega
      have w2' : IntKind.i64.wrap (d - x) = d - x := IntWalk.i64_in _ (by omega)
      have t1 : decide (x < 0) = false := by simpa using f1
      have t2 : decide (y < 0) = false := by simpa using f2.2
      have t3 : (y != d - x) = false := by simp [f2.1]
      have t4 : decide (N < x + z) = false := by simpa using f3
      have t5 : ((y == 0) == decide ((k : Int) ∈ Tt)) = true := by
        by_cases h0 : y = 0
        · have := f4.1 h0
          simp [h0, this]
        · have : ¬ (k : Int) ∈ Tt := fun h => h0 (f4.2 h)
          have h0' : (y == 0) = false := beq_eq_false_iff_ne.2 h0
          simp [h0', this]
      have hlc := later_cell wr
      clear f1 f2 f3 f4 f5 hwt
      go_wp2
      refine wp_region_pure (by kernel_rfl) (by kernel_rfl) ?_
      repeat (go_big_quiet_step ((go_at_call 43; exact pure_same (fun u => hasInt_any _ Tt (k : Int) u.1 hTt (rT.on u.2)))))
      refine wpQuiet_nil ?_
      rintro _ ⟨⟨w16, hb16⟩, rfl⟩
      clear hlc
      go_wp2
      exact ⟨⟨k + 1, by omega, by go_num, bnext hb hb16⟩, by simp [intOf]; omega⟩
    · go_wp2
      clear hb
      try clear p0 p1 p2 p3 p4 ps
      obtain ⟨w16, rfl⟩ : ∃ w16, w16 = wr := ⟨_, rfl⟩
      go_loopw [15] (fun i wr => ∃ k : Nat, k ≤ p.edges.length ∧ i = .int .i64 k ∧ Below w16.heap.size w16 wr) (fun i _ => p.edges.length - (intOf i).toNat)
      case atStart => exact ⟨0, Nat.zero_le _, rfl, Below.refl _ _⟩
      case round =>
        obtain ⟨k, hk, rfl, hb⟩ := hrel
        replace X := X.below hb
        replace rE := rE.on hb
        replace rD := rD.on hb
        replace rT := rT.on hb
        obtain ⟨p0, p1, p2, p3, p4, ps⟩ := X.S.cells
        by_cases hlt : k < p.edges.length
        · have i1 : (k : Int) < (p.edges.length : Int) := by omega
          have i0 : (0 : Int) ≤ (k : Int) := by omega
          obtain ⟨b, o, rfl, hbb, c0, c1'⟩ := X.rs.edge hlt
          have hx := edgesIn_get hin.out hlt
          have hmem : (p.edges[k].fr.toNat, p.edges[k].to.toNat) ∈ esOf p := mem_esOf.2 ⟨_, List.getElem_mem hlt, rfl⟩
          have f1 := HF.out.ee _ hmem
          obtain ⟨a, ha⟩ := Int.eq_ofNat_of_zero_le hx.1
          obtain ⟨c, hc⟩ := Int.eq_ofNat_of_zero_le hx.2.2.1
          rw [ha] at c0
          rw [hc] at c1'
          simp only [ha, hc, Int.toNat_natCast] at f1
          have haT : a < p.tasks.toNat := by omega
          have hcT : c < p.tasks.toNat := by omega
          clear ha hc hx hmem
          have aE : a < E.length := by rw [HF.out.el]; exact haT
          have cE : c < E.length := by rw [HF.out.el]; exact hcT
          have aD : a < D.length := by rw [HF.out.dl]; exact haT
          have cD : c < D.length := by rw [HF.out.dl]; exact hcT
          have aL : a < l.length := by rw [HF.out.ll]; exact haT
          have g1 := HF.out.e0 a haT
          have g2 := HF.out.s0 a haT
          have g3 := HF.out.lg a haT
          have g4 := HF.out.dg a haT
          have hNb : N ≤ 12000 := by have h1 := HF.out.wk; have h2 := workOf_bd HW.out; rw [HW0.out] at h2; omega
          have hwt := (weightsOk_all HW.out).2.2 _ (List.getElem_mem aL)
          rw [getD_at aE] at f1 g1 g2 g3
          rw [getD_at cE] at f1
          rw [getD_at aD] at f1 g2 g4
          rw [getD_at cD] at f1
          rw [getD_at aL] at f1 g3 g4
          have n1 : (0 : Int) ≤ (a : Int) := by omega
          have n2 : (0 : Int) ≤ (c : Int) := by omega
          have m1 : (a : Int) < (E.length : Int) := by omega
          have m2 : (c : Int) < (E.length : Int) := by omega
          have m3 : (a : Int) < (D.length : Int) := by omega
          have m4 : (c : Int) < (D.length : Int) := by omega
          have m5 : (a : Int) < (l.length : Int) := by omega
          obtain ⟨bE, oE, hbE, gE, xE⟩ := rE.int aE
          obtain ⟨bE', oE', hbE', -, yE⟩ := rE.int cE
          obtain ⟨bD, oD, hbD, gD, xD⟩ := rD.int aD
          obtain ⟨bD', oD', hbD', -, yD⟩ := rD.int cD
          obtain ⟨bL, oL, hbL, gL, xL⟩ := X.rv.int aL
          subst hbE; subst hbD; subst hbL
          simp only [Option.some.injEq, Addr.mk.injEq, and_true] at hbE' hbD'
          obtain ⟨rfl, rfl⟩ := hbE'
          obtain ⟨rfl, rfl⟩ := hbD'
          generalize E[a] = x at *
          generalize E[c] = x' at *
          generalize D[a] = d at *
          generalize D[c] = d' at *
          generalize l[a] = z at *
          have w1' : IntKind.i64.wrap (x + z) = x + z := IntWalk.i64_in _ (by omega)
          have w2' : IntKind.i64.wrap (d + z) = d + z := IntWalk.i64_in _ (by omega)
          have t1 : decide (x' < x + z) = false := by simpa using f1.1
          have t2 : decide (d' < d + z) = false := by simpa using f1.2
          have s0 : b < wr.heap.size := hbb
          clear f1 g1 g2 g3 g4 hwt
          go_wp2
          have hax : Below wr.heap.size wr (wr.alloc (.cells #[.int .i64 (a : Int), .int .i64 (c : Int)] 52)) := (Below.refl _ _).alloc (Nat.le_refl _) _
          go_quiet (fail)
          go_wp2
          exact ⟨⟨k + 1, by omega, by go_num, bdrewN (bnext hb hax) _⟩, by simp [intOf]; omega⟩
        · have i1 : ¬ (k : Int) < (p.edges.length : Int) := by omega
          clear p0 p1 p2 p3 p4 ps
          obtain ⟨x0, x1, x2, x3, x4, xs⟩ := X.P.cells
          obtain ⟨y0, y1, y2, y3, y4, ys⟩ := X.S.cells
          have hlc := later_cell wr
          have t1 : decide ((0 : Int) < (Tt.length : Int)) = true := by have := HF.out.pos; simpa using by omega
          have t1n : 0 < Tt.length := HF.out.pos
          have t1d : decide (0 < Tt.length) = true := decide_eq_true t1n
          have t2 : decide (N ≤ W) = true := by have := HF.out.wk; simpa using this
          have cI : ∀ u : Later wr, Calls Try.prog 44 #[planV p (.slice A1 p.edges.length c1), .slice A2 l.length c2] u.1 fun e w' => e = .returned (.int .i64 W) ∧ Below u.1.heap.size u.1 w' := fun u => by
            rw [← HW0.out]
            exact implWorkOf_any p _ _ l u.1 hE2 hL2 (X.below u.2).rp (X.below u.2).rw_
          have cS : ∀ u : Later wr, Calls Try.prog 12 #[planV p (.slice A3 p.edges.length c3), .slice A4 l.length c4] u.1 fun e w' => e = .returned (.int .i64 W) ∧ Below u.1.heap.size u.1 w' := fun u => by
            rw [← HW0.out]
            exact specWorkOf_any p _ _ l u.1 hE2 hL2 (X.below u.2).rs (X.below u.2).rv
          have CI := Lib.hid cI
          have CS := Lib.hid cS
          clear cI cS
          go_wp2
          refine wp_region_pure (by kernel_rfl) (by kernel_rfl) ?_
          repeat (go_big_quiet_step ((first | (go_at_call 44; exact pure_at CI.out) | (go_at_call 12; exact pure_at CS.out))))
          refine wpQuiet_nil ?_
          rintro _ ⟨⟨w17, hb17⟩, rfl⟩
          clear hlc
          go_wp2
          go_ret
          exact ⟨rfl, bnext X.b hb17⟩
end Go.Proofs.Ytnaicippgocdfaa
end
section
namespace Go.Proofs.Ytnaicippgocdfaa
open Go.ChangeShapes Go.WideShapes Go.ChangeAt Go.RowKit Go.Deep
set_option maxRecDepth 100000

section
variable {H : Type} {enc : TypeId × Value → H} {w : World} {spare : Nat → Bool} {held : Bool} {fuel : Nat} {cs : List Value} {x : DataW H × List MemPlace}
theorem u8_of {a : Int} (h : (Lit.int .u8 a).wf = true) : 0 ≤ a ∧ a ≤ 255 := by
  simp [Lit.wf, IntKind.min, IntKind.max, IntKind.signed, IntKind.bits] at h
  exact ⟨by omega, by omega⟩
theorem read_byteS (h : DataW.trod enc Try.prog w 0 spare held fuel 22 cs = some x) : ∃ (v : Value) (l : List UInt8), cs = [v] ∧ Rd byteE w w.heap.size v l ∧ l.length ≤ maxLen := by
  obtain ⟨v, l, h1, h2, _, h3⟩ := read_slice byteE (fun _ => True) Try.underlying22 (by kernel_rfl) (by decide) (fun n cs' y hy => by
    obtain ⟨a0, e0, _, hw⟩ := DataW.trod_int Try.underlying5 hy
    have hb := u8_of hw
    refine ⟨UInt8.ofNat a0.toNat, ?_, trivial⟩
    rw [e0]
    have : ((UInt8.ofNat a0.toNat).toNat : Int) = a0 := by
      rw [UInt8.toNat_ofNat']
      omega
    show [Value.int .u8 a0] = [Value.int .u8 ((UInt8.ofNat a0.toNat).toNat : Int)]
    rw [this]) h
  exact ⟨v, l, h1, h2, h3⟩
end
end Go.Proofs.Ytnaicippgocdfaa
end
section
namespace Go.Proofs.Ytnaicippgocdfaa
open Go.ChangeShapes Go.WideShapes Go.ChangeAt Go.RowKit

set_option maxRecDepth 100000
def headChars : List Char := [Char.ofNat 104, Char.ofNat 97, Char.ofNat 114, Char.ofNat 110, Char.ofNat 101, Char.ofNat 115, Char.ofNat 115, Char.ofNat 32, Char.ofNat 50, Char.ofNat 55, Char.ofNat 100, Char.ofNat 49, Char.ofNat 57, Char.ofNat 53, Char.ofNat 48, Char.ofNat 50, Char.ofNat 48, Char.ofNat 53, Char.ofNat 49, Char.ofNat 98, Char.ofNat 52, Char.ofNat 98, Char.ofNat 48, Char.ofNat 50, Char.ofNat 97, Char.ofNat 54, Char.ofNat 101, Char.ofNat 50, Char.ofNat 54, Char.ofNat 102, Char.ofNat 54, Char.ofNat 48, Char.ofNat 50, Char.ofNat 48, Char.ofNat 52, Char.ofNat 57, Char.ofNat 53, Char.ofNat 56, Char.ofNat 57, Char.ofNat 102, Char.ofNat 55, Char.ofNat 48, Char.ofNat 102, Char.ofNat 55, Char.ofNat 102, Char.ofNat 50, Char.ofNat 48, Char.ofNat 57, Char.ofNat 97, Char.ofNat 52, Char.ofNat 50, Char.ofNat 102, Char.ofNat 99, Char.ofNat 52, Char.ofNat 56, Char.ofNat 97, Char.ofNat 98, Char.ofNat 57, Char.ofNat 49, Char.ofNat 101, Char.ofNat 99, Char.ofNat 57, Char.ofNat 52, Char.ofNat 50, Char.ofNat 100, Char.ofNat 97, Char.ofNat 55, Char.ofNat 49, Char.ofNat 101, Char.ofNat 51, Char.ofNat 57, Char.ofNat 48, Char.ofNat 32, Char.ofNat 99, Char.ofNat 117, Char.ofNat 116, Char.ofNat 32, Char.ofNat 97, Char.ofNat 116, Char.ofNat 32, Char.ofNat 108, Char.ofNat 111, Char.ofNat 111, Char.ofNat 112, Char.ofNat 46, Char.ofNat 101, Char.ofNat 120, Char.ofNat 97, Char.ofNat 109, Char.ofNat 112, Char.ofNat 108, Char.ofNat 101, Char.ofNat 47, Char.ofNat 103, Char.ofNat 48, Char.ofNat 48, Char.ofNat 57, Char.ofNat 54, Char.ofNat 53, Char.ofNat 47, Char.ofNat 108, Char.ofNat 97, Char.ofNat 119, Char.ofNat 115, Char.ofNat 46, Char.ofNat 70, Char.ofNat 110, Char.ofNat 83, Char.ofNat 108, Char.ofNat 111, Char.ofNat 116, Char.ofNat 115, Char.ofNat 32, Char.ofNat 108, Char.ofNat 111, Char.ofNat 111, Char.ofNat 112, Char.ofNat 46, Char.ofNat 101, Char.ofNat 120, Char.ofNat 97, Char.ofNat 109, Char.ofNat 112, Char.ofNat 108, Char.ofNat 101, Char.ofNat 47, Char.ofNat 103, Char.ofNat 48, Char.ofNat 48, Char.ofNat 57, Char.ofNat 54, Char.ofNat 53, Char.ofNat 47, Char.ofNat 108, Char.ofNat 97, Char.ofNat 119, Char.ofNat 115, Char.ofNat 46, Char.ofNat 70, Char.ofNat 110, Char.ofNat 74, Char.ofNat 111, Char.ofNat 105, Char.ofNat 110, Char.ofNat 115, Char.ofNat 32, Char.ofNat 108, Char.ofNat 111, Char.ofNat 111, Char.ofNat 112, Char.ofNat 46, Char.ofNat 101, Char.ofNat 120, Char.ofNat 97, Char.ofNat 109, Char.ofNat 112, Char.ofNat 108, Char.ofNat 101, Char.ofNat 47, Char.ofNat 103, Char.ofNat 48, Char.ofNat 48, Char.ofNat 57, Char.ofNat 54, Char.ofNat 53, Char.ofNat 47, Char.ofNat 108, Char.ofNat 97, Char.ofNat 119, Char.ofNat 115, Char.ofNat 46, Char.ofNat 70, Char.ofNat 110, Char.ofNat 87, Char.ofNat 101, Char.ofNat 105, Char.ofNat 103, Char.ofNat 104, Char.ofNat 116, Char.ofNat 115]
theorem head_eq : Try.prog.initOrder = String.ofList headChars := by
  unfold headChars
  dsimp only [Try.prog, Try.progTables]
theorem head_toList : Try.prog.initOrder.toList = headChars := by rw [head_eq, String.toList_ofList]
def cutW : List Char := [Char.ofNat 99, Char.ofNat 117, Char.ofNat 116]
def headRest : List (List Char) := (behindMainWord (wordsSigns headChars)).tail
theorem head_words : behindMainWord (wordsSigns headChars) = cutW :: headRest := by kernel_rfl
theorem gc_no : (cutW == "gc".toList) = false := by kernel_rfl
theorem spec_no : (cutW == "spec".toList) = false := by kernel_rfl
theorem carried_no : (cutW == "carried".toList) = false := by kernel_rfl
theorem cut_yes : (cutW == "cut".toList) = true := by kernel_rfl
theorem cut_is : cutW = "cut".toList := by kernel_rfl
theorem strip_words : stripLifts liftWords (cutW :: headRest) = ([], cutW :: headRest) := by kernel_rfl
theorem make_of (P : Program) (r : List (List Char)) (h : behindMainWord (wordsSigns P.initOrder.toList) = cutW :: r) : P.make = some .cut := by
  unfold Program.make
  rw [h]
  simp only [gc_no, spec_no, cut_yes, Bool.or_false, Bool.true_or, if_true, Bool.false_eq_true, if_false]
theorem headLifts_of (P : Program) (r : List (List Char)) (h : behindMainWord (wordsSigns P.initOrder.toList) = cutW :: r) (hs : stripLifts liftWords (cutW :: r) = ([], cutW :: r)) : P.headLifts = [] := by
  unfold Program.headLifts
  simp only [h, hs]
  split <;> rfl
theorem liftsFinal_of (P : Program) (r : List (List Char)) (h : behindMainWord (wordsSigns P.initOrder.toList) = cutW :: r) (hs : stripLifts liftWords (cutW :: r) = ([], cutW :: r)) : P.liftsFinal = false := by
  unfold Program.liftsFinal
  have hc : (some cutW == some "carried".toList) = false := carried_no
  simp only [headLifts_of P r h hs, h, List.head?_cons, hc, Bool.false_and, Bool.false_or]
  rfl
theorem mayEnter_of (P : Program) (r : List (List Char)) (h : behindMainWord (wordsSigns P.initOrder.toList) = cutW :: r) (hs : stripLifts liftWords (cutW :: r) = ([], cutW :: r))
    (hl : P.laysLater = false) (hr : P.bearsReflect = false) (hd : P.doorFits [] = true) : P.mayEnter = true := by
  unfold Program.mayEnter
  have hc : (some cutW == some "cut".toList) = true := cut_yes
  simp only [h, hs, gc_no, spec_no, carried_no, hl, hr, hd, hc, List.head?_cons, Bool.or_false, Bool.false_or, Bool.false_and, Bool.not_false, Bool.or_true, Bool.and_true]
  rfl
theorem prog_words : behindMainWord (wordsSigns Try.prog.initOrder.toList) = cutW :: headRest := by rw [head_toList, head_words]
theorem laysLater_prog : Try.prog.laysLater = false := by kernel_rfl
theorem bearsReflect_prog : Try.prog.bearsReflect = false := by kernel_rfl
theorem doorFits_prog : Try.prog.doorFits [] = true := by kernel_rfl
theorem mayEnter_prog : Try.prog.mayEnter = true := mayEnter_of _ _ prog_words strip_words laysLater_prog bearsReflect_prog doorFits_prog
theorem liftsFinal_prog : Try.prog.liftsFinal = false := liftsFinal_of _ _ prog_words strip_words
theorem make_prog : Try.prog.make = some .cut := make_of _ _ prog_words
theorem laidOut_prog : laidOutB Try.prog = true := by kernel_rfl
theorem mapsRowed_prog : mapsRowed Try.prog = true := by kernel_rfl
theorem stopsHeard_prog : Try.prog.stopsHeard = true := by kernel_rfl
theorem plainKeys_prog : Try.prog.plainKeys = true := by kernel_rfl
theorem own_prog : ownKnob Try.prog.godebug = none := by kernel_rfl

/-- the row's closed facts, one by one -/
theorem facts_of {f : FuncId} {fn : Func} {s : ChangeSpec} {c : OpenClaim}
    (k1 : c.wf (OpenSpec.ofChange s) = true) (k4 : fn.params.all (Try.prog.readableRec ·) = true) (k5 : namedTie Try.prog c.named s.vars = true)
    (kp : ((c.stops == []) && (Try.prog.stops == []) && (c.knobs == []) && (Try.prog.stopKnobs == [])) = true)
    (k10 : (c.inPlace == Try.prog.inPlace f) = true) (k11 : (c.unfollowed == Try.prog.unfollowed f) = true) (k12 : (c.recurses == Try.prog.recurses f) = true) (k13 : (c.named == Try.prog.varsNamed f) = true)
    (k14 : ((c.maps == (fn.params.toList ++ s.plain.varTypes Try.prog).any (Try.prog.mapsRec ·)) && (c.ifaces == (fn.params.toList ++ s.plain.varTypes Try.prog).any (Try.prog.ifacesRec ·)) && (c.mapsOut == Try.prog.mapsAmong fn.resultTypes.toList) &&
      (c.loops == (fn.params.toList ++ s.plain.varTypes Try.prog).any (Try.prog.loopsFrom ·)) && (c.wideKeys == (fn.params.toList ++ s.plain.varTypes Try.prog ++ fn.resultTypes.toList).any (Try.prog.wideKeysFrom ·)) &&
      s.vars.all (Try.prog.varReadable ·) && fn.resultTypes.all (fun t => Try.prog.readableRec t && decide (t < Try.prog.types.size)) && (c.ifacesOut == fn.resultTypes.toList.any (Try.prog.ifacesRec ·)) && (c.loopsOut == fn.resultTypes.toList.any (Try.prog.loopsFrom ·)) && (c.plainKeys == true) && c.shortTexts.isNone) = true)
    (k26 : c.lifted = false) (k27 : c.make = .cut) (k28 : (c.kinds == (if c.domain.isEmpty then [] else fn.params.toList.map fun t => match Try.prog.underlying t with | some (.int k) => some k | _ => none)) = true) (k29 : (c.pinned == c.pinnedBy) = true)
    (k30 : ((c.veiled == (fn.params.toList ++ s.plain.varTypes Try.prog ++ fn.resultTypes.toList).any (Try.prog.veiledRec ·)) && c.veiledFits Try.prog fn.params.toList (fn.params.toList ++ s.plain.varTypes Try.prog ++ fn.resultTypes.toList)) = true) :
    joinedFacts Try.prog f fn s c = true := by
  simp only [Bool.and_eq_true] at kp k14 k30
  obtain ⟨⟨⟨p1, p2⟩, p3⟩, p4⟩ := kp
  obtain ⟨⟨⟨⟨⟨⟨⟨⟨⟨⟨q1, q2⟩, q3⟩, q4⟩, q5⟩, q6⟩, q7⟩, q8⟩, q9⟩, q10⟩, q11⟩ := k14
  unfold joinedFacts
  simp only [Bool.and_eq_true]
  rw [make_prog, liftsFinal_prog, plainKeys_prog, k26, k27]
  exact ⟨⟨⟨⟨⟨⟨⟨⟨⟨⟨⟨⟨⟨⟨⟨⟨⟨⟨⟨⟨⟨⟨⟨⟨⟨⟨⟨⟨⟨⟨⟨k1, laidOut_prog⟩, mapsRowed_prog⟩, k4⟩, k5⟩, p1⟩, p2⟩, p3⟩, p4⟩, k10⟩, k11⟩, k12⟩, k13⟩, q1⟩, q2⟩, q3⟩, q4⟩, q5⟩, q6⟩, q7⟩, q8⟩, q9⟩, q10⟩, q11⟩, stopsHeard_prog⟩, mayEnter_prog⟩, rfl⟩, rfl⟩, k28⟩, k29⟩, k30.1⟩, k30.2⟩
end Go.Proofs.Ytnaicippgocdfaa
end
