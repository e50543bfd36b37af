/-
  Plain facts on finite graphs: the closure by rounds over the edges, and the search by a list, both tell what can be reached.
-/
import Derived.KernelRfl
namespace Go.Proofs.Ytjobmbjadpldfaa.Pg

/-- a way along edges; the list has the nodes that it comes to, one behind the other -/
inductive Way (es : List (Nat × Nat)) : Nat → List Nat → Nat → Prop
  | nil (a : Nat) : Way es a [] a
  | cons {a c b : Nat} {l : List Nat} : (a, c) ∈ es → Way es c l b → Way es a (c :: l) b

/-- b is reached from a by one edge or more -/
def Reach (es : List (Nat × Nat)) (a b : Nat) : Prop := ∃ l, l ≠ [] ∧ Way es a l b

theorem Way.split {es : List (Nat × Nat)} {x b : Nat} {l2 : List Nat} : ∀ {a : Nat} (l1 : List Nat), Way es a (l1 ++ x :: l2) b → Way es x l2 b
  | _, [], h => by cases h with | cons _ h => exact h
  | _, _ :: l1, h => by cases h with | cons _ h => exact Way.split l1 h

theorem Way.snoc {es : List (Nat × Nat)} {b c : Nat} : ∀ {a : Nat} {l : List Nat}, Way es a l b → (b, c) ∈ es → Way es a (l ++ [c]) c
  | _, _, .nil _, he => .cons he (.nil _)
  | _, _, .cons h1 h2, he => .cons h1 (h2.snoc he)

theorem Way.simple {es : List (Nat × Nat)} {b : Nat} : ∀ (l : List Nat) {a c : Nat}, Way es a (c :: l) b → ∃ l', Way es a (c :: l') b ∧ (c :: l').Nodup
  | [], _, _, h => ⟨[], h, by simp⟩
  | d :: l, a, c, h => by
    cases h with
    | cons h1 h2 =>
      obtain ⟨l', hw, hn⟩ := Way.simple l h2
      by_cases hc : c ∈ d :: l'
      · obtain ⟨l1, l2, he⟩ := List.append_of_mem hc
        rw [he] at hw hn
        refine ⟨l2, .cons h1 (hw.split l1), ?_⟩
        exact (List.nodup_append.1 hn).2.1
      · exact ⟨d :: l', .cons h1 hw, List.nodup_cons.2 ⟨hc, hn⟩⟩

theorem nodup_le : ∀ (T : Nat) (l : List Nat), l.Nodup → (∀ x ∈ l, x < T) → l.length ≤ T
  | 0, l, _, h => by
    cases l with
    | nil => simp
    | cons a l => exact absurd (h a (by simp)) (by omega)
  | T + 1, l, hn, h => by
    have h1 := nodup_le T (l.erase T) (hn.erase T) (fun x hx => by
      have hx' := (hn.mem_erase_iff).1 hx
      have := h x hx'.2
      have := hx'.1
      omega)
    have h2 : l.length ≤ (l.erase T).length + 1 := by
      rw [List.length_erase]
      split <;> omega
    omega

theorem Way.mem {es : List (Nat × Nat)} {b : Nat} {T : Nat} (hes : ∀ e ∈ es, e.2 < T) : ∀ {a : Nat} {l : List Nat}, Way es a l b → ∀ x ∈ l, x < T
  | _, _, .nil _ => by simp
  | _, _, .cons h1 h2 => by
    intro x hx
    rcases List.mem_cons.1 hx with rfl | hx
    · exact hes _ h1
    · exact h2.mem hes x hx

/-- a short way -/
theorem Reach.short {es : List (Nat × Nat)} {a b T : Nat} (hes : ∀ e ∈ es, e.2 < T) (h : Reach es a b) : ∃ l, l ≠ [] ∧ l.length ≤ T ∧ Way es a l b := by
  obtain ⟨l, hl, hw⟩ := h
  match l, hl, hw with
  | c :: l, _, hw =>
    obtain ⟨l', hw', hn⟩ := hw.simple l
    exact ⟨c :: l', by simp, nodup_le T _ hn (hw'.mem hes), hw'⟩

theorem Reach.one {es : List (Nat × Nat)} {a b : Nat} (h : (a, b) ∈ es) : Reach es a b := ⟨[b], by simp, .cons h (.nil _)⟩
theorem Reach.cons {es : List (Nat × Nat)} {a c b : Nat} (h : (a, c) ∈ es) (h' : Reach es c b) : Reach es a b := by
  obtain ⟨l, _, hw⟩ := h'
  exact ⟨c :: l, by simp, .cons h hw⟩
theorem Reach.snoc {es : List (Nat × Nat)} {a c b : Nat} (h' : Reach es a c) (h : (c, b) ∈ es) : Reach es a b := by
  obtain ⟨l, _, hw⟩ := h'
  exact ⟨l ++ [b], by simp, hw.snoc h⟩
theorem Way.append {es : List (Nat × Nat)} {b c : Nat} {l2 : List Nat} : ∀ {a : Nat} {l : List Nat}, Way es a l b → Way es b l2 c → Way es a (l ++ l2) c
  | _, _, .nil _, h => h
  | _, _, .cons h1 h2, h => .cons h1 (h2.append h)
theorem Reach.trans {es : List (Nat × Nat)} {a c b : Nat} (h : Reach es a c) (h' : Reach es c b) : Reach es a b := by
  obtain ⟨l, hl, hw⟩ := h
  obtain ⟨l', _, hw'⟩ := h'
  exact ⟨l ++ l', by simp [hl], hw.append hw'⟩

/-! The closure by rounds: o a is a set of nodes, as a number. -/
def wstep (o : List Nat) (e : Nat × Nat) : List Nat := o.set e.1 (o.getD e.1 0 ||| (1 <<< e.2 ||| o.getD e.2 0))
def wround (es : List (Nat × Nat)) (o : List Nat) : List Nat := es.foldl wstep o
def wrounds (es : List (Nat × Nat)) : Nat → List Nat → List Nat
  | 0, o => o
  | k + 1, o => wround es (wrounds es k o)

theorem wstep_length (o : List Nat) (e : Nat × Nat) : (wstep o e).length = o.length := by simp [wstep]
theorem wround_length (es : List (Nat × Nat)) : ∀ o : List Nat, (wround es o).length = o.length := by
  unfold wround
  induction es with
  | nil => intro o; rfl
  | cons e es ih => intro o; rw [List.foldl_cons, ih, wstep_length]
theorem wrounds_length (es : List (Nat × Nat)) (o : List Nat) : ∀ k, (wrounds es k o).length = o.length
  | 0 => rfl
  | k + 1 => by rw [wrounds, wround_length, wrounds_length es o k]

theorem bit_one (i b : Nat) : (1 <<< i).testBit b = decide (i = b) := by
  rw [Nat.shiftLeft_eq, Nat.one_mul, Nat.testBit_two_pow]

theorem wstep_get (o : List Nat) (e : Nat × Nat) (a : Nat) (h : e.1 < o.length) :
    (wstep o e).getD a 0 = if a = e.1 then o.getD e.1 0 ||| (1 <<< e.2 ||| o.getD e.2 0) else o.getD a 0 := by
  unfold wstep
  simp only [List.getD_eq_getElem?_getD, List.getElem?_set]
  by_cases ha : a = e.1
  · subst ha
    simp [h]
  · rw [if_neg (fun h => ha h.symm), if_neg ha]

theorem wstep_mono (o : List Nat) (e : Nat × Nat) (a b : Nat) (h : e.1 < o.length) (hb : (o.getD a 0).testBit b = true) : ((wstep o e).getD a 0).testBit b = true := by
  rw [wstep_get o e a h]
  split
  · rename_i ha
    subst ha
    rw [Nat.testBit_or, hb]; rfl
  · exact hb

theorem wround_mono (es : List (Nat × Nat)) : ∀ (o : List Nat) (a b : Nat), (∀ e ∈ es, e.1 < o.length) → (o.getD a 0).testBit b = true → ((wround es o).getD a 0).testBit b = true := by
  unfold wround
  induction es with
  | nil => intro o a b _ h; exact h
  | cons e es ih =>
    intro o a b h hb
    rw [List.foldl_cons]
    exact ih _ a b (fun e' he' => by rw [wstep_length]; exact h e' (by simp [he'])) (wstep_mono o e a b (h e (by simp)) hb)

/-- an edge of a round does its work -/
theorem wround_edge (es : List (Nat × Nat)) : ∀ (o : List Nat) (a c b : Nat), (∀ e ∈ es, e.1 < o.length) → (a, c) ∈ es → (c = b ∨ (o.getD c 0).testBit b = true) →
    ((wround es o).getD a 0).testBit b = true := by
  unfold wround
  induction es with
  | nil => intro o a c b _ h; simp at h
  | cons e es ih =>
    intro o a c b h hm hb
    rw [List.foldl_cons]
    have hl : ∀ e' ∈ es, e'.1 < (wstep o e).length := fun e' he' => by rw [wstep_length]; exact h e' (by simp [he'])
    rcases List.mem_cons.1 hm with he | hm
    · have h0 : ((wstep o e).getD a 0).testBit b = true := by
        rw [wstep_get o e a (h e (by simp)), if_pos (by rw [← he])]
        rw [Nat.testBit_or, Nat.testBit_or, bit_one]
        rcases hb with hb | hb
        · have : e.2 = b := by rw [← he]; exact hb
          simp [this]
        · have : e.2 = c := by rw [← he]
          rw [this, hb]; simp
      exact wround_mono es _ a b hl h0
    · refine ih _ a c b hl hm ?_
      rcases hb with hb | hb
      · exact .inl hb
      · exact .inr (wstep_mono o e c b (h e (by simp)) hb)

theorem wrounds_way (es : List (Nat × Nat)) (o : List Nat) (h : ∀ e ∈ es, e.1 < o.length) : ∀ (k : Nat) (a b : Nat) (l : List Nat), l ≠ [] → l.length ≤ k → Way es a l b → ((wrounds es k o).getD a 0).testBit b = true
  | 0, _, _, l, hl, hk, _ => by
    cases l with
    | nil => exact absurd rfl hl
    | cons x l => simp at hk
  | k + 1, a, b, l, hl, hk, hw => by
    cases hw with
    | nil => exact absurd rfl hl
    | cons h1 h2 =>
      rename_i c l
      rw [wrounds]
      refine wround_edge es _ a c b (by rw [wrounds_length]; exact h) h1 ?_
      cases l with
      | nil => cases h2; exact .inl rfl
      | cons d l => exact .inr (wrounds_way es o h k c b (d :: l) (by simp) (by simp at hk ⊢; omega) h2)

theorem wround_sound (es0 es : List (Nat × Nat)) (hsub : ∀ e ∈ es, e ∈ es0) : ∀ (o : List Nat), (∀ e ∈ es, e.1 < o.length) → (∀ a b, (o.getD a 0).testBit b = true → Reach es0 a b) →
    ∀ a b, ((wround es o).getD a 0).testBit b = true → Reach es0 a b := by
  unfold wround
  induction es with
  | nil => intro o _ h; exact h
  | cons e es ih =>
    intro o hl h
    rw [List.foldl_cons]
    refine ih (fun e' he' => hsub e' (by simp [he'])) _ (fun e' he' => by rw [wstep_length]; exact hl e' (by simp [he'])) ?_
    intro a b hb
    rw [wstep_get o e a (hl e (by simp))] at hb
    split at hb
    · rename_i ha
      subst ha
      rw [Nat.testBit_or, Nat.testBit_or, bit_one] at hb
      simp only [Bool.or_eq_true, decide_eq_true_eq] at hb
      rcases hb with hb | hb | hb
      · exact h _ _ hb
      · subst hb; exact .one (hsub e (by simp))
      · exact .cons (hsub e (by simp)) (h _ _ hb)
    · exact h _ _ hb

theorem wrounds_sound (es : List (Nat × Nat)) (T : Nat) (hl : ∀ e ∈ es, e.1 < T) : ∀ k a b, ((wrounds es k (List.replicate T 0)).getD a 0).testBit b = true → Reach es a b
  | 0, a, b, h => by
    simp [wrounds, List.getD_eq_getElem?_getD, List.getElem?_replicate] at h
    split at h <;> simp at h
  | k + 1, a, b, h => wround_sound es es (fun _ h => h) _ (by rw [wrounds_length]; simpa using hl) (wrounds_sound es T hl k) a b h

/-- what the rounds tell is what can be reached -/
theorem wrounds_iff (es : List (Nat × Nat)) (T : Nat) (h1 : ∀ e ∈ es, e.1 < T) (h2 : ∀ e ∈ es, e.2 < T) (a b : Nat) :
    ((wrounds es T (List.replicate T 0)).getD a 0).testBit b = true ↔ Reach es a b := by
  refine ⟨wrounds_sound es T h1 T a b, fun h => ?_⟩
  obtain ⟨l, hl, hT, hw⟩ := h.short h2
  exact wrounds_way es _ (by simpa using h1) T a b l hl hT hw

theorem wstep_lt (T : Nat) (o : List Nat) (e : Nat × Nat) (h2 : e.2 < T) (ho : ∀ x ∈ o, x < 2 ^ T) : ∀ x ∈ wstep o e, x < 2 ^ T := by
  have hg : ∀ a, o.getD a 0 < 2 ^ T := fun a => by
    rw [List.getD_eq_getElem?_getD]
    cases h : o[a]? with
    | none => exact Nat.two_pow_pos T
    | some y => exact ho y (List.mem_of_getElem? h)
  intro x hx
  unfold wstep at hx
  rcases List.mem_or_eq_of_mem_set hx with hx | hx
  · exact ho x hx
  · subst hx
    refine Nat.or_lt_two_pow (hg _) (Nat.or_lt_two_pow ?_ (hg _))
    rw [Nat.shiftLeft_eq, Nat.one_mul]
    exact Nat.pow_lt_pow_of_lt (by omega) h2

theorem wround_lt (T : Nat) (es : List (Nat × Nat)) : ∀ (o : List Nat), (∀ e ∈ es, e.2 < T) → (∀ x ∈ o, x < 2 ^ T) → ∀ x ∈ wround es o, x < 2 ^ T := by
  unfold wround
  induction es with
  | nil => intro o _ h; exact h
  | cons e es ih =>
    intro o h2 ho
    rw [List.foldl_cons]
    exact ih _ (fun e' he' => h2 e' (by simp [he'])) (wstep_lt T o e (h2 e (by simp)) ho)
theorem wrounds_lt (T : Nat) (es : List (Nat × Nat)) (o : List Nat) (h2 : ∀ e ∈ es, e.2 < T) (ho : ∀ x ∈ o, x < 2 ^ T) : ∀ k, ∀ x ∈ wrounds es k o, x < 2 ^ T
  | 0 => ho
  | k + 1 => wround_lt T es _ h2 (wrounds_lt T es o h2 ho k)

/-! The search by a list. -/
/-- what one edge does at a node x -/
def bstep (x : Nat) (s : List Bool × List Nat) (e : Nat × Nat) : List Bool × List Nat :=
  if e.1 = x ∧ s.1.getD e.2 true = false then (s.1.set e.2 true, s.2 ++ [e.2]) else s
def bnode (es : List (Nat × Nat)) (x : Nat) (s : List Bool × List Nat) : List Bool × List Nat := es.foldl (bstep x) s
/-- the state when h nodes of the list have been looked at -/
def bfs (es : List (Nat × Nat)) (T t : Nat) : Nat → List Bool × List Nat
  | 0 => (List.replicate T false, [t])
  | h + 1 => bnode es ((bfs es T t h).2.getD h 0) (bfs es T t h)

/-- what holds all the time -/
structure Binv (es : List (Nat × Nat)) (T t : Nat) (s : List Bool × List Nat) : Prop where
  size : s.1.length = T
  head : ∃ l, s.2 = t :: l ∧ l.Nodup ∧ (∀ y, y ∈ l ↔ s.1.getD y false = true)
  reach : ∀ y, s.1.getD y false = true → Reach es t y

theorem Binv.lt {es : List (Nat × Nat)} {T t : Nat} {s : List Bool × List Nat} (h : Binv es T t s) : s.2.length ≤ T + 1 := by
  obtain ⟨l, hl, hn, hm⟩ := h.head
  rw [hl, List.length_cons]
  have := nodup_le T l hn (fun x hx => by
    have := (hm x).1 hx
    rw [List.getD_eq_getElem?_getD] at this
    by_cases hx' : x < s.1.length
    · rw [h.size] at hx'; exact hx'
    · rw [List.getElem?_eq_none (by omega)] at this; simp at this)
  omega

theorem Binv.start (es : List (Nat × Nat)) (T t : Nat) : Binv es T t (List.replicate T false, [t]) := by
  refine ⟨by simp, ⟨[], rfl, by simp, fun y => ?_⟩, fun y => ?_⟩
  · simp [List.getD_eq_getElem?_getD, List.getElem?_replicate]; split <;> simp
  · simp [List.getD_eq_getElem?_getD, List.getElem?_replicate]; split <;> simp

theorem Binv.step {es : List (Nat × Nat)} {T t x : Nat} {s : List Bool × List Nat} (h : Binv es T t s) (hx : x ∈ s.2) (e : Nat × Nat) (he : e ∈ es) (h2 : e.2 < T) : Binv es T t (bstep x s e) := by
  unfold bstep
  split
  · rename_i hc
    obtain ⟨h1, hf⟩ := hc
    obtain ⟨l, hl, hn, hm⟩ := h.head
    have hlt : e.2 < s.1.length := by rw [h.size]; exact h2
    have hf' : s.1.getD e.2 false = false := by
      rw [List.getD_eq_getElem?_getD, List.getElem?_eq_getElem hlt] at hf ⊢
      simpa using hf
    have hg : ∀ y, (s.1.set e.2 true).getD y false = true ↔ y = e.2 ∨ s.1.getD y false = true := by
      intro y
      simp only [List.getD_eq_getElem?_getD, List.getElem?_set]
      by_cases hy : e.2 = y
      · subst hy; simp [hlt]
      · rw [if_neg hy]
        exact ⟨fun h => .inr h, fun h => h.resolve_left (fun h => hy h.symm)⟩
    have hr : Reach es t e.2 := by
      rw [hl] at hx
      rcases List.mem_cons.1 hx with rfl | hx
      · exact .one (by rw [← h1]; exact he)
      · exact (h.reach x ((hm x).1 hx)).snoc (by rw [← h1]; exact he)
    refine ⟨by simpa using h.size, ⟨l ++ [e.2], by simp [hl], ?_, fun y => ?_⟩, fun y hy => ?_⟩
    · rw [List.nodup_append]
      refine ⟨hn, by simp, ?_⟩
      intro a ha b hb hab
      simp only [List.mem_singleton] at hb
      rw [hab, hb] at ha
      rw [(hm _).1 ha] at hf'
      cases hf'
    · rw [hg]
      simp only [List.mem_append, List.mem_singleton, hm]
      exact Or.comm
    · rcases (hg y).1 hy with rfl | hy
      · exact hr
      · exact h.reach y hy
  · exact h

theorem bstep_mem {x y : Nat} {s : List Bool × List Nat} {e : Nat × Nat} (h : y ∈ s.2) : y ∈ (bstep x s e).2 := by
  unfold bstep
  split
  · simp [h]
  · exact h
theorem bstep_pre {x : Nat} {s : List Bool × List Nat} {e : Nat × Nat} : ∃ r, (bstep x s e).2 = s.2 ++ r := by
  unfold bstep
  split
  · exact ⟨[e.2], rfl⟩
  · exact ⟨[], by simp⟩
theorem bnode_pre (es : List (Nat × Nat)) (x : Nat) : ∀ s : List Bool × List Nat, ∃ r, (bnode es x s).2 = s.2 ++ r := by
  unfold bnode
  induction es with
  | nil => intro s; exact ⟨[], by simp⟩
  | cons e es ih =>
    intro s
    rw [List.foldl_cons]
    obtain ⟨r, hr⟩ := ih (bstep x s e)
    obtain ⟨r', hr'⟩ := bstep_pre (x := x) (s := s) (e := e)
    exact ⟨r' ++ r, by rw [hr, hr', List.append_assoc]⟩

theorem bnode_inv {es0 : List (Nat × Nat)} {T t x : Nat} (es : List (Nat × Nat)) : ∀ {s : List Bool × List Nat}, Binv es0 T t s → x ∈ s.2 → (∀ e ∈ es, e ∈ es0) → (∀ e ∈ es, e.2 < T) → Binv es0 T t (bnode es x s) := by
  unfold bnode
  induction es with
  | nil => intro s h _ _ _; exact h
  | cons e es ih =>
    intro s h hx hs h2
    rw [List.foldl_cons]
    exact ih (h.step hx e (hs e (by simp)) (h2 e (by simp))) (bstep_mem hx) (fun e' he' => hs e' (by simp [he'])) (fun e' he' => h2 e' (by simp [he']))

theorem bstep_keep {x y : Nat} {s : List Bool × List Nat} {e : Nat × Nat} (h : s.1.getD y false = true) : (bstep x s e).1.getD y false = true := by
  unfold bstep
  split
  · simp only [List.getD_eq_getElem?_getD, List.getElem?_set] at h ⊢
    by_cases hy : e.2 = y
    · subst hy
      by_cases hl : e.2 < s.1.length
      · simp [hl]
      · rw [List.getElem?_eq_none (by omega)] at h; simp at h
    · rw [if_neg hy]; exact h
  · exact h
theorem bnode_keep (es : List (Nat × Nat)) (x y : Nat) : ∀ s : List Bool × List Nat, s.1.getD y false = true → (bnode es x s).1.getD y false = true := by
  unfold bnode
  induction es with
  | nil => intro s h; exact h
  | cons e es ih => intro s h; rw [List.foldl_cons]; exact ih _ (bstep_keep h)
theorem bstep_length (x : Nat) (s : List Bool × List Nat) (e : Nat × Nat) : (bstep x s e).1.length = s.1.length := by
  unfold bstep
  split <;> simp
theorem bnode_length (es : List (Nat × Nat)) (x : Nat) : ∀ s : List Bool × List Nat, (bnode es x s).1.length = s.1.length := by
  unfold bnode
  induction es with
  | nil => intro s; rfl
  | cons e es ih => intro s; rw [List.foldl_cons, ih, bstep_length]

/-- when a node has been looked at, all that its edges lead to is marked -/
theorem bnode_edge (es : List (Nat × Nat)) (x y : Nat) : ∀ s : List Bool × List Nat, (∀ e ∈ es, e.2 < s.1.length) → (x, y) ∈ es → (bnode es x s).1.getD y false = true := by
  unfold bnode
  induction es with
  | nil => intro s _ h; simp at h
  | cons e es ih =>
    intro s hl hm
    rw [List.foldl_cons]
    rcases List.mem_cons.1 hm with he | hm
    · refine bnode_keep es x y _ ?_
      have hlt := hl e (by simp)
      have h1 : e.1 = x := by rw [← he]
      have h2 : e.2 = y := by rw [← he]
      unfold bstep
      split
      · rw [h2] at hlt ⊢
        simp [List.getD_eq_getElem?_getD, hlt]
      · rename_i hc
        rw [h2] at hc hlt
        simp only [h1, true_and] at hc
        rw [List.getD_eq_getElem?_getD, List.getElem?_eq_getElem hlt] at hc ⊢
        simpa using hc
    · exact ih _ (fun e' he' => by rw [bstep_length]; exact hl e' (by simp [he'])) hm

/-- h nodes of the list have been looked at -/
structure Bat (es : List (Nat × Nat)) (T t h : Nat) (s : List Bool × List Nat) : Prop where
  inv : Binv es T t s
  le : h ≤ s.2.length
  done : ∀ i x, i < h → s.2[i]? = some x → ∀ y, (x, y) ∈ es → s.1.getD y false = true

theorem Bat.start (es : List (Nat × Nat)) (T t : Nat) : Bat es T t 0 (List.replicate T false, [t]) :=
  ⟨.start es T t, Nat.zero_le _, fun i _ hi => absurd hi (by omega)⟩

theorem Bat.next {es : List (Nat × Nat)} {T t h : Nat} {s : List Bool × List Nat} (hb : Bat es T t h s) (h2 : ∀ e ∈ es, e.2 < T) {x : Nat} (hx : s.2[h]? = some x) : Bat es T t (h + 1) (bnode es x s) := by
  obtain ⟨r, hr⟩ := bnode_pre es x s
  have hlt : h < s.2.length := by
    rcases Nat.lt_or_ge h s.2.length with h' | h'
    · exact h'
    · rw [List.getElem?_eq_none h'] at hx; cases hx
  refine ⟨bnode_inv es hb.inv (List.mem_of_getElem? hx) (fun _ h => h) h2, by rw [hr]; simp; omega, fun i z hi' hiz y hy => ?_⟩
  rw [hr, List.getElem?_append_left (by omega)] at hiz
  rcases Nat.lt_or_eq_of_le (Nat.le_of_lt_succ hi') with hl | rfl
  · exact bnode_keep es _ y _ (hb.done i z hl hiz y hy)
  · have : x = z := Option.some.inj (hx.symm.trans hiz)
    subst this
    exact bnode_edge es x y _ (by rw [hb.inv.size]; exact h2) hy

/-- at the end the marks tell what can be reached -/
theorem Bat.iff {es : List (Nat × Nat)} {T t : Nat} {s : List Bool × List Nat} (hb : Bat es T t s.2.length s) (y : Nat) : s.1.getD y false = true ↔ Reach es t y := by
  refine ⟨hb.inv.reach y, fun hr => ?_⟩
  obtain ⟨l, hl, hn, hm⟩ := hb.inv.head
  have hclosed : ∀ x, x ∈ s.2 → ∀ y, (x, y) ∈ es → s.1.getD y false = true := by
    intro x hx y hy
    obtain ⟨i, hi⟩ := List.getElem?_of_mem hx
    exact hb.done i x (by
      rcases Nat.lt_or_ge i s.2.length with h' | h'
      · exact h'
      · rw [List.getElem?_eq_none h'] at hi; cases hi) hi y hy
  have key : ∀ (w : List Nat) (a : Nat), a ∈ s.2 → w ≠ [] → Way es a w y → s.1.getD y false = true := by
    intro w
    induction w with
    | nil => intro a _ h; exact absurd rfl h
    | cons c w ih =>
      intro a ha _ hw
      cases hw with
      | cons h1 h2 =>
        have hc := hclosed a ha c h1
        cases w with
        | nil => cases h2; exact hc
        | cons d w => exact ih c (by rw [hl]; exact List.mem_cons_of_mem _ ((hm c).2 hc)) (by simp) h2
  obtain ⟨w, hw, hway⟩ := hr
  exact key w t (by rw [hl]; simp) hw hway

end Go.Proofs.Ytjobmbjadpldfaa.Pg
