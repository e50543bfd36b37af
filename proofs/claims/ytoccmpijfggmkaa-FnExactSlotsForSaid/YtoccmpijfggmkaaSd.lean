/-
  The handing out of tasks to workers, step by step: plain facts.
-/
import Derived.Test.YtoccmpijfggmkaaSp
import Derived.Test.YtoccmpijfggmkaaOg
namespace Go.Proofs.Ytoccmpijfggmkaa
open Go.RowKit
set_option linter.unusedVariables false

structure Sst where
  out : List Slot
  ends : List Int
  busy : List Int

/-- t was not taken and all that it waits for has ended -/
def beforeOk (ends : List Int) (now : Int) (s : Nat) : Bool := decide (0 ≤ ends.getD s 0) && decide (ends.getD s 0 ≤ now)
def mayStart (es : List (Nat × Nat)) (T : Nat) (ends : List Int) (now : Int) (t : Nat) : Bool := decide (ends.getD t 0 < 0) && (beforeL es T t).all (beforeOk ends now)
def nextT (es : List (Nat × Nat)) (T : Nat) (ends : List Int) (now : Int) : Option Nat := (List.range T).find? (mayStart es T ends now)
def sTake (l : List Int) (now : Int) (st : Sst) (k t : Nat) : Sst := ⟨st.out ++ [⟨(t : Int), (k : Int), now, now + l.getD t 0⟩], st.ends.set t (now + l.getD t 0), st.busy.set k (now + l.getD t 0)⟩
def sStep (es : List (Nat × Nat)) (T : Nat) (l : List Int) (now : Int) (st : Sst) (k : Nat) : Sst :=
  if now < st.busy.getD k 0 then st else match nextT es T st.ends now with
    | none => st
    | some t => sTake l now st k t
def sPart (es : List (Nat × Nat)) (T : Nat) (l : List Int) (now : Int) (st : Sst) : Nat → Sst
  | 0 => st
  | k + 1 => sStep es T l now (sPart es T l now st k) k
def nextI (now : Int) (L : List Int) : Int := L.foldl (fun n x => if now < x ∧ (n = 0 ∨ x < n) then x else n) 0
def nextS (now : Int) (L : List Int) : Int := L.foldl (fun n x => if now < x ∧ (n < 0 ∨ x < n) then x else n) (-1)
def sGo (es : List (Nat × Nat)) (T : Nat) (l : List Int) (m : Nat) : Nat → Int → Sst → List Slot
  | 0, _, st => st.out
  | f + 1, now, st => if T ≤ st.out.length then st.out else sGo es T l m f (nextI now (sPart es T l now st m).busy) (sPart es T l now st m)
def sStart (T m : Nat) : Sst := ⟨[], List.replicate T (-1), List.replicate m 0⟩

theorem nextT_some {es : List (Nat × Nat)} {T : Nat} {ends : List Int} {now : Int} {t : Nat} (h : nextT es T ends now = some t) : t < T ∧ mayStart es T ends now t = true := by
  have hm := List.find?_some h
  have hr := List.mem_of_find?_eq_some h
  exact ⟨by simpa using hr, hm⟩
theorem nextT_first {es : List (Nat × Nat)} {T t : Nat} {ends : List Int} {now : Int} (htT : t < T) (hm : mayStart es T ends now t = true) (hno : ∀ s, s < t → mayStart es T ends now s = false) : nextT es T ends now = some t := by
  unfold nextT
  rw [List.find?_eq_some_iff_getElem]
  refine ⟨hm, t, by simpa using htT, by simp, fun j hj => ?_⟩
  simp [hno j hj]
theorem nextT_none {es : List (Nat × Nat)} {T : Nat} {ends : List Int} {now : Int} (hno : ∀ s, s < T → mayStart es T ends now s = false) : nextT es T ends now = none := by
  unfold nextT
  rw [List.find?_eq_none]
  intro x hx
  simp [hno x (by simpa using hx)]
theorem sStep_busy {es : List (Nat × Nat)} {T : Nat} {l : List Int} {now : Int} {st : Sst} {k : Nat} (h : now < st.busy.getD k 0) : sStep es T l now st k = st := by rw [sStep, if_pos h]
theorem sStep_none {es : List (Nat × Nat)} {T : Nat} {l : List Int} {now : Int} {st : Sst} {k : Nat} (h : nextT es T st.ends now = none) : sStep es T l now st k = st := by
  rw [sStep, h]
  split <;> rfl
theorem sStep_some {es : List (Nat × Nat)} {T : Nat} {l : List Int} {now : Int} {st : Sst} {k t : Nat} (hb : ¬ now < st.busy.getD k 0) (h : nextT es T st.ends now = some t) : sStep es T l now st k = sTake l now st k t := by
  rw [sStep, if_neg hb, h]
theorem sPart_none {es : List (Nat × Nat)} {T : Nat} {l : List Int} {now : Int} {st : Sst} {k : Nat} (h : nextT es T (sPart es T l now st k).ends now = none) : ∀ n, sPart es T l now st (k + n) = sPart es T l now st k
  | 0 => rfl
  | n + 1 => by
    have ih := sPart_none h n
    show sStep es T l now (sPart es T l now st (k + n)) (k + n) = _
    rw [ih]
    exact sStep_none h

theorem setD {α : Type} (L : List α) (i j : Nat) (x d : α) (h : i < L.length) : (L.set i x).getD j d = if i = j then x else L.getD j d := by
  rw [List.getD_eq_getElem?_getD, List.getElem?_set, List.getD_eq_getElem?_getD]
  by_cases e : i = j
  · subst e; simp [h]
  · simp [e]
theorem getD_at {α : Type} {L : List α} {i : Nat} (h : i < L.length) (d : α) : L.getD i d = L[i] := by simp [List.getD_eq_getElem?_getD, h]
theorem getD_mem {α : Type} {L : List α} {i : Nat} (h : i < L.length) (d : α) : L.getD i d ∈ L := by rw [getD_at h]; exact List.getElem_mem h

/-- the plan's graph and weights are right -/
structure SOk (es : List (Nat × Nat)) (T : Nat) (l : List Int) (m : Nat) : Prop where
  lt1 : ∀ e ∈ es, e.1 < T
  lt2 : ∀ e ∈ es, e.2 < T
  ac : ∀ t, t < T → ¬ Pg.Reach es t t
  T12 : T ≤ 12
  len : l.length = T
  wt : ∀ x ∈ l, 1 ≤ x ∧ x ≤ 1000
  m1 : 1 ≤ m
  m8 : m ≤ 8
theorem SOk.w {es : List (Nat × Nat)} {T : Nat} {l : List Int} {m : Nat} (h : SOk es T l m) {t : Nat} (ht : t < T) : 1 ≤ l.getD t 0 ∧ l.getD t 0 ≤ 1000 := h.wt _ (getD_mem (by rw [h.len]; exact ht) 0)

/-- what holds at each step -/
structure SInv (es : List (Nat × Nat)) (T : Nat) (l : List Int) (m : Nat) (now : Int) (st : Sst) : Prop where
  le : st.ends.length = T
  lb : st.busy.length = m
  now0 : 0 ≤ now
  nowL : now ≤ 1000 * st.out.length
  busyL : ∀ k, k < m → 0 ≤ st.busy.getD k 0 ∧ st.busy.getD k 0 ≤ 1000 * st.out.length
  endsL : ∀ t, t < T → -1 ≤ st.ends.getD t 0 ∧ st.ends.getD t 0 ≤ 1000 * st.out.length
  fit : slsOk T l m st.out st.out.length
  ended : ∀ x ∈ st.out, st.ends.getD x.task.toNat 0 = x.to
  begun : ∀ t, t < T → 0 ≤ st.ends.getD t 0 → ∃ x ∈ st.out, x.task = t
  byWho : ∀ x ∈ st.out, x.to ≤ st.busy.getD x.worker.toNat 0 ∧ x.fr ≤ now
  ahead : ∀ e ∈ es, ∀ y ∈ st.out, y.task = (e.2 : Int) → ∃ x ∈ st.out, x.task = (e.1 : Int) ∧ x.to ≤ y.fr
  b2e : ∀ k, k < m → now < st.busy.getD k 0 → ∃ t, t < T ∧ st.ends.getD t 0 = st.busy.getD k 0
  e2b : ∀ t, t < T → now < st.ends.getD t 0 → ∃ k, k < m ∧ st.busy.getD k 0 = st.ends.getD t 0

section
variable {es : List (Nat × Nat)} {T : Nat} {l : List Int} {m : Nat} {now : Int} {st : Sst}

theorem SInv.parts (h : SInv es T l m now st) {x : Slot} (hx : x ∈ st.out) : (0 ≤ x.task ∧ x.task < T) ∧ (0 ≤ x.fr ∧ x.fr ≤ 1000000000) ∧ x.to = x.fr + l.getD x.task.toNat 0 ∧ (0 ≤ x.worker ∧ x.worker < m) := by
  obtain ⟨j, hj, rfl⟩ := List.getElem_of_mem hx
  obtain ⟨h1, _, h3, h4, h5, _⟩ := slotOk1_parts (h.fit j hj hj)
  exact ⟨by omega, h3, h4, by omega⟩
theorem SInv.short (h : SInv es T l m now st) : st.out.length ≤ T := by
  have hp : ∀ j (hj : j < st.out.length), ∀ x ∈ st.out.take j, x.task ≠ st.out[j].task := fun j hj => (slotOk1_parts (h.fit j hj hj)).2.1
  have hnd : (st.out.map fun x => x.task.toNat).Nodup := by
    rw [List.nodup_iff_pairwise_ne, List.pairwise_map, List.pairwise_iff_getElem]
    intro i j hi hj hij he
    have h2 := hp j hj st.out[i] (by
      rw [List.mem_take_iff_getElem]
      exact ⟨i, by omega, rfl⟩)
    have h3 := h.parts (List.getElem_mem hi)
    have h4 := h.parts (List.getElem_mem hj)
    exact h2 (by omega)
  have := Pg.nodup_le T _ hnd (by
    intro x hx
    obtain ⟨y, hy, rfl⟩ := List.mem_map.1 hx
    have := h.parts hy
    omega)
  simpa using this
theorem SInv.start (ho : SOk es T l m) : SInv es T l m 0 (sStart T m) := by
  have hb : ∀ k, (List.replicate m (0 : Int)).getD k 0 = 0 := fun k => by
    rw [List.getD_eq_getElem?_getD, List.getElem?_replicate]
    split <;> rfl
  have he : ∀ t, t < T → (List.replicate T (-1 : Int)).getD t 0 = -1 := fun t ht => by
    rw [List.getD_eq_getElem?_getD, List.getElem?_replicate, if_pos ht]
    rfl
  refine ⟨by simp [sStart], by simp [sStart], by omega, by simp [sStart], ?_, ?_, fun j hj => absurd hj (by simp [sStart]), ?_, ?_, ?_, ?_, ?_, ?_⟩
  · intro k _
    show 0 ≤ (List.replicate m (0 : Int)).getD k 0 ∧ (List.replicate m (0 : Int)).getD k 0 ≤ _
    rw [hb]; simp [sStart]
  · intro t ht
    show -1 ≤ (List.replicate T (-1 : Int)).getD t 0 ∧ (List.replicate T (-1 : Int)).getD t 0 ≤ _
    rw [he t ht]; simp [sStart]
  · intro x hx; simp [sStart] at hx
  · intro t ht h
    change 0 ≤ (List.replicate T (-1 : Int)).getD t 0 at h
    rw [he t ht] at h; omega
  · intro x hx; simp [sStart] at hx
  · intro e _ y hy; simp [sStart] at hy
  · intro k _ h
    change 0 < (List.replicate m (0 : Int)).getD k 0 at h
    rw [hb] at h; omega
  · intro t ht h
    change 0 < (List.replicate T (-1 : Int)).getD t 0 at h
    rw [he t ht] at h; omega

theorem mayStart_iff (ho : ∀ e ∈ es, e.1 < T) {ends : List Int} {t : Nat} : mayStart es T ends now t = true ↔ ends.getD t 0 < 0 ∧ ∀ s, (s, t) ∈ es → 0 ≤ ends.getD s 0 ∧ ends.getD s 0 ≤ now := by
  unfold mayStart beforeOk beforeL
  simp only [Bool.and_eq_true, decide_eq_true_eq, List.all_eq_true, List.mem_filter, List.mem_range, and_imp]
  exact ⟨fun h => ⟨h.1, fun s hs => h.2 s (ho _ hs) hs⟩, fun h => ⟨h.1, fun s _ hs => h.2 s hs⟩⟩

theorem SInv.take (ho : SOk es T l m) (h : SInv es T l m now st) {k t : Nat} (hk : k < m) (hb : ¬ now < st.busy.getD k 0) (hn : nextT es T st.ends now = some t) (h12 : st.out.length < T) : SInv es T l m now (sTake l now st k t) := by
  obtain ⟨htT, hm⟩ := nextT_some hn
  obtain ⟨h0, hpre⟩ := (mayStart_iff ho.lt1).1 hm
  have hw := ho.w htT
  have hs := h.short
  have hT := ho.T12
  have hnl := h.nowL
  have hn0 := h.now0
  have hlen : (sTake l now st k t).out.length = st.out.length + 1 := by simp [sTake]
  have hE : ∀ s, (sTake l now st k t).ends.getD s 0 = if t = s then now + l.getD t 0 else st.ends.getD s 0 := fun s => setD _ _ _ _ _ (by rw [h.le]; exact htT)
  have hB : ∀ s, (sTake l now st k t).busy.getD s 0 = if k = s then now + l.getD t 0 else st.busy.getD s 0 := fun s => setD _ _ _ _ _ (by rw [h.lb]; exact hk)
  have hmem : ∀ x, x ∈ (sTake l now st k t).out ↔ x ∈ st.out ∨ x = ⟨(t : Int), (k : Int), now, now + l.getD t 0⟩ := fun x => by simp [sTake]
  have hnew : ∀ x ∈ st.out, x.task ≠ (t : Int) := by
    intro x hx he
    have h1 := h.ended x hx
    have h2 := h.parts hx
    rw [he, Int.toNat_natCast] at h1
    have h3 := ho.w (t := x.task.toNat) (by omega)
    omega
  refine ⟨by simp [sTake, h.le], by simp [sTake, h.lb], hn0, by rw [hlen]; omega, ?_, ?_, ?_, ?_, ?_, ?_, ?_, ?_, ?_⟩
  · intro i hi
    have := h.busyL i hi
    rw [hB, hlen]
    split <;> omega
  · intro i hi
    have := h.endsL i hi
    rw [hE, hlen]
    split <;> omega
  · have hso : (sTake l now st k t).out = st.out ++ [⟨(t : Int), (k : Int), now, now + l.getD t 0⟩] := rfl
    intro j hj hjk
    by_cases e : j < st.out.length
    · have := h.fit j e e
      rw [show (sTake l now st k t).out[j] = st.out[j] from by simp [hso, List.getElem_append_left e]]
      rw [show (sTake l now st k t).out.take j = st.out.take j from by rw [hso, List.take_append_of_le_length (by omega)]]
      exact this
    · have hj' : j = st.out.length := by omega
      subst hj'
      rw [show (sTake l now st k t).out[st.out.length] = ⟨(t : Int), (k : Int), now, now + l.getD t 0⟩ from by simp [hso]]
      rw [show (sTake l now st k t).out.take st.out.length = st.out from by rw [hso, List.take_append_of_le_length (Nat.le_refl _), List.take_length]]
      refine slotOk1_mk ?_ ?_ ?_ ?_ ?_ ?_
      · simp only; omega
      · intro x hx; exact hnew x hx
      · simp only; omega
      · simp
      · simp only; omega
      · intro o hox
        have h1 := h.byWho o hox
        have h2 := h.parts hox
        simp only [clash, Bool.and_eq_false_iff, beq_eq_false_iff_ne, decide_eq_false_iff_not]
        by_cases e : (k : Int) = o.worker
        · have : o.worker.toNat = k := by omega
          rw [this] at h1
          left; right; omega
        · left; left; exact e
  · intro x hx
    rw [hE]
    rcases (hmem x).1 hx with hx | rfl
    · have h1 := hnew x hx
      have h2 := h.parts hx
      rw [if_neg (by omega)]
      exact h.ended x hx
    · simp
  · intro i hi h1
    rw [hE] at h1
    by_cases e : t = i
    · subst e; exact ⟨_, (hmem _).2 (.inr rfl), rfl⟩
    · rw [if_neg e] at h1
      obtain ⟨x, hx, hxt⟩ := h.begun i hi h1
      exact ⟨x, (hmem _).2 (.inl hx), hxt⟩
  · intro x hx
    rw [hB]
    rcases (hmem x).1 hx with hx | rfl
    · have := h.byWho x hx
      split
      · rename_i e
        rw [← e] at this
        omega
      · exact this
    · simp
  · intro e he y hy hye
    rcases (hmem y).1 hy with hy | rfl
    · obtain ⟨x, hx, h1, h2⟩ := h.ahead e he y hy hye
      exact ⟨x, (hmem _).2 (.inl hx), h1, h2⟩
    · simp only at hye
      have het : e.2 = t := by omega
      obtain ⟨h1, h2⟩ := hpre e.1 (by rw [← het]; exact he)
      obtain ⟨x, hx, hxt⟩ := h.begun e.1 (ho.lt1 e he) h1
      refine ⟨x, (hmem _).2 (.inl hx), hxt, ?_⟩
      have h3 := h.ended x hx
      rw [hxt, Int.toNat_natCast] at h3
      simp only
      omega
  · intro i hi h1
    rw [hB] at h1 ⊢
    by_cases e : k = i
    · rw [if_pos e]
      exact ⟨t, htT, by rw [hE, if_pos rfl]⟩
    · rw [if_neg e] at h1 ⊢
      obtain ⟨s, hs1, hs2⟩ := h.b2e i hi h1
      refine ⟨s, hs1, ?_⟩
      rw [hE, if_neg (by rintro rfl; omega)]
      exact hs2
  · intro s hs1 h1
    rw [hE] at h1 ⊢
    by_cases e : t = s
    · rw [if_pos e]
      exact ⟨k, hk, by rw [hB, if_pos rfl]⟩
    · rw [if_neg e] at h1 ⊢
      obtain ⟨i, hi1, hi2⟩ := h.e2b s hs1 h1
      refine ⟨i, hi1, ?_⟩
      rw [hB, if_neg (by rintro rfl; omega)]
      exact hi2

/-- a task that may be taken was not taken, so not all are -/
theorem next_room (ho : SOk es T l m) (h : SInv es T l m now st) {t : Nat} (hn : nextT es T st.ends now = some t) : st.out.length < T := by
  obtain ⟨htT, hm⟩ := nextT_some hn
  obtain ⟨h0, _⟩ := (mayStart_iff ho.lt1).1 hm
  refine Classical.byContradiction fun hge => ?_
  have hs := h.short
  obtain ⟨x, hx, he⟩ := all_met (T := T) h.fit (by omega) (t : Int) (by omega) (by omega)
  have h1 := h.ended x hx
  have h2 := h.parts hx
  rw [he, Int.toNat_natCast] at h1
  have h3 := ho.w (t := x.task.toNat) (by omega)
  omega
theorem SInv.step (ho : SOk es T l m) (h : SInv es T l m now st) {k : Nat} (hk : k < m) : SInv es T l m now (sStep es T l now st k) := by
  by_cases hb : now < st.busy.getD k 0
  · rw [sStep_busy hb]; exact h
  · cases hn : nextT es T st.ends now with
    | none => rw [sStep_none hn]; exact h
    | some t => rw [sStep_some hb hn]; exact h.take ho hk hb hn (next_room ho h hn)
theorem SInv.part (ho : SOk es T l m) (h : SInv es T l m now st) : ∀ k, k ≤ m → SInv es T l m now (sPart es T l now st k)
  | 0, _ => h
  | k + 1, hk => (SInv.part ho h k (by omega)).step ho (by omega)

theorem sStep_keeps (ho : SOk es T l m) (h : SInv es T l m now st) {k i : Nat} (hk : k < m) (hi : now < st.busy.getD i 0) : now < (sStep es T l now st k).busy.getD i 0 := by
  by_cases hb : now < st.busy.getD k 0
  · rw [sStep_busy hb]; exact hi
  · cases hn : nextT es T st.ends now with
    | none => rw [sStep_none hn]; exact hi
    | some t =>
      rw [sStep_some hb hn]
      have hw := ho.w (nextT_some hn).1
      show now < (st.busy.set k (now + l.getD t 0)).getD i 0
      rw [setD _ _ _ _ _ (by rw [h.lb]; exact hk)]
      split <;> omega
/-- behind a pass some worker works, or nothing was done and nothing may be taken -/
theorem part_works (ho : SOk es T l m) (h : SInv es T l m now st) : ∀ k, k ≤ m → (∃ i, i < m ∧ now < (sPart es T l now st k).busy.getD i 0) ∨ (sPart es T l now st k = st ∧ (k = 0 ∨ nextT es T st.ends now = none))
  | 0, _ => .inr ⟨rfl, .inl rfl⟩
  | k + 1, hk => by
    have hi := SInv.part ho h k (by omega)
    rcases part_works ho h k (by omega) with ⟨i, hi1, hi2⟩ | ⟨he, _⟩
    · exact .inl ⟨i, hi1, sStep_keeps ho hi (by omega) hi2⟩
    · show (∃ i, i < m ∧ now < (sStep es T l now (sPart es T l now st k) k).busy.getD i 0) ∨ _
      have e1 : sPart es T l now st (k + 1) = sStep es T l now st k := by
        show sStep es T l now (sPart es T l now st k) k = _
        rw [he]
      rw [he]
      by_cases hb : now < st.busy.getD k 0
      · exact .inl ⟨k, by omega, by rw [sStep_busy hb]; exact hb⟩
      · cases hn : nextT es T st.ends now with
        | none => exact .inr ⟨by rw [e1, sStep_none hn], .inr rfl⟩
        | some t =>
          refine .inl ⟨k, by omega, ?_⟩
          rw [sStep_some hb hn]
          have hw := ho.w (nextT_some hn).1
          show now < (st.busy.set k (now + l.getD t 0)).getD k 0
          rw [setD _ _ _ _ _ (by rw [h.lb]; omega), if_pos rfl]
          omega
theorem pass_works (ho : SOk es T l m) (h : SInv es T l m now st) (hlt : st.out.length < T) : ∃ i, i < m ∧ now < (sPart es T l now st m).busy.getD i 0 := by
  rcases part_works ho h m (Nat.le_refl _) with h1 | ⟨he, h2⟩
  · exact h1
  · rcases h2 with h2 | h2
    · have := ho.m1; omega
    refine Classical.byContradiction fun hno => ?_
    rw [he] at hno
    have hle : ∀ t, t < T → st.ends.getD t 0 ≤ now := by
      intro t ht
      refine Classical.byContradiction fun hgt => ?_
      obtain ⟨k, hk1, hk2⟩ := h.e2b t ht (by omega)
      exact hno ⟨k, hk1, by omega⟩
    have hex : ∃ t, t < T ∧ t ∉ st.out.map (fun x => x.task.toNat) := exists_out (by simpa using hlt)
    obtain ⟨t, _, htT, hm⟩ := pick_some (out := st.out.map fun x => x.task.toNat) ho.lt1 ho.ac hex
    obtain ⟨m1, m2⟩ := mayCome_iff.1 hm
    have hmay : mayStart es T st.ends now t = true := by
      rw [mayStart_iff ho.lt1]
      constructor
      · refine Classical.byContradiction fun hge => ?_
        obtain ⟨x, hx, hxt⟩ := h.begun t htT (by omega)
        exact m1 (List.mem_map.2 ⟨x, hx, by omega⟩)
      · intro s hs
        have hsT := ho.lt1 _ hs
        obtain ⟨x, hx, hxs⟩ := List.mem_map.1 (m2 s hs)
        have h3 := h.ended x hx
        have h4 := h.parts hx
        rw [hxs] at h3
        have h5 := ho.w (t := x.task.toNat) (by omega)
        have h6 := hle s hsT
        omega
    unfold nextT at h2
    rw [List.find?_eq_none] at h2
    exact h2 t (by simpa using htT) hmay

/-! the next time -/
/-- r is the least of L above now -/
def IsNext (now : Int) (L : List Int) (r : Int) : Prop := r ∈ L ∧ now < r ∧ ∀ x ∈ L, now < x → r ≤ x
theorem IsNext.same {L L' : List Int} {r r' : Int} (h : IsNext now L r) (h' : IsNext now L' r') (hs : ∀ x, now < x → (x ∈ L ↔ x ∈ L')) : r = r' := by
  have h1 := h.2.2 r' ((hs r' h'.2.1).2 h'.1) h'.2.1
  have h2 := h'.2.2 r ((hs r h.2.1).1 h.1) h.2.1
  omega
theorem nextI_is (h0 : 0 ≤ now) (L : List Int) (hex : ∃ x ∈ L, now < x) : IsNext now L (nextI now L) := by
  have key : ∀ (M : List Int) (n : Int), (n = 0 ∨ now < n) → let r := M.foldl (fun n x => if now < x ∧ (n = 0 ∨ x < n) then x else n) n; (r = n ∨ r ∈ M) ∧ (r = 0 ∨ now < r) ∧ (n ≠ 0 → r ≠ 0 ∧ r ≤ n) ∧ (∀ x ∈ M, now < x → r ≠ 0 ∧ r ≤ x) := by
    intro M
    induction M with
    | nil => intro n hn; exact ⟨.inl rfl, hn, fun h => ⟨h, Int.le_refl _⟩, fun x hx => by cases hx⟩
    | cons y M ih =>
      intro n hn
      simp only [List.foldl_cons]
      by_cases hc : now < y ∧ (n = 0 ∨ y < n)
      · rw [if_pos hc]
        obtain ⟨a1, a2, a3, a4⟩ := ih y (.inr hc.1)
        have hy : y ≠ 0 := by omega
        obtain ⟨b1, b2⟩ := a3 hy
        refine ⟨.inr ?_, a2, fun hn0 => ⟨b1, by rcases hc.2 with h | h; exact absurd h hn0; omega⟩, ?_⟩
        · rcases a1 with a1 | a1
          · rw [a1]; exact List.mem_cons_self
          · exact List.mem_cons_of_mem _ a1
        · intro x hx hxn
          rcases List.mem_cons.1 hx with rfl | hx
          · exact ⟨b1, b2⟩
          · exact a4 x hx hxn
      · rw [if_neg hc]
        obtain ⟨a1, a2, a3, a4⟩ := ih n hn
        refine ⟨?_, a2, a3, ?_⟩
        · rcases a1 with a1 | a1
          · exact .inl a1
          · exact .inr (List.mem_cons_of_mem _ a1)
        · intro x hx hxn
          rcases List.mem_cons.1 hx with rfl | hx
          · have hn0 : n ≠ 0 ∧ n ≤ x := by
              refine ⟨fun e => hc ⟨hxn, .inl e⟩, ?_⟩
              refine Classical.byContradiction fun hgt => hc ⟨hxn, .inr (by omega)⟩
            obtain ⟨b1, b2⟩ := a3 hn0.1
            exact ⟨b1, by omega⟩
          · exact a4 x hx hxn
  obtain ⟨a1, a2, _, a4⟩ := key L 0 (.inl rfl)
  obtain ⟨x, hx, hxn⟩ := hex
  obtain ⟨c1, _⟩ := a4 x hx hxn
  refine ⟨?_, ?_, fun y hy hyn => (a4 y hy hyn).2⟩
  · rcases a1 with a1 | a1
    · exact absurd a1 c1
    · exact a1
  · rcases a2 with a2 | a2
    · exact absurd a2 c1
    · exact a2
theorem nextS_is (h0 : 0 ≤ now) (L : List Int) (hex : ∃ x ∈ L, now < x) : IsNext now L (nextS now L) := by
  have key : ∀ (M : List Int) (n : Int), (n = -1 ∨ now < n) → let r := M.foldl (fun n x => if now < x ∧ (n < 0 ∨ x < n) then x else n) n; (r = n ∨ r ∈ M) ∧ (r = -1 ∨ now < r) ∧ (n ≠ -1 → r ≠ -1 ∧ r ≤ n) ∧ (∀ x ∈ M, now < x → r ≠ -1 ∧ r ≤ x) := by
    intro M
    induction M with
    | nil => intro n hn; exact ⟨.inl rfl, hn, fun h => ⟨h, Int.le_refl _⟩, fun x hx => by cases hx⟩
    | cons y M ih =>
      intro n hn
      simp only [List.foldl_cons]
      by_cases hc : now < y ∧ (n < 0 ∨ y < n)
      · rw [if_pos hc]
        obtain ⟨a1, a2, a3, a4⟩ := ih y (.inr hc.1)
        have hy : y ≠ -1 := by omega
        obtain ⟨b1, b2⟩ := a3 hy
        refine ⟨.inr ?_, a2, fun hn0 => ⟨b1, by omega⟩, ?_⟩
        · rcases a1 with a1 | a1
          · rw [a1]; exact List.mem_cons_self
          · exact List.mem_cons_of_mem _ a1
        · intro x hx hxn
          rcases List.mem_cons.1 hx with rfl | hx
          · exact ⟨b1, b2⟩
          · exact a4 x hx hxn
      · rw [if_neg hc]
        obtain ⟨a1, a2, a3, a4⟩ := ih n hn
        refine ⟨?_, a2, a3, ?_⟩
        · rcases a1 with a1 | a1
          · exact .inl a1
          · exact .inr (List.mem_cons_of_mem _ a1)
        · intro x hx hxn
          rcases List.mem_cons.1 hx with rfl | hx
          · have hn0 : n ≠ -1 ∧ n ≤ x := by omega
            obtain ⟨b1, b2⟩ := a3 hn0.1
            exact ⟨b1, by omega⟩
          · exact a4 x hx hxn
  obtain ⟨a1, a2, _, a4⟩ := key L (-1) (.inl rfl)
  obtain ⟨x, hx, hxn⟩ := hex
  obtain ⟨c1, _⟩ := a4 x hx hxn
  refine ⟨?_, ?_, fun y hy hyn => (a4 y hy hyn).2⟩
  · rcases a1 with a1 | a1
    · exact absurd a1 c1
    · exact a1
  · rcases a2 with a2 | a2
    · exact absurd a2 c1
    · exact a2
theorem mem_getD {L : List Int} {x : Int} (h : x ∈ L) : ∃ k, k < L.length ∧ L.getD k 0 = x := by
  obtain ⟨k, hk, rfl⟩ := List.getElem_of_mem h
  exact ⟨k, hk, getD_at hk 0⟩
/-- the next time, of a pass -/
theorem SInv.next (h : SInv es T l m now st) (hex : ∃ i, i < m ∧ now < st.busy.getD i 0) : IsNext now st.busy (nextI now st.busy) ∧ nextS now st.ends = nextI now st.busy := by
  obtain ⟨i, hi1, hi2⟩ := hex
  have e1 : ∃ x ∈ st.busy, now < x := ⟨_, getD_mem (by rw [h.lb]; exact hi1) 0, hi2⟩
  obtain ⟨t, ht1, ht2⟩ := h.b2e i hi1 hi2
  have e2 : ∃ x ∈ st.ends, now < x := ⟨_, getD_mem (by rw [h.le]; exact ht1) 0, by rw [ht2]; exact hi2⟩
  have n1 := nextI_is h.now0 st.busy e1
  have n2 := nextS_is h.now0 st.ends e2
  refine ⟨n1, n2.same n1 fun x hx => ⟨fun hm => ?_, fun hm => ?_⟩⟩
  · obtain ⟨s, hs1, hs2⟩ := mem_getD hm
    obtain ⟨k, hk1, hk2⟩ := h.e2b s (by rw [← h.le]; exact hs1) (by omega)
    rw [← hs2, ← hk2]
    exact getD_mem (by rw [h.lb]; exact hk1) 0
  · obtain ⟨s, hs1, hs2⟩ := mem_getD hm
    obtain ⟨k, hk1, hk2⟩ := h.b2e s (by rw [← h.lb]; exact hs1) (by omega)
    rw [← hs2, ← hk2]
    exact getD_mem (by rw [h.le]; exact hk1) 0
theorem SInv.onward (h : SInv es T l m now st) {r : Int} (hr : IsNext now st.busy r) : SInv es T l m r st := by
  obtain ⟨h1, h2, h3⟩ := hr
  obtain ⟨k, hk1, hk2⟩ := mem_getD h1
  have hk := h.busyL k (by rw [← h.lb]; exact hk1)
  have hn0 := h.now0
  refine ⟨h.le, h.lb, by omega, by omega, h.busyL, h.endsL, h.fit, h.ended, h.begun, fun x hx => ?_, h.ahead, fun k hk h1 => h.b2e k hk (by omega), fun t ht h1 => h.e2b t ht (by omega)⟩
  have := h.byWho x hx
  exact ⟨this.1, by omega⟩
/-- one round -/
theorem SInv.round (ho : SOk es T l m) (h : SInv es T l m now st) (hlt : st.out.length < T) :
    SInv es T l m (nextI now (sPart es T l now st m).busy) (sPart es T l now st m) ∧ now < nextI now (sPart es T l now st m).busy ∧ nextS now (sPart es T l now st m).ends = nextI now (sPart es T l now st m).busy := by
  have hp := h.part ho m (Nat.le_refl _)
  have hn := hp.next (pass_works ho h hlt)
  exact ⟨hp.onward hn.1, hn.1.2.1, hn.2⟩
theorem sGo_done {f : Nat} (h : T ≤ st.out.length) : sGo es T l m f now st = st.out := by
  cases f with
  | zero => rfl
  | succ f => rw [sGo, if_pos h]
theorem sGo_more {f : Nat} (h : st.out.length < T) : sGo es T l m (f + 1) now st = sGo es T l m f (nextI now (sPart es T l now st m).busy) (sPart es T l now st m) := by
  rw [sGo, if_neg (by omega)]
end
end Go.Proofs.Ytoccmpijfggmkaa
