/-
  The handing out of tasks to workers, step by step: plain facts. SourcesOf and SinksOf of both. EarliestOf of the program. OrderOf of the reference. Behind of the program. EarliestOf of the reference.
-/
import Derived.Test.YtnaicippgocdfaaZJ3
section
namespace Go.Proofs.Ytnaicippgocdfaa
open Go.RowKit
set_option linter.unusedVariables false

structure Sst where
  out : List Slot
  ends : List Int
  busy : List Int

/-- t was not taken and all that it waits for has ended -/
def beforeOk (ends : List Int) (now : Int) (s : Nat) : Bool := decide (0 ≤ ends.getD s 0) && decide (ends.getD s 0 ≤ now)
def mayStart (es : List (Nat × Nat)) (T : Nat) (ends : List Int) (now : Int) (t : Nat) : Bool := decide (ends.getD t 0 < 0) && (beforeL es T t).all (beforeOk ends now)
def nextT (es : List (Nat × Nat)) (T : Nat) (ends : List Int) (now : Int) : Option Nat := (List.range T).find? (mayStart es T ends now)
def sTake (l : List Int) (now : Int) (st : Sst) (k t : Nat) : Sst := ⟨st.out ++ [⟨(t : Int), (k : Int), now, now + l.getD t 0⟩], st.ends.set t (now + l.getD t 0), st.busy.set k (now + l.getD t 0)⟩
def sStep (es : List (Nat × Nat)) (T : Nat) (l : List Int) (now : Int) (st : Sst) (k : Nat) : Sst :=
  if now < st.busy.getD k 0 then st else match nextT es T st.ends now with
    | none => st
    | some t => sTake l now st k t
def sPart (es : List (Nat × Nat)) (T : Nat) (l : List Int) (now : Int) (st : Sst) : Nat → Sst
  | 0 => st
  | k + 1 => sStep es T l now (sPart es T l now st k) k
def nextI (now : Int) (L : List Int) : Int := L.foldl (fun n x => if now < x ∧ (n = 0 ∨ x < n) then x else n) 0
def nextS (now : Int) (L : List Int) : Int := L.foldl (fun n x => if now < x ∧ (n < 0 ∨ x < n) then x else n) (-1)
def sGo (es : List (Nat × Nat)) (T : Nat) (l : List Int) (m : Nat) : Nat → Int → Sst → List Slot
  | 0, _, st => st.out
  | f + 1, now, st => if T ≤ st.out.length then st.out else sGo es T l m f (nextI now (sPart es T l now st m).busy) (sPart es T l now st m)
def sStart (T m : Nat) : Sst := ⟨[], List.replicate T (-1), List.replicate m 0⟩

theorem nextT_some {es : List (Nat × Nat)} {T : Nat} {ends : List Int} {now : Int} {t : Nat} (h : nextT es T ends now = some t) : t < T ∧ mayStart es T ends now t = true := by
  have hm := List.find?_some h
  have hr := List.mem_of_find?_eq_some h
  exact ⟨by simpa using hr, hm⟩
theorem nextT_first {es : List (Nat × Nat)} {T t : Nat} {ends : List Int} {now : Int} (htT : t < T) (hm : mayStart es T ends now t = true) (hno : ∀ s, s < t → mayStart es T ends now s = false) : nextT es T ends now = some t := by
  unfold nextT
  rw [List.find?_eq_some_iff_getElem]
  refine ⟨hm, t, by simpa using htT, by simp, fun j hj => ?_⟩
  simp [hno j hj]
theorem nextT_none {es : List (Nat × Nat)} {T : Nat} {ends : List Int} {now : Int} (hno : ∀ s, s < T → mayStart es T ends now s = false) : nextT es T ends now = none := by
  unfold nextT
  rw [List.find?_eq_none]
  intro x hx
  simp [hno x (by simpa using hx)]
theorem sStep_busy {es : List (Nat × Nat)} {T : Nat} {l : List Int} {now : Int} {st : Sst} {k : Nat} (h : now < st.busy.getD k 0) : sStep es T l now st k = st := by rw [sStep, if_pos h]
theorem sStep_none {es : List (Nat × Nat)} {T : Nat} {l : List Int} {now : Int} {st : Sst} {k : Nat} (h : nextT es T st.ends now = none) : sStep es T l now st k = st := by
  rw [sStep, h]
  split <;> rfl
theorem sStep_some {es : List (Nat × Nat)} {T : Nat} {l : List Int} {now : Int} {st : Sst} {k t : Nat} (hb : ¬ now < st.busy.getD k 0) (h : nextT es T st.ends now = some t) : sStep es T l now st k = sTake l now st k t := by
  rw [sStep, if_neg hb, h]
theorem sPart_none {es : List (Nat × Nat)} {T : Nat} {l : List Int} {now : Int} {st : Sst} {k : Nat} (h : nextT es T (sPart es T l now st k).ends now = none) : ∀ n, sPart es T l now st (k + n) = sPart es T l now st k
  | 0 => rfl
  | n + 1 => by
    have ih := sPart_none h n
    show sStep es T l now (sPart es T l now st (k + n)) (k + n) = _
    rw [ih]
    exact sStep_none h

theorem setD {α : Type} (L : List α) (i j : Nat) (x d : α) (h : i < L.length) : (L.set i x).getD j d = if i = j then x else L.getD j d := by
  rw [List.getD_eq_getElem?_getD, List.getElem?_set, List.getD_eq_getElem?_getD]
  by_cases e : i = j
  · subst e; simp [h]
  · simp [e]
theorem getD_at {α : Type} {L : List α} {i : Nat} (h : i < L.length) (d : α) : L.getD i d = L[i] := by simp [List.getD_eq_getElem?_getD, h]
theorem getD_mem {α : Type} {L : List α} {i : Nat} (h : i < L.length) (d : α) : L.getD i d ∈ L := by rw [getD_at h]; exact List.getElem_mem h

/-- the plan's graph and weights are right -/
structure SOk (es : List (Nat × Nat)) (T : Nat) (l : List Int) (m : Nat) : Prop where
  lt1 : ∀ e ∈ es, e.1 < T
  lt2 : ∀ e ∈ es, e.2 < T
  ac : ∀ t, t < T → ¬ Pg.Reach es t t
  T12 : T ≤ 12
  len : l.length = T
  wt : ∀ x ∈ l, 1 ≤ x ∧ x ≤ 1000
  m1 : 1 ≤ m
  m8 : m ≤ 8
theorem SOk.w {es : List (Nat × Nat)} {T : Nat} {l : List Int} {m : Nat} (h : SOk es T l m) {t : Nat} (ht : t < T) : 1 ≤ l.getD t 0 ∧ l.getD t 0 ≤ 1000 := h.wt _ (getD_mem (by rw [h.len]; exact ht) 0)

/-- what holds at each step -/
structure SInv (es : List (Nat × Nat)) (T : Nat) (l : List Int) (m : Nat) (now : Int) (st : Sst) : Prop where
  le : st.ends.length = T
  lb : st.busy.length = m
  now0 : 0 ≤ now
  nowL : now ≤ 1000 * st.out.length
  busyL : ∀ k, k < m → 0 ≤ st.busy.getD k 0 ∧ st.busy.getD k 0 ≤ 1000 * st.out.length
  endsL : ∀ t, t < T → -1 ≤ st.ends.getD t 0 ∧ st.ends.getD t 0 ≤ 1000 * st.out.length
  fit : slsOk T l m st.out st.out.length
  ended : ∀ x ∈ st.out, st.ends.getD x.task.toNat 0 = x.to
  begun : ∀ t, t < T → 0 ≤ st.ends.getD t 0 → ∃ x ∈ st.out, x.task = t
  byWho : ∀ x ∈ st.out, x.to ≤ st.busy.getD x.worker.toNat 0 ∧ x.fr ≤ now
  ahead : ∀ e ∈ es, ∀ y ∈ st.out, y.task = (e.2 : Int) → ∃ x ∈ st.out, x.task = (e.1 : Int) ∧ x.to ≤ y.fr
  b2e : ∀ k, k < m → now < st.busy.getD k 0 → ∃ t, t < T ∧ st.ends.getD t 0 = st.busy.getD k 0
  e2b : ∀ t, t < T → now < st.ends.getD t 0 → ∃ k, k < m ∧ st.busy.getD k 0 = st.ends.getD t 0

section
variable {es : List (Nat × Nat)} {T : Nat} {l : List Int} {m : Nat} {now : Int} {st : Sst}

theorem SInv.parts (h : SInv es T l m now st) {x : Slot} (hx : x ∈ st.out) : (0 ≤ x.task ∧ x.task < T) ∧ (0 ≤ x.fr ∧ x.fr ≤ 1000000000) ∧ x.to = x.fr + l.getD x.task.toNat 0 ∧ (0 ≤ x.worker ∧ x.worker < m) := by
  obtain ⟨j, hj, rfl⟩ := List.getElem_of_mem hx
  obtain ⟨h1, _, h3, h4, h5, _⟩ := slotOk1_parts (h.fit j hj hj)
  exact ⟨by omega, h3, h4, by omega⟩
theorem SInv.short (h : SInv es T l m now st) : st.out.length ≤ T := by
  have hp : ∀ j (hj : j < st.out.length), ∀ x ∈ st.out.take j, x.task ≠ st.out[j].task := fun j hj => (slotOk1_parts (h.fit j hj hj)).2.1
  have hnd : (st.out.map fun x => x.task.toNat).Nodup := by
    rw [List.nodup_iff_pairwise_ne, List.pairwise_map, List.pairwise_iff_getElem]
    intro i j hi hj hij he
    have h2 := hp j hj st.out[i] (by
      rw [List.mem_take_iff_getElem]
      exact ⟨i, by omega, rfl⟩)
    have h3 := h.parts (List.getElem_mem hi)
    have h4 := h.parts (List.getElem_mem hj)
    exact h2 (by omega)
  have := Pg.nodup_le T _ hnd (by
    intro x hx
    obtain ⟨y, hy, rfl⟩ := List.mem_map.1 hx
    have := h.parts hy
    omega)
  simpa using this
theorem SInv.start (ho : SOk es T l m) : SInv es T l m 0 (sStart T m) := by
  have hb : ∀ k, (List.replicate m (0 : Int)).getD k 0 = 0 := fun k => by
    rw [List.getD_eq_getElem?_getD, List.getElem?_replicate]
    split <;> rfl
  have he : ∀ t, t < T → (List.replicate T (-1 : Int)).getD t 0 = -1 := fun t ht => by
    rw [List.getD_eq_getElem?_getD, List.getElem?_replicate, if_pos ht]
    rfl
  refine ⟨by simp [sStart], by simp [sStart], by omega, by simp [sStart], ?_, ?_, fun j hj => absurd hj (by simp [sStart]), ?_, ?_, ?_, ?_, ?_, ?_⟩
  · intro k _
    show 0 ≤ (List.replicate m (0 : Int)).getD k 0 ∧ (List.replicate m (0 : Int)).getD k 0 ≤ _
    rw [hb]; simp [sStart]
  · intro t ht
    show -1 ≤ (List.replicate T (-1 : Int)).getD t 0 ∧ (List.replicate T (-1 : Int)).getD t 0 ≤ _
    rw [he t ht]; simp [sStart]
  · intro x hx; simp [sStart] at hx
  · intro t ht h
    change 0 ≤ (List.replicate T (-1 : Int)).getD t 0 at h
    rw [he t ht] at h; omega
  · intro x hx; simp [sStart] at hx
  · intro e _ y hy; simp [sStart] at hy
  · intro k _ h
    change 0 < (List.replicate m (0 : Int)).getD k 0 at h
    rw [hb] at h; omega
  · intro t ht h
    change 0 < (List.replicate T (-1 : Int)).getD t 0 at h
    rw [he t ht] at h; omega

theorem mayStart_iff (ho : ∀ e ∈ es, e.1 < T) {ends : List Int} {t : Nat} : mayStart es T ends now t = true ↔ ends.getD t 0 < 0 ∧ ∀ s, (s, t) ∈ es → 0 ≤ ends.getD s 0 ∧ ends.getD s 0 ≤ now := by
  unfold mayStart beforeOk beforeL
  simp only [Bool.and_eq_true, decide_eq_true_eq, List.all_eq_true, List.mem_filter, List.mem_range, and_imp]
  exact ⟨fun h => ⟨h.1, fun s hs => h.2 s (ho _ hs) hs⟩, fun h => ⟨h.1, fun s _ hs => h.2 s hs⟩⟩

theorem SInv.take (ho : SOk es T l m) (h : SInv es T l m now st) {k t : Nat} (hk : k < m) (hb : ¬ now < st.busy.getD k 0) (hn : nextT es T st.ends now = some t) (h12 : st.out.length < T) : SInv es T l m now (sTake l now st k t) := by
  obtain ⟨htT, hm⟩ := nextT_some hn
  obtain ⟨h0, hpre⟩ := (mayStart_iff ho.lt1).1 hm
  have hw := ho.w htT
  have hs := h.short
  have hT := ho.T12
  have hnl := h.nowL
  have hn0 := h.now0
  have hlen : (sTake l now st k t).out.length = st.out.length + 1 := by simp [sTake]
  have hE : ∀ s, (sTake l now st k t).ends.getD s 0 = if t = s then now + l.getD t 0 else st.ends.getD s 0 := fun s => setD _ _ _ _ _ (by rw [h.le]; exact htT)
  have hB : ∀ s, (sTake l now st k t).busy.getD s 0 = if k = s then now + l.getD t 0 else st.busy.getD s 0 := fun s => setD _ _ _ _ _ (by rw [h.lb]; exact hk)
  have hmem : ∀ x, x ∈ (sTake l now st k t).out ↔ x ∈ st.out ∨ x = ⟨(t : Int), (k : Int), now, now + l.getD t 0⟩ := fun x => by simp [sTake]
  have hnew : ∀ x ∈ st.out, x.task ≠ (t : Int) := by
    intro x hx he
    have h1 := h.ended x hx
    have h2 := h.parts hx
    rw [he, Int.toNat_natCast] at h1
    have h3 := ho.w (t := x.task.toNat) (by omega)
    omega
  refine ⟨by simp [sTake, h.le], by simp [sTake, h.lb], hn0, by rw [hlen]; omega, ?_, ?_, ?_, ?_, ?_, ?_, ?_, ?_, ?_⟩
  · intro i hi
    have := h.busyL i hi
    rw [hB, hlen]
    split <;> omega
  · intro i hi
    have := h.endsL i hi
    rw [hE, hlen]
    split <;> omega
  · have hso : (sTake l now st k t).out = st.out ++ [⟨(t : Int), (k : Int), now, now + l.getD t 0⟩] := rfl
    intro j hj hjk
    by_cases e : j < st.out.length
    · have := h.fit j e e
      rw [show (sTake l now st k t).out[j] = st.out[j] from by simp [hso, List.getElem_append_left e]]
      rw [show (sTake l now st k t).out.take j = st.out.take j from by rw [hso, List.take_append_of_le_length (by omega)]]
      exact this
    · have hj' : j = st.out.length := by omega
      subst hj'
      rw [show (sTake l now st k t).out[st.out.length] = ⟨(t : Int), (k : Int), now, now + l.getD t 0⟩ from by simp [hso]]
      rw [show (sTake l now st k t).out.take st.out.length = st.out from by rw [hso, List.take_append_of_le_length (Nat.le_refl _), List.take_length]]
      refine slotOk1_mk ?_ ?_ ?_ ?_ ?_ ?_
      · simp only; omega
      · intro x hx; exact hnew x hx
      · simp only; omega
      · simp
      · simp only; omega
      · intro o hox
        have h1 := h.byWho o hox
        have h2 := h.parts hox
        simp only [clash, Bool.and_eq_false_iff, beq_eq_false_iff_ne, decide_eq_false_iff_not]
        by_cases e : (k : Int) = o.worker
        · have : o.worker.toNat = k := by omega
          rw [this] at h1
          left; right; omega
        · left; left; exact e
  · intro x hx
    rw [hE]
    rcases (hmem x).1 hx with hx | rfl
    · have h1 := hnew x hx
      have h2 := h.parts hx
      rw [if_neg (by omega)]
      exact h.ended x hx
    · simp
  · intro i hi h1
    rw [hE] at h1
    by_cases e : t = i
    · subst e; exact ⟨_, (hmem _).2 (.inr rfl), rfl⟩
    · rw [if_neg e] at h1
      obtain ⟨x, hx, hxt⟩ := h.begun i hi h1
      exact ⟨x, (hmem _).2 (.inl hx), hxt⟩
  · intro x hx
    rw [hB]
    rcases (hmem x).1 hx with hx | rfl
    · have := h.byWho x hx
      split
      · rename_i e
        rw [← e] at this
        omega
      · exact this
    · simp
  · intro e he y hy hye
    rcases (hmem y).1 hy with hy | rfl
    · obtain ⟨x, hx, h1, h2⟩ := h.ahead e he y hy hye
      exact ⟨x, (hmem _).2 (.inl hx), h1, h2⟩
    · simp only at hye
      have het : e.2 = t := by omega
      obtain ⟨h1, h2⟩ := hpre e.1 (by rw [← het]; exact he)
      obtain ⟨x, hx, hxt⟩ := h.begun e.1 (ho.lt1 e he) h1
      refine ⟨x, (hmem _).2 (.inl hx), hxt, ?_⟩
      have h3 := h.ended x hx
      rw [hxt, Int.toNat_natCast] at h3
      simp only
      omega
  · intro i hi h1
    rw [hB] at h1 ⊢
    by_cases e : k = i
    · rw [if_pos e]
      exact ⟨t, htT, by rw [hE, if_pos rfl]⟩
    · rw [if_neg e] at h1 ⊢
      obtain ⟨s, hs1, hs2⟩ := h.b2e i hi h1
      refine ⟨s, hs1, ?_⟩
      rw [hE, if_neg (by rintro rfl; omega)]
      exact hs2
  · intro s hs1 h1
    rw [hE] at h1 ⊢
    by_cases e : t = s
    · rw [if_pos e]
      exact ⟨k, hk, by rw [hB, if_pos rfl]⟩
    · rw [if_neg e] at h1 ⊢
      obtain ⟨i, hi1, hi2⟩ := h.e2b s hs1 h1
      refine ⟨i, hi1, ?_⟩
      rw [hB, if_neg (by rintro rfl; omega)]
      exact hi2

/-- a task that may be taken was not taken, so not all are -/
theorem next_room (ho : SOk es T l m) (h : SInv es T l m now st) {t : Nat} (hn : nextT es T st.ends now = some t) : st.out.length < T := by
  obtain ⟨htT, hm⟩ := nextT_some hn
  obtain ⟨h0, _⟩ := (mayStart_iff ho.lt1).1 hm
  refine Classical.byContradiction fun hge => ?_
  have hs := h.short
  obtain ⟨x, hx, he⟩ := all_met (T := T) h.fit (by omega) (t : Int) (by omega) (by omega)
  have h1 := h.ended x hx
  have h2 := h.parts hx
  rw [he, Int.toNat_natCast] at h1
  have h3 := ho.w (t := x.task.toNat) (by omega)
  omega
theorem SInv.step (ho : SOk es T l m) (h : SInv es T l m now st) {k : Nat} (hk : k < m) : SInv es T l m now (sStep es T l now st k) := by
  by_cases hb : now < st.busy.getD k 0
  · rw [sStep_busy hb]; exact h
  · cases hn : nextT es T st.ends now with
    | none => rw [sStep_none hn]; exact h
    | some t => rw [sStep_some hb hn]; exact h.take ho hk hb hn (next_room ho h hn)
theorem SInv.part (ho : SOk es T l m) (h : SInv es T l m now st) : ∀ k, k ≤ m → SInv es T l m now (sPart es T l now st k)
  | 0, _ => h
  | k + 1, hk => (SInv.part ho h k (by omega)).step ho (by omega)

theorem sStep_keeps (ho : SOk es T l m) (h : SInv es T l m now st) {k i : Nat} (hk : k < m) (hi : now < st.busy.getD i 0) : now < (sStep es T l now st k).busy.getD i 0 := by
  by_cases hb : now < st.busy.getD k 0
  · rw [sStep_busy hb]; exact hi
  · cases hn : nextT es T st.ends now with
    | none => rw [sStep_none hn]; exact hi
    | some t =>
      rw [sStep_some hb hn]
      have hw := ho.w (nextT_some hn).1
      show now < (st.busy.set k (now + l.getD t 0)).getD i 0
      rw [setD _ _ _ _ _ (by rw [h.lb]; exact hk)]
      split <;> omega
/-- behind a pass some worker works, or nothing was done and nothing may be taken -/
theorem part_works (ho : SOk es T l m) (h : SInv es T l m now st) : ∀ k, k ≤ m → (∃ i, i < m ∧ now < (sPart es T l now st k).busy.getD i 0) ∨ (sPart es T l now st k = st ∧ (k = 0 ∨ nextT es T st.ends now = none))
  | 0, _ => .inr ⟨rfl, .inl rfl⟩
  | k + 1, hk => by
    have hi := SInv.part ho h k (by omega)
    rcases part_works ho h k (by omega) with ⟨i, hi1, hi2⟩ | ⟨he, _⟩
    · exact .inl ⟨i, hi1, sStep_keeps ho hi (by omega) hi2⟩
    · show (∃ i, i < m ∧ now < (sStep es T l now (sPart es T l now st k) k).busy.getD i 0) ∨ _
      have e1 : sPart es T l now st (k + 1) = sStep es T l now st k := by
        show sStep es T l now (sPart es T l now st k) k = _
        rw [he]
      rw [he]
      by_cases hb : now < st.busy.getD k 0
      · exact .inl ⟨k, by omega, by rw [sStep_busy hb]; exact hb⟩
      · cases hn : nextT es T st.ends now with
        | none => exact .inr ⟨by rw [e1, sStep_none hn], .inr rfl⟩
        | some t =>
          refine .inl ⟨k, by omega, ?_⟩
          rw [sStep_some hb hn]
          have hw := ho.w (nextT_some hn).1
          show now < (st.busy.set k (now + l.getD t 0)).getD k 0
          rw [setD _ _ _ _ _ (by rw [h.lb]; omega), if_pos rfl]
          omega
theorem pass_works (ho : SOk es T l m) (h : SInv es T l m now st) (hlt : st.out.length < T) : ∃ i, i < m ∧ now < (sPart es T l now st m).busy.getD i 0 := by
  rcases part_works ho h m (Nat.le_refl _) with h1 | ⟨he, h2⟩
  · exact h1
  · rcases h2 with h2 | h2
    · have := ho.m1; omega
    refine Classical.byContradiction fun hno => ?_
    rw [he] at hno
    have hle : ∀ t, t < T → st.ends.getD t 0 ≤ now := by
      intro t ht
      refine Classical.byContradiction fun hgt => ?_
      obtain ⟨k, hk1, hk2⟩ := h.e2b t ht (by omega)
      exact hno ⟨k, hk1, by omega⟩
    have hex : ∃ t, t < T ∧ t ∉ st.out.map (fun x => x.task.toNat) := exists_out (by simpa using hlt)
    obtain ⟨t, _, htT, hm⟩ := pick_some (out := st.out.map fun x => x.task.toNat) ho.lt1 ho.ac hex
    obtain ⟨m1, m2⟩ := mayCome_iff.1 hm
    have hmay : mayStart es T st.ends now t = true := by
      rw [mayStart_iff ho.lt1]
      constructor
      · refine Classical.byContradiction fun hge => ?_
        obtain ⟨x, hx, hxt⟩ := h.begun t htT (by omega)
        exact m1 (List.mem_map.2 ⟨x, hx, by omega⟩)
      · intro s hs
        have hsT := ho.lt1 _ hs
        obtain ⟨x, hx, hxs⟩ := List.mem_map.1 (m2 s hs)
        have h3 := h.ended x hx
        have h4 := h.parts hx
        rw [hxs] at h3
        have h5 := ho.w (t := x.task.toNat) (by omega)
        have h6 := hle s hsT
        omega
    unfold nextT at h2
    rw [List.find?_eq_none] at h2
    exact h2 t (by simpa using htT) hmay

/-! the next time -/
/-- r is the least of L above now -/
def IsNext (now : Int) (L : List Int) (r : Int) : Prop := r ∈ L ∧ now < r ∧ ∀ x ∈ L, now < x → r ≤ x
theorem IsNext.same {L L' : List Int} {r r' : Int} (h : IsNext now L r) (h' : IsNext now L' r') (hs : ∀ x, now < x → (x ∈ L ↔ x ∈ L')) : r = r' := by
  have h1 := h.2.2 r' ((hs r' h'.2.1).2 h'.1) h'.2.1
  have h2 := h'.2.2 r ((hs r h.2.1).1 h.1) h.2.1
  omega
theorem nextI_is (h0 : 0 ≤ now) (L : List Int) (hex : ∃ x ∈ L, now < x) : IsNext now L (nextI now L) := by
  have key : ∀ (M : List Int) (n : Int), (n = 0 ∨ now < n) → let r := M.foldl (fun n x => if now < x ∧ (n = 0 ∨ x < n) then x else n) n; (r = n ∨ r ∈ M) ∧ (r = 0 ∨ now < r) ∧ (n ≠ 0 → r ≠ 0 ∧ r ≤ n) ∧ (∀ x ∈ M, now < x → r ≠ 0 ∧ r ≤ x) := by
    intro M
    induction M with
    | nil => intro n hn; exact ⟨.inl rfl, hn, fun h => ⟨h, Int.le_refl _⟩, fun x hx => by cases hx⟩
    | cons y M ih =>
      intro n hn
      simp only [List.foldl_cons]
      by_cases hc : now < y ∧ (n = 0 ∨ y < n)
      · rw [if_pos hc]
        obtain ⟨a1, a2, a3, a4⟩ := ih y (.inr hc.1)
        have hy : y ≠ 0 := by omega
        obtain ⟨b1, b2⟩ := a3 hy
        refine ⟨.inr ?_, a2, fun hn0 => ⟨b1, by rcases hc.2 with h | h; exact absurd h hn0; omega⟩, ?_⟩
        · rcases a1 with a1 | a1
          · rw [a1]; exact List.mem_cons_self
          · exact List.mem_cons_of_mem _ a1
        · intro x hx hxn
          rcases List.mem_cons.1 hx with rfl | hx
          · exact ⟨b1, b2⟩
          · exact a4 x hx hxn
      · rw [if_neg hc]
        obtain ⟨a1, a2, a3, a4⟩ := ih n hn
        refine ⟨?_, a2, a3, ?_⟩
        · rcases a1 with a1 | a1
          · exact .inl a1
          · exact .inr (List.mem_cons_of_mem _ a1)
        · intro x hx hxn
          rcases List.mem_cons.1 hx with rfl | hx
          · have hn0 : n ≠ 0 ∧ n ≤ x := by
              refine ⟨fun e => hc ⟨hxn, .inl e⟩, ?_⟩
              refine Classical.byContradiction fun hgt => hc ⟨hxn, .inr (by omega)⟩
            obtain ⟨b1, b2⟩ := a3 hn0.1
            exact ⟨b1, by omega⟩
          · exact a4 x hx hxn
  obtain ⟨a1, a2, _, a4⟩ := key L 0 (.inl rfl)
  obtain ⟨x, hx, hxn⟩ := hex
  obtain ⟨c1, _⟩ := a4 x hx hxn
  refine ⟨?_, ?_, fun y hy hyn => (a4 y hy hyn).2⟩
  · rcases a1 with a1 | a1
    · exact absurd a1 c1
    · exact a1
  · rcases a2 with a2 | a2
    · exact absurd a2 c1
    · exact a2
theorem nextS_is (h0 : 0 ≤ now) (L : List Int) (hex : ∃ x ∈ L, now < x) : IsNext now L (nextS now L) := by
  have key : ∀ (M : List Int) (n : Int), (n = -1 ∨ now < n) → let r := M.foldl (fun n x => if now < x ∧ (n < 0 ∨ x < n) then x else n) n; (r = n ∨ r ∈ M) ∧ (r = -1 ∨ now < r) ∧ (n ≠ -1 → r ≠ -1 ∧ r ≤ n) ∧ (∀ x ∈ M, now < x → r ≠ -1 ∧ r ≤ x) := by
    intro M
    induction M with
    | nil => intro n hn; exact ⟨.inl rfl, hn, fun h => ⟨h, Int.le_refl _⟩, fun x hx => by cases hx⟩
    | cons y M ih =>
      intro n hn
      simp only [List.foldl_cons]
      by_cases hc : now < y ∧ (n < 0 ∨ y < n)
      · rw [if_pos hc]
        obtain ⟨a1, a2, a3, a4⟩ := ih y (.inr hc.1)
        have hy : y ≠ -1 := by omega
        obtain ⟨b1, b2⟩ := a3 hy
        refine ⟨.inr ?_, a2, fun hn0 => ⟨b1, by omega⟩, ?_⟩
        · rcases a1 with a1 | a1
          · rw [a1]; exact List.mem_cons_self
          · exact List.mem_cons_of_mem _ a1
        · intro x hx hxn
          rcases List.mem_cons.1 hx with rfl | hx
          · exact ⟨b1, b2⟩
          · exact a4 x hx hxn
      · rw [if_neg hc]
        obtain ⟨a1, a2, a3, a4⟩ := ih n hn
        refine ⟨?_, a2, a3, ?_⟩
        · rcases a1 with a1 | a1
          · exact .inl a1
          · exact .inr (List.mem_cons_of_mem _ a1)
        · intro x hx hxn
          rcases List.mem_cons.1 hx with rfl | hx
          · have hn0 : n ≠ -1 ∧ n ≤ x := by omega
            obtain ⟨b1, b2⟩ := a3 hn0.1
            exact ⟨b1, by omega⟩
          · exact a4 x hx hxn
  obtain ⟨a1, a2, _, a4⟩ := key L (-1) (.inl rfl)
  obtain ⟨x, hx, hxn⟩ := hex
  obtain ⟨c1, _⟩ := a4 x hx hxn
  refine ⟨?_, ?_, fun y hy hyn => (a4 y hy hyn).2⟩
  · rcases a1 with a1 | a1
    · exact absurd a1 c1
    · exact a1
  · rcases a2 with a2 | a2
    · exact absurd a2 c1
    · exact a2
theorem mem_getD {L : List Int} {x : Int} (h : x ∈ L) : ∃ k, k < L.length ∧ L.getD k 0 = x := by
  obtain ⟨k, hk, rfl⟩ := List.getElem_of_mem h
  exact ⟨k, hk, getD_at hk 0⟩
/-- the next time, of a pass -/
theorem SInv.next (h : SInv es T l m now st) (hex : ∃ i, i < m ∧ now < st.busy.getD i 0) : IsNext now st.busy (nextI now st.busy) ∧ nextS now st.ends = nextI now st.busy := by
  obtain ⟨i, hi1, hi2⟩ := hex
  have e1 : ∃ x ∈ st.busy, now < x := ⟨_, getD_mem (by rw [h.lb]; exact hi1) 0, hi2⟩
  obtain ⟨t, ht1, ht2⟩ := h.b2e i hi1 hi2
  have e2 : ∃ x ∈ st.ends, now < x := ⟨_, getD_mem (by rw [h.le]; exact ht1) 0, by rw [ht2]; exact hi2⟩
  have n1 := nextI_is h.now0 st.busy e1
  have n2 := nextS_is h.now0 st.ends e2
  refine ⟨n1, n2.same n1 fun x hx => ⟨fun hm => ?_, fun hm => ?_⟩⟩
  · obtain ⟨s, hs1, hs2⟩ := mem_getD hm
    obtain ⟨k, hk1, hk2⟩ := h.e2b s (by rw [← h.le]; exact hs1) (by omega)
    rw [← hs2, ← hk2]
    exact getD_mem (by rw [h.lb]; exact hk1) 0
  · obtain ⟨s, hs1, hs2⟩ := mem_getD hm
    obtain ⟨k, hk1, hk2⟩ := h.b2e s (by rw [← h.lb]; exact hs1) (by omega)
    rw [← hs2, ← hk2]
    exact getD_mem (by rw [h.le]; exact hk1) 0
theorem SInv.onward (h : SInv es T l m now st) {r : Int} (hr : IsNext now st.busy r) : SInv es T l m r st := by
  obtain ⟨h1, h2, h3⟩ := hr
  obtain ⟨k, hk1, hk2⟩ := mem_getD h1
  have hk := h.busyL k (by rw [← h.lb]; exact hk1)
  have hn0 := h.now0
  refine ⟨h.le, h.lb, by omega, by omega, h.busyL, h.endsL, h.fit, h.ended, h.begun, fun x hx => ?_, h.ahead, fun k hk h1 => h.b2e k hk (by omega), fun t ht h1 => h.e2b t ht (by omega)⟩
  have := h.byWho x hx
  exact ⟨this.1, by omega⟩
/-- one round -/
theorem SInv.round (ho : SOk es T l m) (h : SInv es T l m now st) (hlt : st.out.length < T) :
    SInv es T l m (nextI now (sPart es T l now st m).busy) (sPart es T l now st m) ∧ now < nextI now (sPart es T l now st m).busy ∧ nextS now (sPart es T l now st m).ends = nextI now (sPart es T l now st m).busy := by
  have hp := h.part ho m (Nat.le_refl _)
  have hn := hp.next (pass_works ho h hlt)
  exact ⟨hp.onward hn.1, hn.1.2.1, hn.2⟩
theorem sGo_done {f : Nat} (h : T ≤ st.out.length) : sGo es T l m f now st = st.out := by
  cases f with
  | zero => rfl
  | succ f => rw [sGo, if_pos h]
theorem sGo_more {f : Nat} (h : st.out.length < T) : sGo es T l m (f + 1) now st = sGo es T l m f (nextI now (sPart es T l now st m).busy) (sPart es T l now st m) := by
  rw [sGo, if_neg (by omega)]
end
end Go.Proofs.Ytnaicippgocdfaa
end
section
namespace Go.Proofs.Ytnaicippgocdfaa
open Go.RowKit
set_option maxRecDepth 100000
set_option maxHeartbeats 2000000

/-- the tasks whose list is empty -/
def endsL (f : Nat → List Nat) (k : Nat) : List Nat := (List.range k).filter fun t => (f t).isEmpty
theorem endsL_succ (f : Nat → List Nat) (k : Nat) : endsL f (k + 1) = endsL f k ++ if (f k).isEmpty then [k] else [] := by
  unfold endsL
  rw [List.range_succ, List.filter_append, List.filter_cons, List.filter_nil]
theorem endsL_len (f : Nat → List Nat) (k : Nat) : (endsL f k).length ≤ k := by
  have := List.length_filter_le (fun t => (f t).isEmpty) (List.range k)
  simpa [endsL] using this
open Classical in
noncomputable def sourcesOf (p : Plan) : List Nat := if planFault p = 0 then endsL (fun t => beforeL (esOf p) p.tasks.toNat t) p.tasks.toNat else []
open Classical in
noncomputable def sinksOf (p : Plan) : List Nat := if planFault p = 0 then endsL (fun t => behindL (esOf p) p.tasks.toNat t) p.tasks.toNat else []
theorem sourcesOf_len (p : Plan) : (sourcesOf p).length ≤ 12 := by
  unfold sourcesOf
  split
  · rename_i hf
    have := manyOk_tasks (planFault_zero.1 hf).1
    have := endsL_len (fun t => beforeL (esOf p) p.tasks.toNat t) p.tasks.toNat
    omega
  · simp
theorem sinksOf_len (p : Plan) : (sinksOf p).length ≤ 12 := by
  unfold sinksOf
  split
  · rename_i hf
    have := manyOk_tasks (planFault_zero.1 hf).1
    have := endsL_len (fun t => behindL (esOf p) p.tasks.toNat t) p.tasks.toNat
    omega
  · simp

theorem implSources_any (p : Plan) (ve : Value) (w : World) (hl : p.edges.length ≤ 2000000) (h : Rd edgeE w w.heap.size ve p.edges) :
    Calls Try.prog 21 #[planV p ve] w fun e w' => ∃ v, e = .returned v ∧ Ow natE 3 w' w.heap.size v (sourcesOf p) ∧ Below w.heap.size w w' := by
  have hb0 := planBox_below 26 p ve w
  have D0 := BoxAt.new 26 p ve w
  have hw0 := planBox_size 26 p ve w
  have O0 := Ow.nil natE 3 (planBox 26 p ve w) (w.heap.size + 1)
  by_cases hf : planFault p = 0
  case neg =>
    have hfb : (planFault p == 0) = false := by simp [hf]
    have H := Lib.hid (show sourcesOf p = [] by unfold sourcesOf; rw [if_neg hf])
    clear hf
    unfold planV
    go_enter Try.func21, Try.ntmps21
    go_wp2
    go_loopw [3, 4] (fun vl i wr => ∃ k : Nat, k = 0 ∧ i = .int .i64 k ∧ Ow natE 3 wr (w.heap.size + 1) vl [] ∧ BoxAt w.heap.size p ve wr ∧ Below w.heap.size w wr) (fun _ _ _ => 0)
    case atStart => exact ⟨0, rfl, rfl, O0, D0, hb0⟩
    case round =>
      clear O0 D0 hb0
      obtain ⟨k, rfl, rfl, ho, D, hb⟩ := hrel
      obtain ⟨x0, x1, x2, x3, x4, xs⟩ := D.cells
      go_wp2_with fail
      refine (implPlanFault_any p ve _ hl ((h.below hb).more hb.size)).mono ?_
      rintro e w1 ⟨rfl, hb1⟩
      go_wp2
      go_ret
      exact ⟨_, rfl, by rw [H.out]; exact (ho.below hb1).more (by omega), bnext hb hb1⟩
  have hfb : (planFault p == 0) = true := by simp [hf]
  have G := Lib.hid (planFault_zero.1 hf)
  have HF := Lib.hid hf
  obtain ⟨t1, t2⟩ := manyOk_tasks G.out.1
  obtain ⟨T, hT⟩ := Int.eq_ofNat_of_zero_le (show 0 ≤ p.tasks by omega)
  have HT := Lib.hid hT
  have HTn := Lib.hid (show p.tasks.toNat = T by omega)
  have hT12 : T ≤ 12 := by omega
  have H := Lib.hid (show sourcesOf p = endsL (fun t => beforeL (esOf p) T t) T by unfold sourcesOf; rw [if_pos hf, HTn.out])
  obtain ⟨j0, hj0, jz0, jz1, jz2⟩ := info_parts int_info
  clear hf hT
  unfold planV
  go_enter Try.func21, Try.ntmps21
  go_wp2
  go_loopw [3, 4] (fun vl i wr => ∃ k : Nat, k ≤ T ∧ i = .int .i64 k ∧ Ow natE 3 wr (w.heap.size + 1) vl (endsL (fun t => beforeL (esOf p) T t) k) ∧ BoxAt w.heap.size p ve wr ∧ Below w.heap.size w wr) (fun _ i _ => T - (intOf i).toNat)
  case atStart => exact ⟨0, Nat.zero_le _, rfl, O0, D0, hb0⟩
  case round =>
    clear O0 D0 hb0
    obtain ⟨k, hk, rfl, ho, D, hb⟩ := hrel
    obtain ⟨x0, x1, x2, x3, x4, xs⟩ := D.cells
    go_wp2_with fail
    clear x0 x1 x2 x3 x4 xs
    refine (implPlanFault_any p ve _ hl ((h.below hb).more hb.size)).mono ?_
    rintro e w1 ⟨rfl, hb1⟩
    have ho := ho.below hb1
    have D := D.below hb1
    have hb := bnext hb hb1
    obtain ⟨x0, x1, x2, x3, x4, xs⟩ := D.cells
    by_cases hlt : k < T
    · have hltI : (k : Int) < p.tasks := by rw [HT.out]; omega
      go_wp2_with fail
      clear x0 x1 x2 x3 x4 xs
      refine (implBefore_any p ve k _ HF.out ((h.below hb).more hb.size)).mono ?_
      rintro e w2 ⟨v2, rfl, o2, hb2⟩
      rw [HTn.out] at o2
      have ho := ho.below hb2
      have D := D.below hb2
      have hb := bnext hb hb2
      have hun := Lib.hid (endsL_succ (fun t => beforeL (esOf p) T t) k)
      have Hl := Lib.hid (endsL_len (fun t => beforeL (esOf p) T t) k)
      have hDl := D.lt
      generalize hL : beforeL (esOf p) T k = L at *
      clear hL
      obtain ⟨A2, c2, rfl, -⟩ := id (Rd.of_own o2)
      cases L with
      | nil =>
        have S := Lib.hid (show endsL (fun t => beforeL (esOf p) T t) (k + 1) = endsL (fun t => beforeL (esOf p) T t) k ++ [k] by rw [hun.out]; simp)
        have ha : Hid (∀ w : World, Below w.heap.size w (w.alloc (.cells #[.int .i64 (k : Int)] 3))) := fun w => (Below.refl _ _).alloc (Nat.le_refl _) _
        go_wp2_with (at_builtin; refine wpList_push_all _ natE (by decide) rfl (.tmp 21) (.tmp 23) rfl Try.underlying27 hj0 jz0 jz1 jz2 rfl (l := endsL (fun t => beforeL (esOf p) T t) k) rfl (ho.below (ha.out _)) rfl (Rd.one natE _ _ k rfl rfl 1 (Nat.le_refl _) (Nat.lt_succ_self _)) (by have := Hl.out; omega) (by simp) (by decide) (by simp; omega) ?_; intro v5 w5 o5 g5 _)
        have D5 := (D.below (ha.out _)).far g5 (fun e => by have := ho.within _ e.symm; omega)
        have hb' := bnext hb (ha.out _)
        have W5 := hb'.grown g5 hb'.size (fun g hg => by have := ho.within _ hg; omega)
        exact ⟨⟨k + 1, by omega, by go_num, by rw [S.out]; exact o5, D5, W5⟩, by simp [intOf]; omega⟩
      | cons a L =>
        have S := Lib.hid (show endsL (fun t => beforeL (esOf p) T t) (k + 1) = endsL (fun t => beforeL (esOf p) T t) k by rw [hun.out]; simp)
        have hcb : (((a :: L).length : Int) == 0) = false := beq_eq_false_iff_ne.2 (by simp only [List.length_cons]; omega)
        generalize (a :: L).length = m at *
        go_wp2
        exact ⟨⟨k + 1, by omega, by go_num, by rw [S.out]; exact ho, D, hb⟩, by simp [intOf]; omega⟩
    · have hltI : ¬ (k : Int) < p.tasks := by rw [HT.out]; omega
      have hk' : k = T := by omega
      subst hk'
      go_wp2
      go_ret
      exact ⟨_, rfl, by rw [H.out]; exact ho.more (by omega), hb⟩

theorem implSinks_any (p : Plan) (ve : Value) (w : World) (hl : p.edges.length ≤ 2000000) (h : Rd edgeE w w.heap.size ve p.edges) :
    Calls Try.prog 23 #[planV p ve] w fun e w' => ∃ v, e = .returned v ∧ Ow natE 3 w' w.heap.size v (sinksOf p) ∧ Below w.heap.size w w' := by
  have hb0 := planBox_below 26 p ve w
  have D0 := BoxAt.new 26 p ve w
  have hw0 := planBox_size 26 p ve w
  have O0 := Ow.nil natE 3 (planBox 26 p ve w) (w.heap.size + 1)
  by_cases hf : planFault p = 0
  case neg =>
    have hfb : (planFault p == 0) = false := by simp [hf]
    have H := Lib.hid (show sinksOf p = [] by unfold sinksOf; rw [if_neg hf])
    clear hf
    unfold planV
    go_enter Try.func23, Try.ntmps23
    go_wp2
    go_loopw [3, 4] (fun vl i wr => ∃ k : Nat, k = 0 ∧ i = .int .i64 k ∧ Ow natE 3 wr (w.heap.size + 1) vl [] ∧ BoxAt w.heap.size p ve wr ∧ Below w.heap.size w wr) (fun _ _ _ => 0)
    case atStart => exact ⟨0, rfl, rfl, O0, D0, hb0⟩
    case round =>
      clear O0 D0 hb0
      obtain ⟨k, rfl, rfl, ho, D, hb⟩ := hrel
      obtain ⟨x0, x1, x2, x3, x4, xs⟩ := D.cells
      go_wp2_with fail
      refine (implPlanFault_any p ve _ hl ((h.below hb).more hb.size)).mono ?_
      rintro e w1 ⟨rfl, hb1⟩
      go_wp2
      go_ret
      exact ⟨_, rfl, by rw [H.out]; exact (ho.below hb1).more (by omega), bnext hb hb1⟩
  have hfb : (planFault p == 0) = true := by simp [hf]
  have G := Lib.hid (planFault_zero.1 hf)
  have HF := Lib.hid hf
  obtain ⟨t1, t2⟩ := manyOk_tasks G.out.1
  obtain ⟨T, hT⟩ := Int.eq_ofNat_of_zero_le (show 0 ≤ p.tasks by omega)
  have HT := Lib.hid hT
  have HTn := Lib.hid (show p.tasks.toNat = T by omega)
  have hT12 : T ≤ 12 := by omega
  have H := Lib.hid (show sinksOf p = endsL (fun t => behindL (esOf p) T t) T by unfold sinksOf; rw [if_pos hf, HTn.out])
  obtain ⟨j0, hj0, jz0, jz1, jz2⟩ := info_parts int_info
  clear hf hT
  unfold planV
  go_enter Try.func23, Try.ntmps23
  go_wp2
  go_loopw [3, 4] (fun vl i wr => ∃ k : Nat, k ≤ T ∧ i = .int .i64 k ∧ Ow natE 3 wr (w.heap.size + 1) vl (endsL (fun t => behindL (esOf p) T t) k) ∧ BoxAt w.heap.size p ve wr ∧ Below w.heap.size w wr) (fun _ i _ => T - (intOf i).toNat)
  case atStart => exact ⟨0, Nat.zero_le _, rfl, O0, D0, hb0⟩
  case round =>
    clear O0 D0 hb0
    obtain ⟨k, hk, rfl, ho, D, hb⟩ := hrel
    obtain ⟨x0, x1, x2, x3, x4, xs⟩ := D.cells
    go_wp2_with fail
    clear x0 x1 x2 x3 x4 xs
    refine (implPlanFault_any p ve _ hl ((h.below hb).more hb.size)).mono ?_
    rintro e w1 ⟨rfl, hb1⟩
    have ho := ho.below hb1
    have D := D.below hb1
    have hb := bnext hb hb1
    obtain ⟨x0, x1, x2, x3, x4, xs⟩ := D.cells
    by_cases hlt : k < T
    · have hltI : (k : Int) < p.tasks := by rw [HT.out]; omega
      go_wp2_with fail
      clear x0 x1 x2 x3 x4 xs
      refine (implBehind_any p ve k _ HF.out ((h.below hb).more hb.size)).mono ?_
      rintro e w2 ⟨v2, rfl, o2, hb2⟩
      rw [HTn.out] at o2
      have ho := ho.below hb2
      have D := D.below hb2
      have hb := bnext hb hb2
      have hun := Lib.hid (endsL_succ (fun t => behindL (esOf p) T t) k)
      have Hl := Lib.hid (endsL_len (fun t => behindL (esOf p) T t) k)
      have hDl := D.lt
      generalize hL : behindL (esOf p) T k = L at *
      clear hL
      obtain ⟨A2, c2, rfl, -⟩ := id (Rd.of_own o2)
      cases L with
      | nil =>
        have S := Lib.hid (show endsL (fun t => behindL (esOf p) T t) (k + 1) = endsL (fun t => behindL (esOf p) T t) k ++ [k] by rw [hun.out]; simp)
        have ha : Hid (∀ w : World, Below w.heap.size w (w.alloc (.cells #[.int .i64 (k : Int)] 3))) := fun w => (Below.refl _ _).alloc (Nat.le_refl _) _
        go_wp2_with (at_builtin; refine wpList_push_all _ natE (by decide) rfl (.tmp 21) (.tmp 23) rfl Try.underlying27 hj0 jz0 jz1 jz2 rfl (l := endsL (fun t => behindL (esOf p) T t) k) rfl (ho.below (ha.out _)) rfl (Rd.one natE _ _ k rfl rfl 1 (Nat.le_refl _) (Nat.lt_succ_self _)) (by have := Hl.out; omega) (by simp) (by decide) (by simp; omega) ?_; intro v5 w5 o5 g5 _)
        have D5 := (D.below (ha.out _)).far g5 (fun e => by have := ho.within _ e.symm; omega)
        have hb' := bnext hb (ha.out _)
        have W5 := hb'.grown g5 hb'.size (fun g hg => by have := ho.within _ hg; omega)
        exact ⟨⟨k + 1, by omega, by go_num, by rw [S.out]; exact o5, D5, W5⟩, by simp [intOf]; omega⟩
      | cons a L =>
        have S := Lib.hid (show endsL (fun t => behindL (esOf p) T t) (k + 1) = endsL (fun t => behindL (esOf p) T t) k by rw [hun.out]; simp)
        have hcb : (((a :: L).length : Int) == 0) = false := beq_eq_false_iff_ne.2 (by simp only [List.length_cons]; omega)
        generalize (a :: L).length = m at *
        go_wp2
        exact ⟨⟨k + 1, by omega, by go_num, by rw [S.out]; exact ho, D, hb⟩, by simp [intOf]; omega⟩
    · have hltI : ¬ (k : Int) < p.tasks := by rw [HT.out]; omega
      have hk' : k = T := by omega
      subst hk'
      go_wp2
      go_ret
      exact ⟨_, rfl, by rw [H.out]; exact ho.more (by omega), hb⟩

theorem specSources_any (p : Plan) (ve : Value) (w : World) (hl : p.edges.length ≤ 2000000) (h : Rd edgeE w w.heap.size ve p.edges) :
    Calls Try.prog 24 #[planV p ve] w fun e w' => ∃ v, e = .returned v ∧ Ow natE 3 w' w.heap.size v (sourcesOf p) ∧ Below w.heap.size w w' := by
  have ha0 : ∀ w : World, Below w.heap.size w (w.alloc (.cells #[] 3)) := fun w => (Below.refl _ _).alloc (Nat.le_refl _) _
  have hb0 := bnext (planBox_below 26 p ve w) (ha0 _)
  have D0 := (BoxAt.new 26 p ve w).below (ha0 _)
  have O0 := Ow.empty natE 3 (planBox 26 p ve w) (g := w.heap.size + 1) (by rw [planBox_size])
  clear ha0
  by_cases hf : planFault p = 0
  case neg =>
    have hfb : (planFault p == 0) = false := by simp [hf]
    have H := Lib.hid (show sourcesOf p = [] by unfold sourcesOf; rw [if_neg hf])
    clear hf
    unfold planV
    go_enter Try.func24, Try.ntmps24
    go_wp2
    go_loopw [3, 4] (fun vl i wr => ∃ k : Nat, k = 0 ∧ i = .int .i64 k ∧ Ow natE 3 wr (w.heap.size + 1) vl [] ∧ BoxAt w.heap.size p ve wr ∧ Below w.heap.size w wr) (fun _ _ _ => 0)
    case atStart => exact ⟨0, rfl, rfl, O0, D0, hb0⟩
    case round =>
      clear O0 D0 hb0
      obtain ⟨k, rfl, rfl, ho, D, hb⟩ := hrel
      obtain ⟨x0, x1, x2, x3, x4, xs⟩ := D.cells
      go_wp2_with fail
      refine (specPlanFault_any p ve _ hl ((h.below hb).more hb.size)).mono ?_
      rintro e w1 ⟨rfl, hb1⟩
      go_wp2
      go_ret
      exact ⟨_, rfl, by rw [H.out]; exact (ho.below hb1).more (by omega), bnext hb hb1⟩
  have hfb : (planFault p == 0) = true := by simp [hf]
  have G := Lib.hid (planFault_zero.1 hf)
  have HF := Lib.hid hf
  obtain ⟨t1, t2⟩ := manyOk_tasks G.out.1
  obtain ⟨T, hT⟩ := Int.eq_ofNat_of_zero_le (show 0 ≤ p.tasks by omega)
  have HT := Lib.hid hT
  have HTn := Lib.hid (show p.tasks.toNat = T by omega)
  have hT12 : T ≤ 12 := by omega
  have H := Lib.hid (show sourcesOf p = endsL (fun t => beforeL (esOf p) T t) T by unfold sourcesOf; rw [if_pos hf, HTn.out])
  obtain ⟨j0, hj0, jz0, jz1, jz2⟩ := info_parts int_info
  clear hf hT
  unfold planV
  go_enter Try.func24, Try.ntmps24
  go_wp2
  go_loopw [3, 4] (fun vl i wr => ∃ k : Nat, k ≤ T ∧ i = .int .i64 k ∧ Ow natE 3 wr (w.heap.size + 1) vl (endsL (fun t => beforeL (esOf p) T t) k) ∧ BoxAt w.heap.size p ve wr ∧ Below w.heap.size w wr) (fun _ i _ => T - (intOf i).toNat)
  case atStart => exact ⟨0, Nat.zero_le _, rfl, O0, D0, hb0⟩
  case round =>
    clear O0 D0 hb0
    obtain ⟨k, hk, rfl, ho, D, hb⟩ := hrel
    obtain ⟨x0, x1, x2, x3, x4, xs⟩ := D.cells
    go_wp2_with fail
    clear x0 x1 x2 x3 x4 xs
    refine (specPlanFault_any p ve _ hl ((h.below hb).more hb.size)).mono ?_
    rintro e w1 ⟨rfl, hb1⟩
    have ho := ho.below hb1
    have D := D.below hb1
    have hb := bnext hb hb1
    obtain ⟨x0, x1, x2, x3, x4, xs⟩ := D.cells
    by_cases hlt : k < T
    · have hltI : (k : Int) < p.tasks := by rw [HT.out]; omega
      go_wp2_with fail
      clear x0 x1 x2 x3 x4 xs
      refine (specBefore_any p ve k _ G.out.1 G.out.2.1 G.out.2.2.1 ((h.below hb).more hb.size)).mono ?_
      rintro e w2 ⟨v2, rfl, o2, hb2⟩
      rw [HTn.out] at o2
      have ho := ho.below hb2
      have D := D.below hb2
      have hb := bnext hb hb2
      have hun := Lib.hid (endsL_succ (fun t => beforeL (esOf p) T t) k)
      have Hl := Lib.hid (endsL_len (fun t => beforeL (esOf p) T t) k)
      have hDl := D.lt
      generalize hL : beforeL (esOf p) T k = L at *
      clear hL
      obtain ⟨A2, c2, rfl, -⟩ := id (Rd.of_own o2)
      cases L with
      | nil =>
        have S := Lib.hid (show endsL (fun t => beforeL (esOf p) T t) (k + 1) = endsL (fun t => beforeL (esOf p) T t) k ++ [k] by rw [hun.out]; simp)
        have ha : Hid (∀ w : World, Below w.heap.size w (w.alloc (.cells #[.int .i64 (k : Int)] 3))) := fun w => (Below.refl _ _).alloc (Nat.le_refl _) _
        go_wp2_with (at_builtin; refine wpList_push_all _ natE (by decide) rfl (.tmp 22) (.tmp 24) rfl Try.underlying27 hj0 jz0 jz1 jz2 rfl (l := endsL (fun t => beforeL (esOf p) T t) k) rfl (ho.below (ha.out _)) rfl (Rd.one natE _ _ k rfl rfl 1 (Nat.le_refl _) (Nat.lt_succ_self _)) (by have := Hl.out; omega) (by simp) (by decide) (by simp; omega) ?_; intro v5 w5 o5 g5 _)
        have D5 := (D.below (ha.out _)).far g5 (fun e => by have := ho.within _ e.symm; omega)
        have hb' := bnext hb (ha.out _)
        have W5 := hb'.grown g5 hb'.size (fun g hg => by have := ho.within _ hg; omega)
        exact ⟨⟨k + 1, by omega, by go_num, by rw [S.out]; exact o5, D5, W5⟩, by simp [intOf]; omega⟩
      | cons a L =>
        have S := Lib.hid (show endsL (fun t => beforeL (esOf p) T t) (k + 1) = endsL (fun t => beforeL (esOf p) T t) k by rw [hun.out]; simp)
        have hcb : (((a :: L).length : Int) == 0) = false := beq_eq_false_iff_ne.2 (by simp only [List.length_cons]; omega)
        generalize (a :: L).length = m at *
        go_wp2
        exact ⟨⟨k + 1, by omega, by go_num, by rw [S.out]; exact ho, D, hb⟩, by simp [intOf]; omega⟩
    · have hltI : ¬ (k : Int) < p.tasks := by rw [HT.out]; omega
      have hk' : k = T := by omega
      subst hk'
      go_wp2
      go_ret
      exact ⟨_, rfl, by rw [H.out]; exact ho.more (by omega), hb⟩

theorem specSinks_any (p : Plan) (ve : Value) (w : World) (hl : p.edges.length ≤ 2000000) (h : Rd edgeE w w.heap.size ve p.edges) :
    Calls Try.prog 22 #[planV p ve] w fun e w' => ∃ v, e = .returned v ∧ Ow natE 3 w' w.heap.size v (sinksOf p) ∧ Below w.heap.size w w' := by
  have ha0 : ∀ w : World, Below w.heap.size w (w.alloc (.cells #[] 3)) := fun w => (Below.refl _ _).alloc (Nat.le_refl _) _
  have hb0 := bnext (planBox_below 26 p ve w) (ha0 _)
  have D0 := (BoxAt.new 26 p ve w).below (ha0 _)
  have O0 := Ow.empty natE 3 (planBox 26 p ve w) (g := w.heap.size + 1) (by rw [planBox_size])
  clear ha0
  by_cases hf : planFault p = 0
  case neg =>
    have hfb : (planFault p == 0) = false := by simp [hf]
    have H := Lib.hid (show sinksOf p = [] by unfold sinksOf; rw [if_neg hf])
    clear hf
    unfold planV
    go_enter Try.func22, Try.ntmps22
    go_wp2
    go_loopw [3, 4] (fun vl i wr => ∃ k : Nat, k = 0 ∧ i = .int .i64 k ∧ Ow natE 3 wr (w.heap.size + 1) vl [] ∧ BoxAt w.heap.size p ve wr ∧ Below w.heap.size w wr) (fun _ _ _ => 0)
    case atStart => exact ⟨0, rfl, rfl, O0, D0, hb0⟩
    case round =>
      clear O0 D0 hb0
      obtain ⟨k, rfl, rfl, ho, D, hb⟩ := hrel
      obtain ⟨x0, x1, x2, x3, x4, xs⟩ := D.cells
      go_wp2_with fail
      refine (specPlanFault_any p ve _ hl ((h.below hb).more hb.size)).mono ?_
      rintro e w1 ⟨rfl, hb1⟩
      go_wp2
      go_ret
      exact ⟨_, rfl, by rw [H.out]; exact (ho.below hb1).more (by omega), bnext hb hb1⟩
  have hfb : (planFault p == 0) = true := by simp [hf]
  have G := Lib.hid (planFault_zero.1 hf)
  have HF := Lib.hid hf
  obtain ⟨t1, t2⟩ := manyOk_tasks G.out.1
  obtain ⟨T, hT⟩ := Int.eq_ofNat_of_zero_le (show 0 ≤ p.tasks by omega)
  have HT := Lib.hid hT
  have HTn := Lib.hid (show p.tasks.toNat = T by omega)
  have hT12 : T ≤ 12 := by omega
  have H := Lib.hid (show sinksOf p = endsL (fun t => behindL (esOf p) T t) T by unfold sinksOf; rw [if_pos hf, HTn.out])
  obtain ⟨j0, hj0, jz0, jz1, jz2⟩ := info_parts int_info
  clear hf hT
  unfold planV
  go_enter Try.func22, Try.ntmps22
  go_wp2
  go_loopw [3, 4] (fun vl i wr => ∃ k : Nat, k ≤ T ∧ i = .int .i64 k ∧ Ow natE 3 wr (w.heap.size + 1) vl (endsL (fun t => behindL (esOf p) T t) k) ∧ BoxAt w.heap.size p ve wr ∧ Below w.heap.size w wr) (fun _ i _ => T - (intOf i).toNat)
  case atStart => exact ⟨0, Nat.zero_le _, rfl, O0, D0, hb0⟩
  case round =>
    clear O0 D0 hb0
    obtain ⟨k, hk, rfl, ho, D, hb⟩ := hrel
    obtain ⟨x0, x1, x2, x3, x4, xs⟩ := D.cells
    go_wp2_with fail
    clear x0 x1 x2 x3 x4 xs
    refine (specPlanFault_any p ve _ hl ((h.below hb).more hb.size)).mono ?_
    rintro e w1 ⟨rfl, hb1⟩
    have ho := ho.below hb1
    have D := D.below hb1
    have hb := bnext hb hb1
    obtain ⟨x0, x1, x2, x3, x4, xs⟩ := D.cells
    by_cases hlt : k < T
    · have hltI : (k : Int) < p.tasks := by rw [HT.out]; omega
      go_wp2_with fail
      clear x0 x1 x2 x3 x4 xs
      refine (specBehind_any p ve k _ G.out.1 G.out.2.1 G.out.2.2.1 ((h.below hb).more hb.size)).mono ?_
      rintro e w2 ⟨v2, rfl, o2, hb2⟩
      rw [HTn.out] at o2
      have ho := ho.below hb2
      have D := D.below hb2
      have hb := bnext hb hb2
      have hun := Lib.hid (endsL_succ (fun t => behindL (esOf p) T t) k)
      have Hl := Lib.hid (endsL_len (fun t => behindL (esOf p) T t) k)
      have hDl := D.lt
      generalize hL : behindL (esOf p) T k = L at *
      clear hL
      obtain ⟨A2, c2, rfl, -⟩ := id (Rd.of_own o2)
      cases L with
      | nil =>
        have S := Lib.hid (show endsL (fun t => behindL (esOf p) T t) (k + 1) = endsL (fun t => behindL (esOf p) T t) k ++ [k] by rw [hun.out]; simp)
        have ha : Hid (∀ w : World, Below w.heap.size w (w.alloc (.cells #[.int .i64 (k : Int)] 3))) := fun w => (Below.refl _ _).alloc (Nat.le_refl _) _
        go_wp2_with (at_builtin; refine wpList_push_all _ natE (by decide) rfl (.tmp 22) (.tmp 24) rfl Try.underlying27 hj0 jz0 jz1 jz2 rfl (l := endsL (fun t => behindL (esOf p) T t) k) rfl (ho.below (ha.out _)) rfl (Rd.one natE _ _ k rfl rfl 1 (Nat.le_refl _) (Nat.lt_succ_self _)) (by have := Hl.out; omega) (by simp) (by decide) (by simp; omega) ?_; intro v5 w5 o5 g5 _)
        have D5 := (D.below (ha.out _)).far g5 (fun e => by have := ho.within _ e.symm; omega)
        have hb' := bnext hb (ha.out _)
        have W5 := hb'.grown g5 hb'.size (fun g hg => by have := ho.within _ hg; omega)
        exact ⟨⟨k + 1, by omega, by go_num, by rw [S.out]; exact o5, D5, W5⟩, by simp [intOf]; omega⟩
      | cons a L =>
        have S := Lib.hid (show endsL (fun t => behindL (esOf p) T t) (k + 1) = endsL (fun t => behindL (esOf p) T t) k by rw [hun.out]; simp)
        have hcb : (((a :: L).length : Int) == 0) = false := beq_eq_false_iff_ne.2 (by simp only [List.length_cons]; omega)
        generalize (a :: L).length = m at *
        go_wp2
        exact ⟨⟨k + 1, by omega, by go_num, by rw [S.out]; exact ho, D, hb⟩, by simp [intOf]; omega⟩
    · have hltI : ¬ (k : Int) < p.tasks := by rw [HT.out]; omega
      have hk' : k = T := by omega
      subst hk'
      go_wp2
      go_ret
      exact ⟨_, rfl, by rw [H.out]; exact ho.more (by omega), hb⟩

theorem natE_intE (l : List Nat) : l.flatMap natE.cells = (l.map fun (x : Nat) => (x : Int)).flatMap intE.cells := by
  induction l with
  | nil => rfl
  | cons a l ih => rw [List.flatMap_cons, ih]; rfl
theorem Ow.toInt {w : World} {base : Nat} {v : Value} {l : List Nat} (h : Ow natE 3 w base v l) : Ow intE 3 w base v (l.map fun (x : Nat) => (x : Int)) := by
  unfold Ow at *
  rw [← natE_intE, List.length_map]
  exact h
noncomputable def sourcesI (p : Plan) : List Int := (sourcesOf p).map fun (x : Nat) => (x : Int)
noncomputable def sinksI (p : Plan) : List Int := (sinksOf p).map fun (x : Nat) => (x : Int)
theorem implSourcesI_any (p : Plan) (ve : Value) (w : World) (hl : p.edges.length ≤ 2000000) (h : Rd edgeE w w.heap.size ve p.edges) :
    Calls Try.prog 21 #[planV p ve] w fun e w' => ∃ v, e = .returned v ∧ Ow intE 3 w' w.heap.size v (sourcesI p) ∧ Below w.heap.size w w' :=
  (implSources_any p ve w hl h).mono fun _ _ ⟨v, he, ho, hb⟩ => ⟨v, he, ho.toInt, hb⟩
theorem implSinksI_any (p : Plan) (ve : Value) (w : World) (hl : p.edges.length ≤ 2000000) (h : Rd edgeE w w.heap.size ve p.edges) :
    Calls Try.prog 23 #[planV p ve] w fun e w' => ∃ v, e = .returned v ∧ Ow intE 3 w' w.heap.size v (sinksI p) ∧ Below w.heap.size w w' :=
  (implSinks_any p ve w hl h).mono fun _ _ ⟨v, he, ho, hb⟩ => ⟨v, he, ho.toInt, hb⟩
theorem specSourcesI_any (p : Plan) (ve : Value) (w : World) (hl : p.edges.length ≤ 2000000) (h : Rd edgeE w w.heap.size ve p.edges) :
    Calls Try.prog 24 #[planV p ve] w fun e w' => ∃ v, e = .returned v ∧ Ow intE 3 w' w.heap.size v (sourcesI p) ∧ Below w.heap.size w w' :=
  (specSources_any p ve w hl h).mono fun _ _ ⟨v, he, ho, hb⟩ => ⟨v, he, ho.toInt, hb⟩
theorem specSinksI_any (p : Plan) (ve : Value) (w : World) (hl : p.edges.length ≤ 2000000) (h : Rd edgeE w w.heap.size ve p.edges) :
    Calls Try.prog 22 #[planV p ve] w fun e w' => ∃ v, e = .returned v ∧ Ow intE 3 w' w.heap.size v (sinksI p) ∧ Below w.heap.size w w' :=
  (specSinks_any p ve w hl h).mono fun _ _ ⟨v, he, ho, hb⟩ => ⟨v, he, ho.toInt, hb⟩
theorem sourcesI_len (p : Plan) : (sourcesI p).length ≤ 2000000 := by
  have := sourcesOf_len p
  simp only [sourcesI, List.length_map]
  omega
theorem sinksI_len (p : Plan) : (sinksI p).length ≤ 2000000 := by
  have := sinksOf_len p
  simp only [sinksI, List.length_map]
  omega
end Go.Proofs.Ytnaicippgocdfaa
end
section
namespace Go.Proofs.Ytnaicippgocdfaa
open Go.RowKit
set_option maxRecDepth 100000
set_option maxHeartbeats 2000000

def earStep (l : List Int) (t : Nat) (o : List Int) (b : Nat) : List Int := o.set t (max (o.getD t 0) (o.getD b 0 + l.getD b 0))
def earTask (es : List (Nat × Nat)) (T : Nat) (l : List Int) (o : List Int) (t : Nat) : List Int := (beforeL es T t).foldl (earStep l t) o
def earL (es : List (Nat × Nat)) (T : Nat) (l : List Int) (ord : List Nat) : List Int := ord.foldl (earTask es T l) (List.replicate T 0)
noncomputable def earliestOf (p : Plan) (l : List Int) : List Int := if weightsOk p l = true then earL (esOf p) p.tasks.toNat l (orderOf p) else []
/-- all values are small -/
def Bd (o : List Int) (c : Nat) : Prop := ∀ x ∈ o, 0 ≤ x ∧ x ≤ 1000 * c
theorem earStep_len (l : List Int) (t : Nat) (o : List Int) (b : Nat) : (earStep l t o b).length = o.length := by simp [earStep]
theorem earFold_len (l : List Int) (t : Nat) : ∀ (B : List Nat) (o : List Int), (B.foldl (earStep l t) o).length = o.length
  | [], o => rfl
  | b :: B, o => by rw [List.foldl_cons, earFold_len l t B, earStep_len]
theorem earL_len (es : List (Nat × Nat)) (T : Nat) (l : List Int) (ord : List Nat) : (earL es T l ord).length = T := by
  unfold earL
  suffices h : ∀ (ord : List Nat) (o : List Int), (ord.foldl (earTask es T l) o).length = o.length by rw [h]; simp
  intro ord
  induction ord with
  | nil => intro o; rfl
  | cons t ord ih => intro o; rw [List.foldl_cons, ih, earTask, earFold_len]
theorem Bd.more {o : List Int} {c c' : Nat} (h : Bd o c) (hc : c ≤ c') : Bd o c' := fun x hx => by have := h x hx; omega
theorem getD_bd {o : List Int} {c : Nat} (h : Bd o c) (k : Nat) : 0 ≤ o.getD k 0 ∧ o.getD k 0 ≤ 1000 * c := by
  rw [List.getD_eq_getElem?_getD]
  cases hk : o[k]? with
  | none => simp; omega
  | some x => exact h x (List.mem_of_getElem? hk)
theorem Bd.step {o : List Int} {c : Nat} (h : Bd o c) {l : List Int} (hl : ∀ x ∈ l, 1 ≤ x ∧ x ≤ 1000) (t b : Nat) : Bd (earStep l t o b) (c + 1) := by
  intro x hx
  have hw : 0 ≤ l.getD b 0 ∧ l.getD b 0 ≤ 1000 := by
    rw [List.getD_eq_getElem?_getD]
    cases hk : l[b]? with
    | none => simp
    | some y => have := hl y (List.mem_of_getElem? hk); simp; omega
  rcases List.mem_or_eq_of_mem_set hx with hx | rfl
  · have := h x hx; omega
  · have h1 := getD_bd h t
    have h2 := getD_bd h b
    omega
theorem earTake_step {α β : Type} {f : β → α → β} {o : β} {B : List α} {j : Nat} (hj : j < B.length) : (B.take (j + 1)).foldl f o = f ((B.take j).foldl f o) B[j] := by
  rw [take_snoc B j hj, List.foldl_append]
  rfl
theorem earStep_eq {l o : List Int} {t b : Nat} (ht : t < o.length) (hb : b < o.length) (hlb : b < l.length) : earStep l t o b = o.set t (max o[t] (o[b] + l[b])) := by
  simp [earStep, List.getD_eq_getElem?_getD, ht, hb, hlb]
theorem orderOf_inv {p : Plan} (hf : planFault p = 0) : OrderInv (esOf p) p.tasks.toNat p.tasks.toNat (orderOf p) := by
  unfold orderOf
  rw [if_pos hf]
  exact orderL_inv (esOf_lt (planFault_zero.1 hf).2.1).1 (plan_ac hf) _ (Nat.le_refl _)

theorem implEarliest_any (p : Plan) (ve v : Value) (l : List Int) (w : World) (hl : p.edges.length ≤ 2000000) (hl2 : l.length ≤ 2000000) (h : Rd edgeE w w.heap.size ve p.edges) (h2 : Rd intE w w.heap.size v l) :
    Calls Try.prog 35 #[planV p ve, v] w fun e w' => ∃ u, e = .returned u ∧ Ow intE 3 w' w.heap.size u (earliestOf p l) ∧ Below w.heap.size w w' := by
  obtain ⟨A, c, rfl, -⟩ := id h2
  have hb0 := planBox_below 26 p ve w
  have D0 := BoxAt.new 26 p ve w
  cases hf : weightsOk p l
  · have H := Lib.hid (show earliestOf p l = [] by simp [earliestOf, hf])
    have HF := Lib.hid hf
    clear hf
    unfold planV
    go_enter Try.func35, Try.ntmps35
    go_wp2_with fail
    refine (implWeightsOk_any p ve (.slice A l.length c) l _ hl hl2 ((h.below hb0).more hb0.size) ((h2.below hb0).more hb0.size)).mono ?_
    rintro e w1 ⟨rfl, hb1⟩
    rw [HF.out]
    go_wp2
    go_ret
    exact ⟨_, rfl, by rw [H.out]; exact Ow.nil _ _ _ _, bnext hb0 hb1⟩
  obtain ⟨g1, g2, g3⟩ := weightsOk_all hf
  have G := Lib.hid (planFault_zero.1 g1)
  have HF := Lib.hid hf
  have HP := Lib.hid g1
  have HW := Lib.hid g3
  obtain ⟨t1, t2⟩ := manyOk_tasks G.out.1
  obtain ⟨T, hT⟩ := Int.eq_ofNat_of_zero_le (show 0 ≤ p.tasks by omega)
  have HT := Lib.hid hT
  have HTn := Lib.hid (show p.tasks.toNat = T by omega)
  have hT12 : T ≤ 12 := by omega
  have HLl := Lib.hid (show l.length = T by omega)
  have H := Lib.hid (show earliestOf p l = earL (esOf p) T l (orderOf p) by unfold earliestOf; rw [if_pos hf, HTn.out])
  have hO := Lib.hid (orderOf_inv g1)
  obtain ⟨j0, hj0, jz0, jz1, jz2⟩ := info_parts int_info
  have hmk : ∀ w : World, (Instr.makeSlice 27 (.int .i64 p.tasks) (.int .i64 p.tasks)).run Try.prog w = .ok (.slice (some ⟨w.heap.size, 0, none⟩) T T) (w.alloc (.cells (madeCells #[.int .i64 0] (T * 1)) 3)) := by
    intro w
    have := run_make (P := Try.prog) w 27 3 j0 _ Try.underlying27 hj0 jz0 .i64 .i64 T T (by omega) (by omega) (by rw [jz2]; omega) (by omega)
    rw [jz1] at this
    rw [hT]
    simpa [Value.cells] using this
  clear hf g1 g2 g3 hT
  unfold planV
  go_enter Try.func35, Try.ntmps35
  go_wp2_with fail
  refine (implWeightsOk_any p ve (.slice A l.length c) l _ hl hl2 ((h.below hb0).more hb0.size) ((h2.below hb0).more hb0.size)).mono ?_
  rintro e w1 ⟨rfl, hb1⟩
  rw [HF.out]
  have D := D0.below hb1
  have hb := bnext hb0 hb1
  obtain ⟨x0, x1, x2, x3, x4, xs⟩ := D.cells
  go_wp2_with fail
  clear x0 x1 x2 x3 x4 hmk D0 hb0 hb1
  have O1 := Ow.made intE 3 w1 0 T (by decide) (by simp [maxLen]; omega) (z := #[.int .i64 0]) rfl (m := T) (by simp [intE])
  have ha := (Below.refl w1.heap.size w1).alloc (Nat.le_refl _) (.cells (madeCells #[.int .i64 0] T) 3)
  have hsz1 : (w1.alloc (.cells (madeCells #[.int .i64 0] T) 3)).heap.size = w1.heap.size + 1 := by simp
  have Hsz1 := Lib.hid hsz1
  have D := D.below ha
  have hb := bnext hb ha
  clear ha hsz1
  refine (implOrder_any p ve _ hl ((h.below hb).more hb.size)).mono ?_
  rintro e w2 ⟨v2, rfl, o2, hb2⟩
  have o2 := o2.more (base' := w1.heap.size + 1) (by rw [Hsz1.out]; omega)
  have O := O1.below hb2
  have D := D.below hb2
  have hb := bnext hb hb2
  have hX := xs
  clear O1 xs hb2
  have hlen : (orderOf p).length = T := by rw [hO.out.len, HTn.out]
  have hlt0 : Hid (∀ x ∈ orderOf p, x < T) := fun x hx => by have := hO.out.lt x hx; rw [HTn.out] at this; exact this
  generalize orderOf p = ord at *
  obtain ⟨A2, c2, rfl, -⟩ := id (Rd.of_own o2)
  rw [hlen] at o2 ⊢
  have HO2 := Lib.hid hlen
  clear hlen
  go_wp2
  go_loopw [20] (fun i wr => ∃ k : Nat, k ≤ T ∧ i = .int .i64 k ∧ Hid (Bd (earL (esOf p) T l (ord.take k)) (12 * k)) ∧ Ow intE 3 wr w1.heap.size (.slice (some ⟨w1.heap.size, 0, none⟩) T T) (earL (esOf p) T l (ord.take k)) ∧ Ow natE 3 wr (w1.heap.size + 1) (.slice A2 T c2) ord ∧ BoxAt w.heap.size p ve wr ∧ Below w.heap.size w wr) (fun i _ => T - (intOf i).toNat)
  case atStart => exact ⟨0, Nat.zero_le _, rfl, fun x hx => by have := List.eq_of_mem_replicate hx; subst this; omega, O, o2, D, hb⟩
  case round =>
    clear O o2 D hb
    obtain ⟨k, hk, rfl, hbd, ho, o2, D, hb⟩ := hrel
    by_cases hlt : k < T
    · have hltI : (k : Int) < (T : Int) := by omega
      have hko : k < ord.length := by rw [HO2.out]; exact hlt
      have S0 := Lib.hid (show earL (esOf p) T l (ord.take (k + 1)) = (beforeL (esOf p) T ord[k]).foldl (earStep l ord[k]) (earL (esOf p) T l (ord.take k)) from earTake_step hko)
      have hEl := earL_len (esOf p) T l (ord.take k)
      have htT : ord[k] < T := hlt0.out _ (List.getElem_mem hko)
      obtain ⟨g2, rfl, hg2, hg2'⟩ := o2.some_ (by omega)
      have ct := o2.nat hko
      generalize hE : earL (esOf p) T l (ord.take k) = E at *
      have HE := Lib.hid hE
      clear hE
      generalize ord[k] = t at *
      obtain ⟨x0, x1, x2, x3, x4, xs⟩ := D.cells
      have hblk := ho.blk.2
      go_wp2_with fail
      clear x0 x1 x2 x3 x4 xs ct
      refine (implBefore_any p ve t _ HP.out ((h.below hb).more hb.size)).mono ?_
      rintro e w3 ⟨v3, rfl, o3, b3⟩
      rw [HTn.out] at o3
      have o3 := o3.more (base' := w1.heap.size + 1) (by omega)
      have ho := ho.below b3
      have o2 := o2.below b3
      have D := D.below b3
      have hb := bnext hb b3
      have hbl := beforeL_len (esOf p) T t
      have hbm : Hid (∀ x ∈ beforeL (esOf p) T t, x < T) := fun x hx => by simp [beforeL] at hx; exact hx.1
      generalize beforeL (esOf p) T t = B at *
      obtain ⟨A3, c3, rfl, -⟩ := id (Rd.of_own o3)
      clear b3 hblk
      go_wp2
      go_loopw [28] (fun i wr => ∃ j : Nat, j ≤ B.length ∧ i = .int .i64 j ∧ Hid (Bd ((B.take j).foldl (earStep l t) E) (12 * k + j)) ∧ Ow intE 3 wr w1.heap.size (.slice (some ⟨w1.heap.size, 0, none⟩) T T) ((B.take j).foldl (earStep l t) E) ∧ Ow natE 3 wr (w1.heap.size + 1) (.slice (some ⟨g2, 0, none⟩) T c2) ord ∧ Ow natE 3 wr (w1.heap.size + 1) (.slice A3 B.length c3) B ∧ BoxAt w.heap.size p ve wr ∧ Below w.heap.size w wr) (fun i _ => B.length - (intOf i).toNat)
      case atStart => exact ⟨0, Nat.zero_le _, rfl, hbd, ho, o2, o3, D, hb⟩
      case round =>
        clear ho o2 o3 D hb
        obtain ⟨j, hj, rfl, hbj, ho, o2, o3, D, hb⟩ := hrel
        by_cases hjt : j < B.length
        · have hjI : (j : Int) < (B.length : Int) := by omega
          have S := Lib.hid (earTake_step (f := earStep l t) (o := E) hjt)
          have hOl := earFold_len l t (B.take j) E
          rw [hEl] at hOl
          generalize (B.take j).foldl (earStep l t) E = O at *
          have hbT : B[j] < T := hbm.out _ (List.getElem_mem hjt)
          obtain ⟨g3, rfl, hg3, hg3'⟩ := o3.some_ (by omega)
          have cb := o3.nat hjt
          generalize B[j] = b at *
          have htI : (t : Int) < (T : Int) := by omega
          have hbI : (b : Int) < (T : Int) := by omega
          have hlb : b < l.length := by rw [HLl.out]; exact hbT
          have hlbI : (b : Int) < (l.length : Int) := by omega
          have htO : t < O.length := by omega
          have hbO : b < O.length := by omega
          have cO := ho.int htO
          have cO2 := ho.int hbO
          have hf := ho.free
          obtain ⟨bw, ow, rfl, hbw, cw⟩ := (h2.below hb).int hlb
          have hS := Lib.hid (earStep_eq (l := l) htO hbO hlb)
          have hw1 := hbj.out _ (List.getElem_mem htO)
          have hw2 := hbj.out _ (List.getElem_mem hbO)
          have hw3 := HW.out _ (List.getElem_mem hlb)
          have hbd2 := Lib.hid (hbj.out.step HW.out t b)
          have hput := Lib.hid (Ow.put ho hOl t htT (max O[t] (O[b] + l[b])))
          have hwr : IntKind.i64.wrap (O[b] + l[b]) = O[b] + l[b] := IntWalk.i64_in _ (by omega)
          clear hw1 hw2 hw3
          go_wp2
          go_still_tail 17, (by kernel_rfl)
          change wpList _ _ _ _ _ wr.drew
          go_wp2
          have hdr : ∀ w : World, Below w.heap.size w w.drew := fun w => (Below.refl _ _).drew
          refine ⟨⟨j + 1, by omega, by go_num, by rw [S.out]; exact hbd2.out, ?_, (o2.setOther (by simp [Value.ownBlock]; omega) _).below (hdr _), (o3.setOther (by simp [Value.ownBlock]; omega) _).below (hdr _), (D.other (by simp; omega) _).below (hdr _), (hb.setCell (by simp; omega) _).drew⟩, by simp [intOf]; omega⟩
          rw [S.out, hS.out]
          have := hput.out.1
          simp only [intE, Nat.mul_one] at this
          exact this.below (hdr _)
        · have hjI : ¬ (j : Int) < (B.length : Int) := by omega
          have hj' : j = B.length := by omega
          subst hj'
          rw [List.take_length] at ho hbj
          go_wp2
          exact ⟨⟨k + 1, by omega, by go_num, by rw [S0.out]; exact hbj.out.more (by omega), by rw [S0.out]; exact ho, o2, D, hb⟩, by simp [intOf]; omega⟩
    · have hltI : ¬ (k : Int) < (T : Int) := by omega
      have hk' : k = T := by omega
      have hbF := hb
      subst hk'
      rw [List.take_of_length_le (by rw [HO2.out]; exact Nat.le_refl _)] at ho
      go_wp2
      go_ret
      exact ⟨_, rfl, by rw [H.out]; exact ho.more (by omega), hbF⟩
end Go.Proofs.Ytnaicippgocdfaa
end
section
namespace Go.Proofs.Ytnaicippgocdfaa
open Go.RowKit
set_option maxRecDepth 100000
set_option maxHeartbeats 2000000

/-- who is in o, task by task -/
def toldL (T : Nat) (o : List Nat) : List Bool := (List.range T).map fun s => decide (s ∈ o)
theorem toldL_len (T : Nat) (o : List Nat) : (toldL T o).length = T := by simp [toldL]
theorem toldL_get {T : Nat} {o : List Nat} {s : Nat} (h : s < (toldL T o).length) : (toldL T o)[s] = decide (s ∈ o) := by simp [toldL]
theorem toldL_nil (T : Nat) : toldL T [] = List.replicate T false := by
  apply List.ext_getElem
  · simp [toldL]
  · intro i h1 h2
    simp [toldL]
theorem toldL_set {T : Nat} {o : List Nat} {t : Nat} : (toldL T o).set t true = toldL T (o ++ [t]) := by
  apply List.ext_getElem
  · simp [toldL]
  · intro i h1 h2
    rw [List.getElem_set]
    by_cases e : t = i
    · subst e; simp [toldL]
    · rw [if_neg e]
      simp [toldL, Ne.symm e]
/-- what the look at the first j finds -/
def okUpto (o b : List Nat) (t j : Nat) : Bool := !decide (t ∈ o) && decide (∀ x ∈ b.take j, x ∈ o)
theorem okUpto_succ {o b : List Nat} {t j : Nat} (hj : j < b.length) : okUpto o b t (j + 1) = (okUpto o b t j && decide (b[j] ∈ o)) := by
  unfold okUpto
  rw [take_snoc b j hj, Bool.and_assoc, ← Bool.decide_and]
  congr 1
  refine decide_eq_decide.2 ⟨fun h => ⟨fun x hx => h x (List.mem_append_left _ hx), h _ (List.mem_append_right _ (List.mem_singleton.2 rfl))⟩, ?_⟩
  rintro ⟨h1, h2⟩ x hx
  rcases List.mem_append.1 hx with h | h
  · exact h1 x h
  · rw [List.mem_singleton.1 h]; exact h2

theorem specOrder_any (p : Plan) (ve : Value) (w : World) (hl : p.edges.length ≤ 2000000) (h : Rd edgeE w w.heap.size ve p.edges) :
    Calls Try.prog 68 #[planV p ve] w fun e w' => ∃ v, e = .returned v ∧ Ow natE 3 w' w.heap.size v (orderOf p) ∧ Below w.heap.size w w' := by
  have ha0 : ∀ w : World, Below w.heap.size w (w.alloc (.cells #[] 3)) := fun w => (Below.refl _ _).alloc (Nat.le_refl _) _
  have hb00 := planBox_below 26 p ve w
  have hb0 := bnext hb00 (ha0 _)
  have D0 := (BoxAt.new 26 p ve w).below (ha0 _)
  have O0 := Ow.empty natE 3 (planBox 26 p ve w) (g := w.heap.size + 1) (by rw [planBox_size])
  clear hb00 ha0
  by_cases hf : planFault p = 0
  case neg =>
    have hfb : (planFault p != 0) = true := by simp [hf]
    have H := Lib.hid (show orderOf p = [] by unfold orderOf; rw [if_neg hf])
    clear hf
    unfold planV
    go_enter Try.func68, Try.ntmps68
    go_wp2_with fail
    refine (specPlanFault_any p ve _ hl ((h.below hb0).more hb0.size)).mono ?_
    rintro e w1 ⟨rfl, hb1⟩
    go_wp2
    go_ret
    exact ⟨_, rfl, by rw [H.out]; exact (O0.below hb1).more (by omega), bnext hb0 hb1⟩
  have hfb : (planFault p != 0) = false := by simp [hf]
  have G := Lib.hid (planFault_zero.1 hf)
  have HF := Lib.hid hf
  have hac := Lib.hid (plan_ac hf)
  obtain ⟨t1, t2⟩ := manyOk_tasks G.out.1
  obtain ⟨T, hT⟩ := Int.eq_ofNat_of_zero_le (show 0 ≤ p.tasks by omega)
  have HT := Lib.hid hT
  have HTn := Lib.hid (show p.tasks.toNat = T by omega)
  have hT12 : T ≤ 12 := by omega
  have H := Lib.hid (show orderOf p = orderL (esOf p) T T by unfold orderOf; rw [if_pos hf, HTn.out])
  have he1 := Lib.hid (show ∀ e ∈ esOf p, e.1 < T by have := (esOf_lt G.out.2.1).1; rw [HTn.out] at this; exact this)
  have hac' := Lib.hid (show ∀ t, t < T → ¬ Pg.Reach (esOf p) t t by have := hac.out; rw [HTn.out] at this; exact this)
  obtain ⟨j0, hj0, jz0, jz1, jz2⟩ := info_parts int_info
  obtain ⟨i0, hi0, hz0, hz1, hz2⟩ := info_parts bool_info
  have hmk : ∀ w : World, (Instr.makeSlice 71 (.int .i64 p.tasks) (.int .i64 p.tasks)).run Try.prog w = .ok (.slice (some ⟨w.heap.size, 0, none⟩) T T) (w.alloc (.cells (madeCells #[.bool false] (T * 1)) 4)) := by
    intro w
    have := run_make (P := Try.prog) w 71 4 i0 _ Try.underlying71 hi0 hz0 .i64 .i64 T T (by omega) (by omega) (by rw [hz2]; omega) (by omega)
    rw [hz1] at this
    rw [hT]
    simpa [Value.cells] using this
  clear hf hT hac
  unfold planV
  go_enter Try.func68, Try.ntmps68
  go_wp2_with fail
  refine (specPlanFault_any p ve _ hl ((h.below hb0).more hb0.size)).mono ?_
  rintro e w1 ⟨rfl, hb1⟩
  have D := D0.below hb1
  have O := O0.below hb1
  have hb := bnext hb0 hb1
  obtain ⟨x0, x1, x2, x3, x4, xs⟩ := D.cells
  have hOl := O.blk
  go_wp2
  clear x0 x1 x2 x3 x4 D0 O0 hb0 hb1 hmk
  have hX : w.heap.size + 1 ≤ w1.heap.size := by omega
  go_loopw [3] (fun vl wr => ∃ n : Nat, n ≤ T ∧ Ow natE 3 wr (w.heap.size + 1) vl (orderL (esOf p) T n) ∧ Ow boolE 4 wr (w.heap.size + 1) (.slice (some ⟨w1.heap.size, 0, none⟩) T T) (toldL T (orderL (esOf p) T n)) ∧ BoxAt w.heap.size p ve wr ∧ Below w.heap.size w wr) (fun vl _ => T - slen vl)
  case atStart =>
    have ha := (Below.refl w1.heap.size w1).alloc (Nat.le_refl _) (.cells (madeCells #[.bool false] T) 4)
    refine ⟨0, Nat.zero_le _, O.below ha, ?_, D.below ha, bnext hb ha⟩
    have := Ow.made boolE 4 w1 false T (by decide) (by simp [maxLen]; omega) (z := #[.bool false]) rfl (m := T) (by simp [boolE])
    show Ow boolE _ _ _ _ (toldL T [])
    rw [toldL_nil]
    exact this.more hX
  case round =>
    clear D O hb xs hOl
    obtain ⟨n, hn, ho, hto, D, hb⟩ := hrel
    have hinv := Lib.hid (orderL_inv he1.out hac'.out n hn)
    obtain ⟨A, c, rfl, -⟩ := id (Rd.of_own ho)
    have hlen : (orderL (esOf p) T n).length = n := hinv.out.len
    rw [hlen] at ho ⊢
    obtain ⟨x0, x1, x2, x3, x4, xs⟩ := D.cells
    have hlen2 : (orderL (esOf p) T n).length ≤ 2000000 := by omega
    have HL := Lib.hid hlen
    clear hlen hlen2
    by_cases hlt : n < T
    · have hltI : (n : Int) < p.tasks := by rw [HT.out]; omega
      obtain ⟨wo, rfl⟩ : ∃ wo : World, wo = wr := ⟨_, rfl⟩
      go_wp2
      clear x0 x1 x2 x3 x4 xs
      go_loopw [3, 5] (fun vl i wr => ∃ k : Nat, k ≤ T ∧ vl = .slice A n c ∧ i = .int .i64 k ∧ Hid (∀ s, s < k → mayCome (esOf p) (orderL (esOf p) T n) s = false) ∧ Ow natE 3 wr (w.heap.size + 1) (.slice A n c) (orderL (esOf p) T n) ∧ Ow boolE 4 wr (w.heap.size + 1) (.slice (some ⟨w1.heap.size, 0, none⟩) T T) (toldL T (orderL (esOf p) T n)) ∧ BoxAt w.heap.size p ve wr ∧ Below w.heap.size w wr) (fun _ i _ => T - (intOf i).toNat)
      case atStart => exact ⟨0, Nat.zero_le _, rfl, rfl, fun s hs => absurd hs (by omega), ho, hto, D, hb⟩
      case round =>
        clear ho D hb hto
        obtain ⟨k, hk, rfl, rfl, hno, ho, hto, D, hb⟩ := hrel
        obtain ⟨x0, x1, x2, x3, x4, xs⟩ := D.cells
        by_cases hkt : k < T
        · have hktI : (k : Int) < p.tasks := by rw [HT.out]; omega
          have hkTI : (k : Int) < (T : Int) := by omega
          have hmc := Lib.hid (mayCome_before (out := orderL (esOf p) T n) (t := k) he1.out)
          have hnext : mayCome (esOf p) (orderL (esOf p) T n) k = false → Hid (∀ s, s < k + 1 → mayCome (esOf p) (orderL (esOf p) T n) s = false) := fun hm s hs => by
            by_cases e : s = k
            · subst e; exact hm
            · exact hno.out s (by omega)
          have Hnext := Lib.hid hnext
          clear hnext
          have ck := hto.bool (k := k) (by rw [toldL_len]; exact hkt)
          rw [toldL_get] at ck
          go_wp2_with fail
          refine (specBefore_any p ve k _ G.out.1 G.out.2.1 G.out.2.2.1 ((h.below hb).more hb.size)).mono ?_
          rintro e w3 ⟨v3, rfl, o3, b3⟩
          rw [HTn.out] at o3
          have ho := ho.below b3
          have hto := hto.below b3
          have D := D.below b3
          have hb := bnext hb b3
          clear x0 x1 x2 x3 x4 xs ck
          have hbl := beforeL_len (esOf p) T k
          have hbm : Hid (∀ x ∈ beforeL (esOf p) T k, x < T) := fun x hx => by simp [beforeL] at hx; exact hx.1
          generalize hB : beforeL (esOf p) T k = B at *
          have HB := Lib.hid hB
          clear hB
          obtain ⟨A3, c3, rfl, -⟩ := id (Rd.of_own o3)
          go_wp2
          go_loop [6, 8] (fun y i => ∃ j : Nat, j ≤ B.length ∧ i = .int .i64 j ∧ y = .bool (okUpto (orderL (esOf p) T n) B k j)) (fun _ i => B.length - (intOf i).toNat)
          case atStart => exact ⟨0, Nat.zero_le _, rfl, by simp [okUpto]⟩
          case round =>
            obtain ⟨j, hj, rfl, rfl⟩ := hrel
            by_cases hjt : j < B.length
            · have hjI : (j : Int) < (B.length : Int) := by omega
              have hun := Lib.hid (okUpto_succ (o := orderL (esOf p) T n) (t := k) hjt)
              cases hok : okUpto (orderL (esOf p) T n) B k j
              · have S := Lib.hid (show okUpto (orderL (esOf p) T n) B k (j + 1) = false by rw [hun.out, hok]; rfl)
                go_wp2
                exact ⟨⟨j + 1, by omega, by go_num, by rw [S.out]⟩, by simp [intOf]; omega⟩
              · have S := Lib.hid (show okUpto (orderL (esOf p) T n) B k (j + 1) = decide (B[j] ∈ orderL (esOf p) T n) by rw [hun.out, hok]; rfl)
                obtain ⟨g3, rfl, _, _⟩ := o3.some_ (by omega)
                have cB := o3.nat hjt
                have hBT : B[j] < T := hbm.out _ (List.getElem_mem hjt)
                have hBTI : (B[j] : Int) < (T : Int) := by omega
                have cT := hto.bool (k := B[j]) (by rw [toldL_len]; exact hBT)
                rw [toldL_get] at cT
                go_wp2
                exact ⟨⟨j + 1, by omega, by go_num, by rw [S.out]⟩, by simp [intOf]; omega⟩
            · have hjI : ¬ (j : Int) < (B.length : Int) := by omega
              have hj' : j = B.length := by omega
              subst hj'
              have hfin := Lib.hid (show okUpto (orderL (esOf p) T n) B k B.length = mayCome (esOf p) (orderL (esOf p) T n) k by rw [hmc.out, okUpto, List.take_length])
              cases hok : okUpto (orderL (esOf p) T n) B k B.length
              · have S := Hnext.out (by rw [← hfin.out, hok])
                go_wp2
                exact ⟨⟨k + 1, by omega, rfl, by go_num, S, ho, hto, D, hb⟩, by simp [intOf]; omega⟩
              · have S := Lib.hid (orderL_succ (pickT_first hkt (show mayCome (esOf p) (orderL (esOf p) T n) k = true by rw [← hfin.out, hok]) hno.out))
                have hcf := hto.free
                have ck := hto.bool (k := k) (by rw [toldL_len]; exact hkt)
                have hput := Ow.put hto (n := T) (toldL_len _ _) k hkt true
                rw [toldL_set] at hput
                simp only [boolE, Nat.mul_one] at hput
                have hto2 : Ow boolE 4 (w3.setCell ⟨w1.heap.size, k, none⟩ (.bool true)) (w.heap.size + 1) (.slice (some ⟨w1.heap.size, 0, none⟩) T T) (toldL T (orderL (esOf p) T n ++ [k])) := hput.1
                have ho2 : Ow natE 3 (w3.setCell ⟨w1.heap.size, k, none⟩ (.bool true)) (w.heap.size + 1) (.slice A n c) (orderL (esOf p) T n) := ho.grown hput.2 (ho.ne_ hto (by decide))
                have D2 : BoxAt w.heap.size p ve (w3.setCell ⟨w1.heap.size, k, none⟩ (.bool true)) := D.far hput.2 (by simp; omega)
                have hb2 : Below w.heap.size w (w3.setCell ⟨w1.heap.size, k, none⟩ (.bool true)) := hb.grown hput.2 hb.size (fun g' hg' => by simp at hg'; omega)
                have hsz2 : (w3.setCell ⟨w1.heap.size, k, none⟩ (.bool true)).heap.size = w3.heap.size := by simp [World.setCell]
                have Hsz2 := Lib.hid hsz2
                clear hput hsz2
                have ha : Hid (∀ w : World, Below w.heap.size w (w.alloc (.cells #[.int .i64 (k : Int)] 3))) := fun w => (Below.refl _ _).alloc (Nat.le_refl _) _
                have hDl := D.lt
                have Ho2 := Lib.hid ho2
                have Hto2 := Lib.hid hto2
                have HD2 := Lib.hid D2
                have Hb2 := Lib.hid hb2
                have Hwi := Lib.hid ho2.within
                clear ho2 hto2 D2 hb2
                go_wp2_with (at_builtin; refine wpList_push_all _ natE (by decide) rfl (.tmp 56) (.tmp 58) rfl Try.underlying27 hj0 jz0 jz1 jz2 rfl (l := orderL (esOf p) T n) rfl (Ho2.out.below (ha.out _)) rfl (Rd.one natE (w3.setCell ⟨w1.heap.size, k, none⟩ (.bool true)) _ k Hsz2.out.symm rfl 1 (Nat.le_refl _) (Nat.lt_succ_self _)) (by have := HL.out; omega) (by simp) (by decide) (by rw [World.size_alloc, Hsz2.out]; omega) ?_; intro v5 w5 o5 g5 hat5; obtain ⟨A5, c5, rfl, -⟩ := id (Rd.of_own o5))
                have D5 := (HD2.out.below (ha.out _)).far g5 (fun e => by have := Hwi.out _ e.symm; omega)
                have hb' := bnext Hb2.out (ha.out _)
                have W5 := hb'.grown g5 hb'.size (fun g hg => by have := Hwi.out _ hg; omega)
                have T5 := (Hto2.out.below (ha.out _)).grown g5 ((Hto2.out.below (ha.out _)).ne_ (Ho2.out.below (ha.out _)) (by decide))
                refine ⟨⟨n + 1, by omega, ?_, ?_, D5, W5⟩, ?_⟩
                · rw [S.out]
                  simpa using o5
                · rw [S.out]
                  exact T5
                · simp only [slen]
                  have := HL.out
                  first | omega | (simp; omega)
        · exfalso
          obtain ⟨t, _, ht, hm⟩ := pick_some he1.out hac'.out (exists_out (T := T) (o := orderL (esOf p) T n) (by rw [HL.out]; exact hlt))
          rw [hno.out t (by omega)] at hm
          cases hm
    · have hltI : ¬ (n : Int) < p.tasks := by rw [HT.out]; omega
      have hn' : n = T := by omega
      subst hn'
      go_wp2
      go_ret
      refine ⟨_, rfl, ?_, hb⟩
      rw [H.out]
      exact ho.more (by omega)
end Go.Proofs.Ytnaicippgocdfaa
end
section
namespace Go.Proofs.Ytnaicippgocdfaa
open Go.RowKit
set_option maxRecDepth 100000
set_option maxHeartbeats 2000000

def crossE (t : Int) (a b : Nat) : Edge := ⟨(a : Int), (b : Int) + t⟩
def crossRow (t : Int) (B : List Nat) (a : Nat) : List Edge := B.map (crossE t a)
def crossL (t : Int) (A B : List Nat) : List Edge := A.flatMap (crossRow t B)
noncomputable def moreL (p q : Plan) : List Edge := crossL p.tasks (sinksOf p) (sourcesOf q)
theorem crossL_len (t : Int) (A B : List Nat) : (crossL t A B).length = A.length * B.length := by
  induction A with
  | nil => simp [crossL]
  | cons a A ih =>
    unfold crossL at *
    rw [List.flatMap_cons, List.length_append, ih, List.length_cons, Nat.succ_mul]
    simp [crossRow]
    omega
theorem crossL_small (t : Int) {A B : List Nat} (hA : A.length ≤ 12) (hB : B.length ≤ 12) : (crossL t A B).length ≤ 144 := by
  rw [crossL_len]
  exact Nat.mul_le_mul hA hB
theorem moreL_len (p q : Plan) : (moreL p q).length ≤ 144 := crossL_small _ (sinksOf_len p) (sourcesOf_len q)
/-- what is laid so far: the rows of k tasks, and j of the next one's -/
def crossK (t : Int) (A B : List Nat) (k : Nat) : List Edge := crossL t (A.take k) B
theorem crossK_succ (t : Int) (A B : List Nat) {k : Nat} (h : k < A.length) : crossK t A B (k + 1) = crossK t A B k ++ crossRow t B A[k] := by
  unfold crossK crossL
  rw [take_snoc A k h, List.flatMap_append, List.flatMap_singleton]
theorem crossRow_succ (t : Int) (B : List Nat) (a : Nat) {j : Nat} (h : j < B.length) : crossRow t (B.take (j + 1)) a = crossRow t (B.take j) a ++ [crossE t a B[j]] := by
  unfold crossRow
  rw [take_snoc B j h, List.map_append]
  rfl
theorem crossK_len (t : Int) {A B : List Nat} (hA : A.length ≤ 12) (hB : B.length ≤ 12) (k : Nat) : (crossK t A B k).length ≤ 144 := by
  refine crossL_small t ?_ hB
  have := List.length_take_le' k A
  omega
theorem endsL_lt (f : Nat → List Nat) (k : Nat) : ∀ x ∈ endsL f k, x < k := fun x hx => by simp [endsL] at hx; exact hx.1
theorem sinksOf_pos {p : Plan} (h : 0 < (sinksOf p).length) : 1 ≤ p.tasks ∧ p.tasks ≤ 12 := by
  unfold sinksOf at h
  split at h
  · rename_i hf
    exact manyOk_tasks (planFault_zero.1 hf).1
  · simp at h
theorem sourcesOf_lt (p : Plan) : ∀ x ∈ sourcesOf p, x < 12 := by
  unfold sourcesOf
  split
  · rename_i hf
    have := manyOk_tasks (planFault_zero.1 hf).1
    intro x hx
    have := endsL_lt _ _ x hx
    omega
  · intro x hx; cases hx

theorem implJBehind_any (p : Plan) (ve : Value) (q : Plan) (vf : Value) (w : World) (hl : p.edges.length ≤ 2000000) (hl' : q.edges.length ≤ 2000000) (h : Rd edgeE w w.heap.size ve p.edges) (h' : Rd edgeE w w.heap.size vf q.edges) :
    Calls Try.prog 29 #[planV p ve, planV q vf] w (JoinPost (joined p q (moreL p q)) w) := by
  obtain ⟨W, hWe, D, E, Z, hW, hsz⟩ := threeBox_at p ve q vf w
  unfold twoBox planBox at hWe
  have HWe := Lib.hid hWe
  have Hsz := Lib.hid hsz
  clear hWe hsz
  have HM := Lib.hid (show moreL p q = crossL p.tasks (sinksOf p) (sourcesOf q) from rfl)
  have hA12 := sinksOf_len p
  have hB12 := sourcesOf_len q
  have hApos := Lib.hid (fun x => sinksOf_pos (p := p) x)
  have hBlt := Lib.hid (sourcesOf_lt q)
  obtain ⟨i0, hi0, hz0, hz1, hz2⟩ := info_parts edge_info
  unfold planV
  go_enter Try.func29, Try.ntmps29
  go_wp2_with fail
  rw [← HWe.out]
  refine (implSinks_any p ve _ hl ((h.below hW).more hW.size)).mono ?_
  rintro e w1 ⟨v1, rfl, o1, b1⟩
  have hZl := Z.lt
  have hW := bnext hW b1
  have D := D.below b1
  have E := E.below b1
  have Z := Z.below b1
  have hs1 := b1.size
  clear b1
  generalize sinksOf p = A at *
  generalize hBe : sourcesOf q = B at *
  have HBe := Lib.hid hBe
  clear hBe
  generalize moreL p q = M at *
  have D1 := Lib.hid D
  obtain ⟨A1, c1, rfl, -⟩ := id (Rd.of_own o1)
  have O0 := Ow.nil edgeE 52 w1 w1.heap.size
  go_wp2
  go_loopw [6, 14] (fun vl i wr => ∃ k : Nat, k ≤ A.length ∧ i = .int .i64 k ∧ Ow edgeE 52 wr w1.heap.size vl (crossK p.tasks A B k) ∧ Below w1.heap.size w1 wr) (fun _ i _ => A.length - (intOf i).toNat)
  case atStart => exact ⟨0, Nat.zero_le _, rfl, O0, Below.refl _ _⟩
  case round =>
    clear O0
    obtain ⟨k, hk, rfl, ho, hb2⟩ := hrel
    have o1 := o1.below hb2
    have D := D.below hb2
    have E := E.below hb2
    have Z := Z.below hb2
    have hW := bnext hW hb2
    have hs2 := hb2.size
    by_cases hlt : k < A.length
    · have hltI : (k : Int) < (A.length : Int) := by omega
      obtain ⟨pt1, pt2⟩ := hApos.out (by omega)
      have S0 := Lib.hid (crossK_succ p.tasks A B hlt)
      have hKl := crossK_len p.tasks hA12 hB12 k
      obtain ⟨g1, rfl, _, _⟩ := o1.some_ (by omega)
      have ca := o1.nat hlt
      generalize A[k] = a at *
      generalize hKK : crossK p.tasks A B k = K at *
      have HKK := Lib.hid hKK
      clear hKK
      obtain ⟨x0, x1, x2, x3, x4, xs⟩ := E.cells
      go_wp2_with fail
      clear x0 x1 x2 x3 x4 xs ca
      refine (implSources_any q vf _ hl' ((h'.below hW).more hW.size)).mono ?_
      rintro e w2 ⟨v2, rfl, o2, b2⟩
      rw [HBe.out] at o2
      have q2 := o2.within
      have hqq := ho.within
      have ho := ho.below b2
      have D := D.below b2
      have hb2 := bnext hb2 b2
      have hap : Hid (v2.ownBlock = none ∨ v2.ownBlock ≠ _) := q2.apart hqq (.inr (Nat.le_refl _))
      have o2 := o2.more hs2
      have hyz := D.lt
      clear b2 q2 hqq hW E Z o1
      obtain ⟨A2, c2, rfl, -⟩ := id (Rd.of_own o2)
      go_wp2
      go_loopw [6, 21] (fun vl i wr => ∃ j : Nat, j ≤ B.length ∧ i = .int .i64 j ∧ Ow edgeE 52 wr w1.heap.size vl (K ++ crossRow p.tasks (B.take j) a) ∧ Ow natE 3 wr w1.heap.size (.slice A2 B.length c2) B ∧ Hid ((Value.slice A2 B.length c2).ownBlock = none ∨ (Value.slice A2 B.length c2).ownBlock ≠ vl.ownBlock) ∧ Below w1.heap.size w1 wr) (fun _ i _ => B.length - (intOf i).toNat)
      case atStart => exact ⟨0, Nat.zero_le _, rfl, by simpa [crossRow] using ho, o2, hap, hb2⟩
      case round =>
        clear ho o2 hap hb2 D
        obtain ⟨j, hj, rfl, ho, o2, hap, hb2⟩ := hrel
        by_cases hjt : j < B.length
        · have hjI : (j : Int) < (B.length : Int) := by omega
          have D := D1.out.below hb2
          have hs3 := hb2.size
          have Sj := Lib.hid (crossRow_succ p.tasks B a hjt)
          have hbl := hBlt.out _ (List.getElem_mem hjt)
          obtain ⟨g2, rfl, hg2, hg2'⟩ := o2.some_ (by omega)
          have cb := o2.nat hjt
          generalize B[j] = b at *
          have hwr : IntKind.i64.wrap ((b : Int) + p.tasks) = (b : Int) + p.tasks := IntWalk.i64_in _ (by omega)
          have hRl : (K ++ crossRow p.tasks (B.take j) a).length ≤ 3000000 := by
            rw [List.length_append]
            unfold crossRow
            have := List.length_take_le' j B
            simp only [List.length_map]
            omega
          generalize hRR : K ++ crossRow p.tasks (B.take j) a = R at *
          have HRR := Lib.hid hRR
          clear hRR
          obtain ⟨x0, x1, x2, x3, x4, xs⟩ := D.cells
          have ha : Hid (∀ w : World, Below w.heap.size w (w.alloc (.cells #[.int .i64 (a : Int), .int .i64 ((b : Int) + p.tasks)] 52))) := fun w => (Below.refl _ _).alloc (Nat.le_refl _) _
          go_wp2_with (at_builtin; refine wpList_push_all _ edgeE (by decide) rfl (.tmp 25) (.tmp 32) rfl Try.underlying24 hi0 hz0 hz1 hz2 rfl (l := R) rfl (ho.below (ha.out _)) rfl (Rd.one edgeE _ _ (crossE p.tasks a b) rfl rfl 1 (Nat.le_refl _) (Nat.lt_succ_self _)) hRl (by simp) (by decide) (by simp; omega) ?_; intro v5 w5 o5 g5 f5)
          have hb' := bnext hb2 (ha.out _)
          have W5 := hb'.grown g5 hb'.size (fun g hg => by have := ho.within _ hg; omega)
          refine ⟨⟨j + 1, by omega, by go_num, by rw [Sj.out, ← List.append_assoc, HRR.out]; exact o5, (o2.below (ha.out _)).grown g5 hap.out, ?_, W5⟩, by simp [intOf]; omega⟩
          rcases f5 with f5 | f5
          · rw [f5]; exact hap.out
          · refine .inr ?_
            rw [f5]
            simp [Value.ownBlock]
            omega
        · have hjI : ¬ (j : Int) < (B.length : Int) := by omega
          have hj' : j = B.length := by omega
          have hb2F := hb2
          subst hj'
          rw [List.take_length] at ho
          go_wp2
          exact ⟨⟨k + 1, by omega, by go_num, by rw [S0.out]; exact ho, hb2F⟩, by simp [intOf]; omega⟩
    · have hltI : ¬ (k : Int) < (A.length : Int) := by omega
      have hk' : k = A.length := by omega
      have hWF := hW
      have hKl := crossK_len p.tasks hA12 hB12 A.length
      have HF := Lib.hid (show crossK p.tasks A B A.length = M by rw [HM.out]; unfold crossK; rw [List.take_length])
      subst hk'
      rw [HF.out] at ho hKl
      obtain ⟨x0, x1, x2, x3, x4, xs⟩ := E.cells
      obtain ⟨y0, y1, y2, y3, y4, ys⟩ := D.cells
      go_wp2_with fail
      clear x0 x1 x2 x3 x4 xs y0 y1 y2 y3 y4 ys
      refine (implJoined_any p ve q vf _ M _ hl hl' (by omega) ((h.below hWF).more hWF.size) ((h'.below hWF).more hWF.size) (Rd.of_own ho)).mono ?_
      rintro e w3 ⟨v3, rfl, o3, b3⟩
      obtain ⟨A3, c3, rfl, -⟩ := id (Rd.of_own o3)
      have hz := Z.lt
      have o3 := o3.more (base' := w.heap.size + 3) (by have := Hsz.out; omega)
      obtain ⟨z0, z1, z2, z3, z4, zs⟩ := (Z.below b3).cells
      have zf := (Z.below b3).free
      have hWF := bnext hWF b3
      go_wp2
      refine bodyPost_ret (v := .tuple #[planV (joined p q M).1 (.slice A3 (joined p q M).1.edges.length c3), .bool (joined p q M).2]) ?_ rfl ⟨.slice A3 (joined p q M).1.edges.length c3, rfl, ?_, ?_⟩
      · simp [planV, zeroPlan, results, Try.results29, go_sem, *]
      · refine Ow.more (base := w.heap.size + 3) ?_ (by omega)
        unfold Ow at o3 ⊢
        repeat (first | (with_reducible exact o3) | refine ownsRow_setCell_below ?_ (by simp <;> omega) _)
      · repeat (first | (with_reducible exact hWF) | refine Below.setCell ?_ (by simp <;> omega) _)
end Go.Proofs.Ytnaicippgocdfaa
end
section
namespace Go.Proofs.Ytnaicippgocdfaa
open Go.RowKit
set_option maxRecDepth 100000
set_option maxHeartbeats 3000000

theorem specEarliest_any (p : Plan) (ve v : Value) (l : List Int) (w : World) (hl : p.edges.length ≤ 2000000) (hl2 : l.length ≤ 2000000) (h : Rd edgeE w w.heap.size ve p.edges) (h2 : Rd intE w w.heap.size v l) :
    Calls Try.prog 39 #[planV p ve, v] w fun e w' => ∃ u, e = .returned u ∧ Ow intE 3 w' w.heap.size u (earliestOf p l) ∧ Below w.heap.size w w' := by
  obtain ⟨A, c, rfl, -⟩ := id h2
  have hb0 := planBox_below 26 p ve w
  have D0 := BoxAt.new 26 p ve w
  cases hf : weightsOk p l
  · have H := Lib.hid (show earliestOf p l = [] by simp [earliestOf, hf])
    have HF := Lib.hid hf
    clear hf
    unfold planV
    go_enter Try.func39, Try.ntmps39
    go_wp2_with fail
    refine (specWeightsOk_any p ve (.slice A l.length c) l _ hl hl2 ((h.below hb0).more hb0.size) ((h2.below hb0).more hb0.size)).mono ?_
    rintro e w1 ⟨rfl, hb1⟩
    rw [HF.out]
    have hb := bnext hb0 hb1
    go_wp2
    go_ret
    exact ⟨_, rfl, by rw [H.out]; exact (Ow.empty intE 3 w1 rfl).more hb.size, hb.alloc hb.size _⟩
  obtain ⟨g1, g2, g3⟩ := weightsOk_all hf
  have G := Lib.hid (planFault_zero.1 g1)
  have HF := Lib.hid hf
  have HP := Lib.hid g1
  have HW := Lib.hid g3
  obtain ⟨t1, t2⟩ := manyOk_tasks G.out.1
  obtain ⟨T, hT⟩ := Int.eq_ofNat_of_zero_le (show 0 ≤ p.tasks by omega)
  have HT := Lib.hid hT
  have HTn := Lib.hid (show p.tasks.toNat = T by omega)
  have hT12 : T ≤ 12 := by omega
  have HLl := Lib.hid (show l.length = T by omega)
  have H := Lib.hid (show earliestOf p l = earL (esOf p) T l (orderOf p) by unfold earliestOf; rw [if_pos hf, HTn.out])
  have hO := Lib.hid (orderOf_inv g1)
  obtain ⟨j0, hj0, jz0, jz1, jz2⟩ := info_parts int_info
  have hmk : ∀ w : World, (Instr.makeSlice 27 (.int .i64 p.tasks) (.int .i64 p.tasks)).run Try.prog w = .ok (.slice (some ⟨w.heap.size, 0, none⟩) T T) (w.alloc (.cells (madeCells #[.int .i64 0] (T * 1)) 3)) := by
    intro w
    have := run_make (P := Try.prog) w 27 3 j0 _ Try.underlying27 hj0 jz0 .i64 .i64 T T (by omega) (by omega) (by rw [jz2]; omega) (by omega)
    rw [jz1] at this
    rw [hT]
    simpa [Value.cells] using this
  clear hf g1 g2 g3 hT
  unfold planV
  go_enter Try.func39, Try.ntmps39
  go_wp2_with fail
  refine (specWeightsOk_any p ve (.slice A l.length c) l _ hl hl2 ((h.below hb0).more hb0.size) ((h2.below hb0).more hb0.size)).mono ?_
  rintro e w1 ⟨rfl, hb1⟩
  rw [HF.out]
  have D := D0.below hb1
  have hb := bnext hb0 hb1
  obtain ⟨x0, x1, x2, x3, x4, xs⟩ := D.cells
  go_wp2_with fail
  clear x0 x1 x2 x3 x4 hmk D0 hb0 hb1
  have O1 := Ow.made intE 3 w1 0 T (by decide) (by simp [maxLen]; omega) (z := #[.int .i64 0]) rfl (m := T) (by simp [intE])
  have ha := (Below.refl w1.heap.size w1).alloc (Nat.le_refl _) (.cells (madeCells #[.int .i64 0] T) 3)
  have hsz1 : (w1.alloc (.cells (madeCells #[.int .i64 0] T) 3)).heap.size = w1.heap.size + 1 := by simp
  have Hsz1 := Lib.hid hsz1
  have D := D.below ha
  have hb := bnext hb ha
  clear ha hsz1
  refine (specOrder_any p ve _ hl ((h.below hb).more hb.size)).mono ?_
  rintro e w2 ⟨v2, rfl, o2, hb2⟩
  have o2 := o2.more (base' := w1.heap.size + 1) (by rw [Hsz1.out]; omega)
  have O := O1.below hb2
  have D := D.below hb2
  have hb := bnext hb hb2
  have hX := xs
  clear O1 xs hb2
  have hlen : (orderOf p).length = T := by rw [hO.out.len, HTn.out]
  have hlt0 : Hid (∀ x ∈ orderOf p, x < T) := fun x hx => by have := hO.out.lt x hx; rw [HTn.out] at this; exact this
  generalize orderOf p = ord at *
  obtain ⟨A2, c2, rfl, -⟩ := id (Rd.of_own o2)
  rw [hlen] at o2 ⊢
  have HO2 := Lib.hid hlen
  clear hlen
  go_wp2
  go_loopw [7] (fun i wr => ∃ k : Nat, k ≤ T ∧ i = .int .i64 k ∧ Hid (Bd (earL (esOf p) T l (ord.take k)) (12 * k)) ∧ Ow intE 3 wr w1.heap.size (.slice (some ⟨w1.heap.size, 0, none⟩) T T) (earL (esOf p) T l (ord.take k)) ∧ Ow natE 3 wr (w1.heap.size + 1) (.slice A2 T c2) ord ∧ BoxAt w.heap.size p ve wr ∧ Below w.heap.size w wr) (fun i _ => T - (intOf i).toNat)
  case atStart => exact ⟨0, Nat.zero_le _, rfl, fun x hx => by have := List.eq_of_mem_replicate hx; subst this; omega, O, o2, D, hb⟩
  case round =>
    clear O o2 D hb
    obtain ⟨k, hk, rfl, hbd, ho, o2, D, hb⟩ := hrel
    by_cases hlt : k < T
    · have hltI : (k : Int) < (T : Int) := by omega
      have hko : k < ord.length := by rw [HO2.out]; exact hlt
      have S0 := Lib.hid (show earL (esOf p) T l (ord.take (k + 1)) = (beforeL (esOf p) T ord[k]).foldl (earStep l ord[k]) (earL (esOf p) T l (ord.take k)) from earTake_step hko)
      have hEl := earL_len (esOf p) T l (ord.take k)
      have htT : ord[k] < T := hlt0.out _ (List.getElem_mem hko)
      obtain ⟨g2, rfl, hg2, hg2'⟩ := o2.some_ (by omega)
      have ct := o2.nat hko
      generalize hE : earL (esOf p) T l (ord.take k) = E at *
      have HE := Lib.hid hE
      clear hE
      generalize hkt : ord[k] = t at *
      have Hkt := Lib.hid hkt
      clear hkt
      obtain ⟨x0, x1, x2, x3, x4, xs⟩ := D.cells
      have hblk := ho.blk.2
      go_wp2
      go_still_tail 5, (by kernel_rfl)
      clear x0 x1 x2 x3 x4 xs ct
      change wpList _ _ _ _ _ wr.drew
      have hdr0 : Below wr.heap.size wr wr.drew := (Below.refl _ _).drew
      have ho := ho.below hdr0
      have o2 := o2.below hdr0
      have D := D.below hdr0
      have hb := bnext hb hdr0
      have hblk := ho.blk.2
      clear hdr0
      generalize wr.drew = wr at *
      go_wp2_with fail
      refine (specBefore_any p ve t _ G.out.1 G.out.2.1 G.out.2.2.1 ((h.below hb).more hb.size)).mono ?_
      rintro e w3 ⟨v3, rfl, o3, b3⟩
      rw [HTn.out] at o3
      have o3 := o3.more (base' := w1.heap.size + 1) (by omega)
      have ho := ho.below b3
      have o2 := o2.below b3
      have D := D.below b3
      have hb := bnext hb b3
      have hbl := beforeL_len (esOf p) T t
      have hbm : Hid (∀ x ∈ beforeL (esOf p) T t, x < T) := fun x hx => by simp [beforeL] at hx; exact hx.1
      generalize beforeL (esOf p) T t = B at *
      obtain ⟨A3, c3, rfl, -⟩ := id (Rd.of_own o3)
      clear b3 hblk
      go_wp2
      go_loopw [9] (fun i wr => ∃ j : Nat, j ≤ B.length ∧ i = .int .i64 j ∧ Hid (Bd ((B.take j).foldl (earStep l t) E) (12 * k + j)) ∧ Ow intE 3 wr w1.heap.size (.slice (some ⟨w1.heap.size, 0, none⟩) T T) ((B.take j).foldl (earStep l t) E) ∧ Ow natE 3 wr (w1.heap.size + 1) (.slice (some ⟨g2, 0, none⟩) T c2) ord ∧ Ow natE 3 wr (w1.heap.size + 1) (.slice A3 B.length c3) B ∧ BoxAt w.heap.size p ve wr ∧ Below w.heap.size w wr) (fun i _ => B.length - (intOf i).toNat)
      case atStart => exact ⟨0, Nat.zero_le _, rfl, hbd, ho, o2, o3, D, hb⟩
      case round =>
        clear ho o2 o3 D hb
        obtain ⟨j, hj, rfl, hbj, ho, o2, o3, D, hb⟩ := hrel
        by_cases hjt : j < B.length
        · have hjI : (j : Int) < (B.length : Int) := by omega
          have S := Lib.hid (earTake_step (f := earStep l t) (o := E) hjt)
          have hOl := earFold_len l t (B.take j) E
          rw [hEl] at hOl
          generalize (B.take j).foldl (earStep l t) E = O at *
          have hbT : B[j] < T := hbm.out _ (List.getElem_mem hjt)
          obtain ⟨g3, rfl, hg3, hg3'⟩ := o3.some_ (by omega)
          have cb := o3.nat hjt
          generalize hjb : B[j] = b at *
          have Hjb := Lib.hid hjb
          clear hjb
          have htI : (t : Int) < (T : Int) := by omega
          have hbI : (b : Int) < (T : Int) := by omega
          have hlb : b < l.length := by rw [HLl.out]; exact hbT
          have hlbI : (b : Int) < (l.length : Int) := by omega
          have htO : t < O.length := by omega
          have hbO : b < O.length := by omega
          have cO := ho.int htO
          have cO2 := ho.int hbO
          have hf := ho.free
          obtain ⟨bw, ow, rfl, hbw, cw⟩ := (h2.below hb).int hlb
          have Hcw : Hid (∀ W', Below w.heap.size w W' → W'.cell? ⟨bw, ow + b, none⟩ = some (.int .i64 l[b])) := fun W' hW' => by
            obtain ⟨b', o', ee, _, d0⟩ := (h2.below hW').int hlb
            simp only [Option.some.injEq, Addr.mk.injEq] at ee
            obtain ⟨rfl, rfl, -⟩ := ee
            exact d0
          have hS := Lib.hid (earStep_eq (l := l) htO hbO hlb)
          have hw1 := hbj.out _ (List.getElem_mem htO)
          have hw2 := hbj.out _ (List.getElem_mem hbO)
          have hw3 := HW.out _ (List.getElem_mem hlb)
          have hbd2 := Lib.hid (hbj.out.step HW.out t b)
          have hput := Lib.hid (Ow.put ho hOl t htT (max O[t] (O[b] + l[b])))
          have hwr : IntKind.i64.wrap (O[b] + l[b]) = O[b] + l[b] := IntWalk.i64_in _ (by omega)
          clear hw1 hw2 hw3
          have ct := o2.nat hko
          rw [Hkt.out] at ct
          have hdr : ∀ w : World, Below w.heap.size w w.drew := fun w => (Below.refl _ _).drew
          have Hdr := Lib.hid hdr
          clear hdr
          by_cases hgt : O[t] < O[b] + l[b]
          · have hmax := Lib.hid (show max O[t] (O[b] + l[b]) = O[b] + l[b] by omega)
            go_wp2
            go_quiet (fail)
            clear ct cb cO cO2 cw hf
            have hdn : Below wr.heap.size wr (wr.drewN nq) := bdrewN (Below.refl _ _) _
            have ho := ho.below hdn
            have o2 := o2.below hdn
            have o3 := o3.below hdn
            have D := D.below hdn
            have hb := bnext hb hdn
            clear hput
            have hput := Lib.hid (Ow.put ho hOl t htT (O[b] + l[b]))
            have ct := o2.nat hko
            rw [Hkt.out] at ct
            have cb := o3.nat hjt
            rw [Hjb.out] at cb
            have cO := ho.int htO
            have cO2 := ho.int hbO
            have hf := ho.free
            have cw := Hcw.out _ hb
            clear hdn
            generalize wr.drewN nq = wr at *
            go_wp2
            go_still_tail 21, (by kernel_rfl)
            change wpList _ _ _ _ _ wr.drew
            go_wp2
            refine ⟨⟨j + 1, by omega, by go_num, by rw [S.out]; exact hbd2.out, ?_, (o2.setOther (by simp [Value.ownBlock]; omega) _).below (Hdr.out _), (o3.setOther (by simp [Value.ownBlock]; omega) _).below (Hdr.out _), (D.other (by simp; omega) _).below (Hdr.out _), (hb.setCell (by simp; omega) _).drew⟩, by simp [intOf]; omega⟩
            rw [S.out, hS.out, hmax.out]
            have := hput.out.1
            simp only [intE, Nat.mul_one] at this
            exact this.below (Hdr.out _)
          · have hmax := Lib.hid (show max O[t] (O[b] + l[b]) = O[t] by omega)
            have hdec : decide (O[t] < O[b] + l[b]) = false := by simpa using hgt
            go_wp2
            go_quiet (fail)
            go_wp2
            have hdn : Below wr.heap.size wr (wr.drewN nq) := bdrewN (Below.refl _ _) _
            refine ⟨⟨j + 1, by omega, by go_num, by rw [S.out]; exact hbd2.out, ?_, o2.below hdn, o3.below hdn, D.below hdn, bnext hb hdn⟩, by simp [intOf]; omega⟩
            rw [S.out, hS.out, hmax.out, List.set_getElem_self]
            exact ho.below hdn
        · have hjI : ¬ (j : Int) < (B.length : Int) := by omega
          have hj' : j = B.length := by omega
          subst hj'
          rw [List.take_length] at ho hbj
          go_wp2
          exact ⟨⟨k + 1, by omega, by go_num, by rw [S0.out]; exact hbj.out.more (by omega), by rw [S0.out]; exact ho, o2, D, hb⟩, by simp [intOf]; omega⟩
    · have hltI : ¬ (k : Int) < (T : Int) := by omega
      have hk' : k = T := by omega
      have hbF := hb
      subst hk'
      rw [List.take_of_length_le (by rw [HO2.out]; exact Nat.le_refl _)] at ho
      go_wp2
      go_ret
      exact ⟨_, rfl, by rw [H.out]; exact ho.more (by omega), hbF⟩

theorem earliestOf_len (p : Plan) (l : List Int) : (earliestOf p l).length ≤ 12 := by
  unfold earliestOf
  split
  · rename_i hf
    have := manyOk_tasks (planFault_zero.1 (weightsOk_all hf).1).1
    rw [earL_len]
    omega
  · simp
end Go.Proofs.Ytnaicippgocdfaa
end
