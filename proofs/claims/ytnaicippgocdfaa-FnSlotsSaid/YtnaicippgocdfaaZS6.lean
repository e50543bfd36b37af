/-
  What the handing out comes to: its end, its work, its idle time: plain facts. The small helpers of the laws: lists and plans that are the same, a number in a list, ones. SlotsFor of both. Written by program (sf.py). Plain facts for the law on weights: the slack, what is tight; a drawn plan fits its weights. A plan with weights that is drawn twice, and what is kept of it. Plain facts for the law on slots: the end, the idle time. The law FnSlots: its walk, out of the contracts of what it calls.
-/
import Derived.Test.YtnaicippgocdfaaZS5
section
namespace Go.Proofs.Ytnaicippgocdfaa
open Go.RowKit
set_option linter.unusedVariables false

theorem sum_map_set (f : Int → Int) : ∀ (L : List Int) (k : Nat) (x : Int), k < L.length → ((L.set k x).map f).sum = (L.map f).sum - f (L.getD k 0) + f x
  | [], k, x, h => absurd h (by simp)
  | y :: L, 0, x, _ => by simp; omega
  | y :: L, k + 1, x, h => by
    have := sum_map_set f L k x (by simpa using h)
    simp only [List.set_cons_succ, List.map_cons, List.sum_cons, List.getD_cons_succ]
    omega
theorem sum_map_le {f g : Int → Int} : ∀ {L : List Int}, (∀ x ∈ L, f x ≤ g x) → (L.map f).sum ≤ (L.map g).sum
  | [], _ => Int.le_refl _
  | y :: L, h => by
    have := sum_map_le (L := L) fun x hx => h x (List.mem_cons_of_mem _ hx)
    have := h y List.mem_cons_self
    simp only [List.map_cons, List.sum_cons]
    omega
theorem sum_map_gap {f g : Int → Int} {d : Int} : ∀ {L : List Int} {y : Int}, (∀ x ∈ L, f x ≤ g x) → y ∈ L → f y + d ≤ g y → (L.map f).sum + d ≤ (L.map g).sum
  | x :: L, y, h, hy, hd => by
    simp only [List.map_cons, List.sum_cons]
    have h0 := h x List.mem_cons_self
    rcases List.mem_cons.1 hy with rfl | hy
    · have := sum_map_le (L := L) fun x hx => h x (List.mem_cons_of_mem _ hx)
      omega
    · have := sum_map_gap (L := L) (fun x hx => h x (List.mem_cons_of_mem _ hx)) hy hd
      omega
theorem sum_map_all {f g : Int → Int} {d : Int} : ∀ {L : List Int}, (∀ x ∈ L, f x + d ≤ g x) → (L.map f).sum + L.length * d ≤ (L.map g).sum
  | [], _ => by simp
  | y :: L, h => by
    have h1 := sum_map_all (L := L) fun x hx => h x (List.mem_cons_of_mem _ hx)
    have h2 := h y List.mem_cons_self
    simp only [List.map_cons, List.sum_cons, List.length_cons]
    have : (((L.length + 1 : Nat) : Int)) * d = (L.length : Int) * d + d := by rw [Int.natCast_add, Int.add_mul]; simp
    omega
theorem sum_le_all {c : Int} : ∀ {L : List Int}, (∀ x ∈ L, x ≤ c) → L.sum ≤ L.length * c
  | [], _ => by simp
  | y :: L, h => by
    have h1 := sum_le_all (L := L) fun x hx => h x (List.mem_cons_of_mem _ hx)
    have h2 := h y List.mem_cons_self
    simp only [List.sum_cons, List.length_cons]
    have : (((L.length + 1 : Nat) : Int)) * c = (L.length : Int) * c + c := by rw [Int.natCast_add, Int.add_mul]; simp
    omega

def left (now b : Int) : Int := max 0 (b - now)
def spent (out : List Slot) : Int := (out.map fun x => x.to - x.fr).sum
theorem spent_snoc (out : List Slot) (x : Slot) : spent (out ++ [x]) = spent out + (x.to - x.fr) := by simp [spent]

section
variable {es : List (Nat × Nat)} {T : Nat} {l E D : List Int} {L : Int} {m : Nat} {now : Int} {st : Sst}

/-- how the time was used, with the time q in which some worker was idle -/
structure Used (es : List (Nat × Nat)) (T : Nat) (l D : List Int) (L : Int) (m : Nat) (now : Int) (st : Sst) (q : Int) : Prop where
  q0 : 0 ≤ q
  qL : q ≤ L
  use : m * now ≤ spent st.out - (st.busy.map (left now)).sum + (m - 1) * q
  rest : ∀ t, t < T → st.ends.getD t 0 < 0 → q ≤ D.getD t 0
  work : ∀ t, t < T → now < st.ends.getD t 0 → q + (st.ends.getD t 0 - now) ≤ D.getD t 0 + l.getD t 0
  all : spent st.out ≤ st.busy.sum
  who : ∀ b ∈ st.busy, b = 0 ∨ ∃ x ∈ st.out, x.to = b

theorem Used.take (ho : SOk es T l m) (h : SInv es T l m now st) {q : Int} (hu : Used es T l D L m now st q) {k t : Nat} (hk : k < m) (hb : ¬ now < st.busy.getD k 0) (hn : nextT es T st.ends now = some t) : Used es T l D L m now (sTake l now st k t) q := by
  obtain ⟨htT, hm⟩ := nextT_some hn
  obtain ⟨h0, hpre⟩ := (mayStart_iff ho.lt1).1 hm
  have hw := ho.w htT
  have hbk := (h.busyL k hk).1
  have hE : ∀ s, (sTake l now st k t).ends.getD s 0 = if t = s then now + l.getD t 0 else st.ends.getD s 0 := fun s => setD _ _ _ _ _ (by rw [h.le]; exact htT)
  have hS : spent (sTake l now st k t).out = spent st.out + l.getD t 0 := by
    show spent (st.out ++ _) = _
    rw [spent_snoc]
    simp only
    omega
  have hR := sum_map_set (left now) st.busy k (now + l.getD t 0) (by rw [h.lb]; exact hk)
  have hRi := sum_map_set id st.busy k (now + l.getD t 0) (by rw [h.lb]; exact hk)
  simp only [List.map_id, id] at hRi
  have e1 : left now (st.busy.getD k 0) = 0 := by unfold left; omega
  have e2 : left now (now + l.getD t 0) = l.getD t 0 := by unfold left; omega
  rw [e1, e2] at hR
  have hu1 := hu.use
  have hu2 := hu.all
  refine ⟨hu.q0, hu.qL, ?_, ?_, ?_, ?_, ?_⟩
  · rw [hS]
    show _ ≤ _ - ((st.busy.set k (now + l.getD t 0)).map (left now)).sum + _
    rw [hR]
    omega
  · intro s hs hlt
    rw [hE] at hlt
    split at hlt
    · omega
    · exact hu.rest s hs hlt
  · intro s hs hlt
    rw [hE] at hlt ⊢
    split
    · rename_i e
      subst e
      have := hu.rest t htT h0
      omega
    · rename_i e
      rw [if_neg e] at hlt
      exact hu.work s hs hlt
  · rw [hS]
    show _ ≤ (st.busy.set k (now + l.getD t 0)).sum
    rw [hRi]
    omega
  · intro b hb'
    rcases List.mem_or_eq_of_mem_set hb' with hb' | rfl
    · rcases hu.who b hb' with h1 | ⟨x, hx, h1⟩
      · exact .inl h1
      · exact .inr ⟨x, List.mem_append.2 (.inl hx), h1⟩
    · exact .inr ⟨_, List.mem_append.2 (.inr (List.mem_singleton.2 rfl)), rfl⟩
theorem Used.part (ho : SOk es T l m) (h : SInv es T l m now st) {q : Int} (hu : Used es T l D L m now st q) : ∀ k, k ≤ m → Used es T l D L m now (sPart es T l now st k) q
  | 0, _ => hu
  | k + 1, hk => by
    have ih := Used.part ho h hu k (by omega)
    have hi := h.part ho k (by omega)
    show Used es T l D L m now (sStep es T l now (sPart es T l now st k) k) q
    by_cases hb : now < (sPart es T l now st k).busy.getD k 0
    · rw [sStep_busy hb]; exact ih
    · cases hn : nextT es T (sPart es T l now st k).ends now with
      | none => rw [sStep_none hn]; exact ih
      | some t => rw [sStep_some hb hn]; exact ih.take ho hi (by omega) hb hn

/-- behind a pass all workers work, or nothing may be taken -/
theorem part_full (ho : SOk es T l m) (h : SInv es T l m now st) : ∀ k, k ≤ m → (∀ i, i < k → now < (sPart es T l now st k).busy.getD i 0) ∨ nextT es T (sPart es T l now st k).ends now = none
  | 0, _ => .inl fun i hi => absurd hi (by omega)
  | k + 1, hk => by
    have hi := h.part ho k (by omega)
    show (∀ i, i < k + 1 → now < (sStep es T l now (sPart es T l now st k) k).busy.getD i 0) ∨ nextT es T (sStep es T l now (sPart es T l now st k) k).ends now = none
    cases hn : nextT es T (sPart es T l now st k).ends now with
    | none => rw [sStep_none hn]; exact .inr hn
    | some t =>
      rcases part_full ho h k (by omega) with hf | hf
      · refine .inl fun i hik => ?_
        by_cases e : i = k
        · subst e
          by_cases hb : now < (sPart es T l now st i).busy.getD i 0
          · rw [sStep_busy hb]; exact hb
          · rw [sStep_some hb hn]
            have hw := ho.w (nextT_some hn).1
            show now < ((sPart es T l now st i).busy.set i (now + l.getD t 0)).getD i 0
            rw [setD _ _ _ _ _ (by rw [hi.lb]; omega), if_pos rfl]
            omega
        · exact sStep_keeps ho hi (by omega) (hf i (by omega))
      · rw [hf] at hn; cases hn

/-- what may not be taken waits for something that is being done -/
theorem waits_for (ho : SOk es T l m) (hD : ∀ e ∈ es, D.getD e.1 0 + l.getD e.1 0 ≤ D.getD e.2 0) (hn : nextT es T st.ends now = none) :
    ∀ (j : Nat) (h : j < (orderL es T T).length), st.ends.getD (orderL es T T)[j] 0 < 0 → ∃ t, t < T ∧ now < st.ends.getD t 0 ∧ D.getD t 0 + l.getD t 0 ≤ D.getD (orderL es T T)[j] 0 := by
  have hord := orderL_inv ho.lt1 ho.ac T (Nat.le_refl _)
  intro j
  induction j using Nat.strongRecOn with
  | _ j ih =>
    intro h hlt
    have hjT := hord.lt _ (List.getElem_mem h)
    unfold nextT at hn
    rw [List.find?_eq_none] at hn
    have h1 := hn _ (List.mem_range.2 hjT)
    rw [mayStart_iff ho.lt1] at h1
    have h2 : ¬ ∀ s, (s, (orderL es T T)[j]) ∈ es → 0 ≤ st.ends.getD s 0 ∧ st.ends.getD s 0 ≤ now := fun hh => h1 ⟨hlt, hh⟩
    obtain ⟨s, h3⟩ := Classical.not_forall.1 h2
    obtain ⟨hs, h4⟩ := Classical.not_imp.1 h3
    have hd := hD _ hs
    simp only at hd
    by_cases h5 : now < st.ends.getD s 0
    · exact ⟨s, ho.lt1 _ hs, h5, hd⟩
    · have h6 : st.ends.getD s 0 < 0 := by omega
      obtain ⟨k, hk, hks⟩ := List.mem_take_iff_getElem.1 (hord.closed j h s hs)
      subst hks
      obtain ⟨t, a1, a2, a3⟩ := ih k (by omega) (by omega) h6
      have hw := ho.w (ho.lt1 _ hs)
      simp only at hw
      exact ⟨t, a1, a2, by omega⟩

theorem Used.round (ho : SOk es T l m) (hD : ∀ e ∈ es, D.getD e.1 0 + l.getD e.1 0 ≤ D.getD e.2 0) (hL : ∀ t, t < T → D.getD t 0 + l.getD t 0 ≤ L) (h : SInv es T l m now st) {q : Int} (hu : Used es T l D L m now st q) (hlt : st.out.length < T) :
    ∃ q', Used es T l D L m (nextI now (sPart es T l now st m).busy) (sPart es T l now st m) q' := by
  have hp := h.part ho m (Nat.le_refl _)
  have hup := hu.part ho h m (Nat.le_refl _)
  have hw := pass_works ho h hlt
  obtain ⟨n1, n2, n3⟩ := (hp.next hw).1
  have hfull := part_full ho h m (Nat.le_refl _)
  generalize sPart es T l now st m = s at *
  generalize nextI now s.busy = r at *
  have hm1 := ho.m1
  have hm8 := ho.m8
  have hend : ∀ t, t < T → now < s.ends.getD t 0 → r ≤ s.ends.getD t 0 := by
    intro t ht hlt
    obtain ⟨k, hk1, hk2⟩ := hp.e2b t ht hlt
    rw [← hk2]
    exact n3 _ (getD_mem (by rw [hp.lb]; exact hk1) 0) (by omega)
  have hq0 := hup.q0
  have hqL := hup.qL
  have hus := hup.use
  by_cases hall : ∀ i, i < m → now < s.busy.getD i 0
  · refine ⟨q, hq0, hqL, ?_, hup.rest, ?_, hup.all, hup.who⟩
    · have h1 := sum_map_all (f := left r) (g := left now) (d := r - now) (L := s.busy) fun x hx => by
        obtain ⟨k, hk1, hk2⟩ := mem_getD hx
        have h2 := hall k (by rw [← hp.lb]; exact hk1)
        have h3 := n3 x hx (by omega)
        unfold left
        omega
      rw [hp.lb] at h1
      have h2 : (m : Int) * r = m * now + m * (r - now) := by rw [← Int.mul_add]; congr 1; omega
      omega
    · intro t ht hlt
      have := hup.work t ht (by omega)
      omega
  · rcases hfull with hfull | hfull
    · exact absurd hfull hall
    obtain ⟨i, hi1, hi2⟩ := hw
    obtain ⟨t0, ht0, he0⟩ := hp.b2e i hi1 hi2
    have hwk0 := hup.work t0 ht0 (by omega)
    have hd0 := hend t0 ht0 (by omega)
    have hL0 := hL t0 ht0
    have hord := orderL_inv ho.lt1 ho.ac T (Nat.le_refl _)
    refine ⟨q + (r - now), by omega, by omega, ?_, ?_, ?_, hup.all, hup.who⟩
    · have h1 := sum_map_gap (f := left r) (g := left now) (d := r - now) (L := s.busy) (y := s.busy.getD i 0) (fun x _ => by unfold left; omega) (getD_mem (by rw [hp.lb]; exact hi1) 0) (by
        have := n3 _ (getD_mem (L := s.busy) (i := i) (by rw [hp.lb]; exact hi1) 0) hi2
        unfold left
        omega)
      have h2 : (m : Int) * r = m * now + m * (r - now) := by rw [← Int.mul_add]; congr 1; omega
      have h3 : ((m : Int) - 1) * (q + (r - now)) = (m - 1) * q + (m * (r - now) - (r - now)) := by rw [Int.mul_add, Int.sub_mul (m : Int) 1 (r - now), Int.one_mul]
      omega
    · intro u hu1 hu2
      obtain ⟨j, hj, rfl⟩ := List.getElem_of_mem (order_all hord hu1)
      obtain ⟨t, a1, a2, a3⟩ := waits_for ho hD hfull j hj hu2
      have h1 := hup.work t a1 a2
      have h2 := hend t a1 a2
      omega
    · intro t ht hlt
      have := hup.work t ht (by omega)
      omega

theorem sGo_ends (ho : SOk es T l m) (G : Int → Sst → Prop) (hG : ∀ now st, SInv es T l m now st → G now st → st.out.length < T → G (nextI now (sPart es T l now st m).busy) (sPart es T l now st m)) :
    ∀ (f : Nat) (now : Int) (st : Sst), SInv es T l m now st → G now st → 12000 - now < f → ∃ now' st', SInv es T l m now' st' ∧ G now' st' ∧ T ≤ st'.out.length ∧ sGo es T l m f now st = st'.out
  | 0, now, st, h, hg, hf => by
    have h1 := h.nowL
    have h2 := h.short
    have h3 := ho.T12
    omega
  | f + 1, now, st, h, hg, hf => by
    by_cases hlt : st.out.length < T
    · obtain ⟨r1, r2, r3⟩ := h.round ho hlt
      rw [sGo_more hlt]
      exact sGo_ends ho G hG f _ _ r1 (hG now st h hg hlt) (by omega)
    · exact ⟨now, st, h, hg, by omega, sGo_done (by omega)⟩

def schedL (es : List (Nat × Nat)) (T : Nat) (l : List Int) (m : Nat) : List Slot := sGo es T l m 12001 0 (sStart T m)

theorem Used.start (ho : SOk es T l m) (hD : ∀ t, t < T → 0 ≤ D.getD t 0) (hL : 0 ≤ L) : Used es T l D L m 0 (sStart T m) 0 := by
  refine ⟨Int.le_refl _, hL, ?_, fun t ht _ => hD t ht, ?_, ?_, ?_⟩
  · have : ((List.replicate m (0 : Int)).map (left 0)).sum = 0 := by
      rw [List.map_replicate]
      have : left 0 0 = 0 := by simp [left]
      rw [this]
      simp
    show (m : Int) * 0 ≤ spent [] - ((List.replicate m (0 : Int)).map (left 0)).sum + _
    rw [this]
    simp [spent]
  · intro t ht h
    have := (SInv.start ho).endsL t ht
    have h2 : (sStart T m).out.length = 0 := rfl
    rw [h2] at this
    omega
  · show spent [] ≤ (List.replicate m (0 : Int)).sum
    simp [spent]
  · intro b hb
    exact .inl (List.eq_of_mem_replicate hb)

/-- what the handing out comes to -/
structure Sched (es : List (Nat × Nat)) (T : Nat) (l : List Int) (m : Nat) (s : List Slot) : Prop where
  len : s.length = T
  fit : slsOk T l m s s.length
  ahead : ∀ e ∈ es, ∀ y ∈ s, y.task = (e.2 : Int) → ∃ x ∈ s, x.task = (e.1 : Int) ∧ x.to ≤ y.fr
  late : ∀ x ∈ s, 0 ≤ x.fr ∧ x.to ≤ 12000
theorem sched_is (ho : SOk es T l m) : Sched es T l m (schedL es T l m) := by
  obtain ⟨now, st, h, _, hT, he⟩ := sGo_ends ho (fun _ _ => True) (fun _ _ _ _ _ => trivial) 12001 0 (sStart T m) (SInv.start ho) trivial (by omega)
  unfold schedL
  rw [he]
  have hs := h.short
  refine ⟨by omega, h.fit, h.ahead, fun x hx => ?_⟩
  have h1 := h.parts hx
  have h2 := h.ended x hx
  have h3 := h.endsL x.task.toNat (by omega)
  have h4 := ho.T12
  omega

theorem endOf_max : ∀ (s : List Slot), (∀ x ∈ s, x.to ≤ endOf s) ∧ (s ≠ [] → ∃ x ∈ s, x.to = endOf s) := by
  intro s
  suffices h : ∀ n (s : List Slot), s.length = n → (∀ x ∈ s, x.to ≤ endOf s) ∧ (s ≠ [] → ∃ x ∈ s, x.to = endOf s) from h _ s rfl
  intro n
  induction n with
  | zero =>
    intro s hs
    have : s = [] := List.eq_nil_of_length_eq_zero hs
    subst this
    exact ⟨fun x hx => absurd hx (by simp), fun h => absurd rfl h⟩
  | succ n ih =>
    intro s hs
    have hne : s ≠ [] := by rintro rfl; simp at hs
    obtain ⟨r, y, rfl⟩ : ∃ r y, s = r ++ [y] := ⟨_, _, (List.dropLast_concat_getLast hne).symm⟩
    obtain ⟨a1, a2⟩ := ih r (by simpa using hs)
    rw [endOf_snoc]
    by_cases hr : r = []
    · subst hr
      rw [if_pos rfl]
      simp
    · rw [if_neg hr]
      obtain ⟨z, hz, hze⟩ := a2 hr
      refine ⟨?_, fun _ => ?_⟩
      · intro x hx
        rcases List.mem_append.1 hx with hx | hx
        · have := a1 x hx
          split <;> omega
        · rw [List.mem_singleton.1 hx]
          split <;> omega
      · split
        · exact ⟨y, by simp, rfl⟩
        · exact ⟨z, by simp [hz], hze⟩

theorem Sched.spent (ho : SOk es T l m) {s : List Slot} (h : Sched es T l m s) : Go.Proofs.Ytnaicippgocdfaa.spent s = l.sum := by
  have hp : ∀ x ∈ s, (0 ≤ x.task ∧ x.task < T) ∧ x.to = x.fr + l.getD x.task.toNat 0 := fun x hx => by
    obtain ⟨j, hj, rfl⟩ := List.getElem_of_mem hx
    have := slotOk1_parts (h.fit j hj hj)
    exact ⟨by omega, this.2.2.2.1⟩
  have hnd : (s.map fun x => x.task.toNat).Nodup := by
    rw [List.nodup_iff_pairwise_ne, List.pairwise_map, List.pairwise_iff_getElem]
    intro i j hi hj hij he
    have h2 := (slotOk1_parts (h.fit j hj hj)).2.1 s[i] (List.mem_take_iff_getElem.2 ⟨i, by omega, rfl⟩)
    have h3 := hp _ (List.getElem_mem hi)
    have h4 := hp _ (List.getElem_mem hj)
    exact h2 (by omega)
  have hperm : (s.map fun x => x.task.toNat).Perm (List.range T) := by
    refine (List.perm_ext_iff_of_nodup hnd List.nodup_range).2 fun t => ?_
    constructor
    · intro ht
      obtain ⟨x, hx, rfl⟩ := List.mem_map.1 ht
      have := hp x hx
      exact List.mem_range.2 (by omega)
    · intro ht
      obtain ⟨x, hx, hxt⟩ := all_met (T := T) h.fit (by rw [h.len]) (t : Int) (by omega) (by have := List.mem_range.1 ht; omega)
      exact List.mem_map.2 ⟨x, hx, by omega⟩
  have h1 := perm_sum (hperm.map fun t => l.getD t 0)
  rw [← ho.len, sum_range, List.map_map] at h1
  rw [← h1]
  unfold Go.Proofs.Ytnaicippgocdfaa.spent
  congr 1
  refine List.map_congr_left fun x hx => ?_
  have := hp x hx
  simp only [Function.comp]
  omega

/-- the end of the handing out: not ahead of the longest way, not ahead of the work shared out, and not far behind them -/
theorem sched_end {p : Plan} (hf : weightsOk p l = true) (ho : SOk (esOf p) p.tasks.toNat l m) :
    longestOf p l ≤ endOf (schedL (esOf p) p.tasks.toNat l m) ∧ l.sum ≤ m * endOf (schedL (esOf p) p.tasks.toNat l m) ∧ m * endOf (schedL (esOf p) p.tasks.toNat l m) ≤ l.sum + (m - 1) * longestOf p l := by
  have ht := times_of hf
  have hs := sched_is ho
  have hsp := hs.spent ho
  have hT1 := manyOk_tasks (planFault_zero.1 (weightsOk_all hf).1).1
  obtain ⟨now, st, h, ⟨q, hu⟩, hT, he⟩ := sGo_ends ho (fun now st => ∃ q, Used (esOf p) p.tasks.toNat l (latestOf p l) (longestOf p l) m now st q) (fun now st hi ⟨q, hu⟩ hlt => hu.round ho ht.dle ht.dlong hi hlt) 12001 0 (sStart p.tasks.toNat m) (SInv.start ho)
    ⟨0, Used.start ho (fun t h => by have := ht.ed t h; have := ht.enn t; omega) (longestOf_bd hf).1⟩ (by omega)
  have hse : schedL (esOf p) p.tasks.toNat l m = st.out := he
  rw [hse] at hs hsp ⊢
  obtain ⟨e1, e2⟩ := endOf_max st.out
  obtain ⟨z, hz, hze⟩ := e2 (by intro h0; rw [h0] at hT; simp at hT; omega)
  have hpz := h.parts hz
  have hz2 := h.ended z hz
  have hwz := ho.w (t := z.task.toNat) (by omega)
  refine ⟨?_, ?_, ?_⟩
  · have key : ∀ j (hj : j < (orderOf p).length), ∀ y ∈ st.out, y.task = ((orderOf p)[j] : Int) → (earliestOf p l).getD (orderOf p)[j] 0 ≤ y.fr := by
      have hord := orderOf_inv (weightsOk_all hf).1
      intro j
      induction j using Nat.strongRecOn with
      | _ j ih =>
        intro hj y hy hyt
        have hjT := hord.lt _ (List.getElem_mem hj)
        rcases ht.eeq _ hjT with h0 | ⟨a, ha, h0⟩
        · have := h.parts hy
          omega
        · obtain ⟨x, hx, hxa, hxy⟩ := h.ahead _ ha y hy hyt
          obtain ⟨k, hk, hka⟩ := List.mem_take_iff_getElem.1 (hord.closed j hj a ha)
          subst hka
          have h1 := ih k (by omega) (by omega) x hx hxa
          have h2 := (h.parts hx).2.2.1
          simp only at hxa
          rw [hxa, Int.toNat_natCast] at h2
          omega
    obtain ⟨t, htT, htm⟩ := ht.emax
    obtain ⟨j, hj, rfl⟩ := List.getElem_of_mem (order_all (orderOf_inv (weightsOk_all hf).1) htT)
    obtain ⟨y, hy, hyt⟩ := all_met (T := (p.tasks.toNat : Int)) h.fit (by rw [hs.len]) ((orderOf p)[j] : Int) (by omega) (by omega)
    have h1 := key j hj y hy hyt
    have h2 := (h.parts hy).2.2.1
    rw [hyt, Int.toNat_natCast] at h2
    have h3 := e1 y hy
    omega
  · rw [← hsp]
    have h1 := sum_le_all (L := st.busy) (c := endOf st.out) fun b hb => by
      rcases hu.who b hb with rfl | ⟨x, hx, rfl⟩
      · omega
      · exact e1 x hx
    rw [h.lb] at h1
    have h2 := hu.all
    omega
  · rw [← hsp]
    have hus := hu.use
    have hqL := hu.qL
    have hm1 := ho.m1
    by_cases hlt : now < endOf st.out
    · obtain ⟨k, hk1, hk2⟩ := h.e2b z.task.toNat (by omega) (by omega)
      have h1 := sum_map_gap (f := fun _ => 0) (g := left now) (d := endOf st.out - now) (L := st.busy) (y := st.busy.getD k 0) (fun x _ => by unfold left; omega) (getD_mem (by rw [h.lb]; exact hk1) 0) (by unfold left; omega)
      have h0 : (st.busy.map fun _ => (0 : Int)).sum = 0 := by
        rw [List.map_const']
        simp
      rw [h0] at h1
      have h2 := hu.work z.task.toNat (by omega) (by omega)
      have h3 := ht.dlong z.task.toNat (by omega)
      have h4 : (m : Int) * endOf st.out = m * now + m * (endOf st.out - now) := by rw [← Int.mul_add]; congr 1; omega
      have h5 : ((m : Int) - 1) * (q + (endOf st.out - now)) ≤ (m - 1) * longestOf p l := Int.mul_le_mul_of_nonneg_left (by omega) (by omega)
      have h6 : ((m : Int) - 1) * (q + (endOf st.out - now)) = (m - 1) * q + (m * (endOf st.out - now) - (endOf st.out - now)) := by rw [Int.mul_add, Int.sub_mul (m : Int) 1 (endOf st.out - now), Int.one_mul]
      omega
    · have h0 : 0 ≤ (st.busy.map (left now)).sum := by
        have := sum_map_le (f := fun _ => 0) (g := left now) (L := st.busy) (fun x _ => by unfold left; omega)
        rw [List.map_const'] at this
        simpa using this
      have h1 : (m : Int) * endOf st.out ≤ m * now := Int.mul_le_mul_of_nonneg_left (by omega) (by omega)
      have h2 : ((m : Int) - 1) * q ≤ (m - 1) * longestOf p l := Int.mul_le_mul_of_nonneg_left hqL (by omega)
      omega
end

/-- the slots that the program hands out -/
noncomputable def schedOf (p : Plan) (l : List Int) (many : Int) : List Slot := if weightsOk p l = true ∧ inB many 1 8 = true then schedL (esOf p) p.tasks.toNat l many.toNat else []
theorem sOk_of {p : Plan} {l : List Int} {many : Int} (hf : weightsOk p l = true) (hm : inB many 1 8 = true) : SOk (esOf p) p.tasks.toNat l many.toNat := by
  obtain ⟨g1, g2, g3⟩ := weightsOk_all hf
  obtain ⟨q1, q2, q3, q4⟩ := planFault_zero.1 g1
  have hT := manyOk_tasks q1
  obtain ⟨h1, h2⟩ := esOf_lt q2
  have := inB_iff.1 hm
  exact ⟨h1, h2, plan_ac g1, by omega, by omega, g3, by omega, by omega⟩
theorem taskSlot_of {T : Int} {l : List Int} {many : Int} {s : List Slot} (h : slsOk T l many s s.length) {x : Slot} (hx : x ∈ s) : taskSlot s x.task = x := by
  obtain ⟨j, hj, rfl⟩ := List.getElem_of_mem hx
  unfold taskSlot
  have : s.find? (fun y => y.task == s[j].task) = some s[j] := by
    rw [List.find?_eq_some_iff_getElem]
    refine ⟨by simp, j, hj, rfl, fun i hi => ?_⟩
    have := (slotOk1_parts (h j hj hj)).2.1 s[i] (List.mem_take_iff_getElem.2 ⟨i, by omega, rfl⟩)
    simpa using this
  rw [this]
  rfl
theorem sched_fits {p : Plan} {l : List Int} {many : Int} (hf : weightsOk p l = true) (hm : inB many 1 8 = true) : slotsOk p l many (schedOf p l many) = true := by
  have ho := sOk_of hf hm
  have hs := sched_is ho
  have hT := manyOk_tasks (planFault_zero.1 (weightsOk_all hf).1).1
  have hm' := inB_iff.1 hm
  have he : schedOf p l many = schedL (esOf p) p.tasks.toNat l many.toNat := by unfold schedOf; rw [if_pos ⟨hf, hm⟩]
  rw [slotsOk_iff, he]
  have e1 : ((p.tasks.toNat : Nat) : Int) = p.tasks := by omega
  have e2 : ((many.toNat : Nat) : Int) = many := by omega
  have hfit := hs.fit
  rw [e1, e2] at hfit
  refine ⟨hf, hm, by rw [hs.len]; omega, hfit, fun j hj _ => ?_⟩
  have hin := edgesIn_get (planFault_zero.1 (weightsOk_all hf).1).2.1 hj
  have hmem : (p.edges[j].fr.toNat, p.edges[j].to.toNat) ∈ esOf p := by
    simp only [esOf, esL, List.mem_map]
    exact ⟨_, List.getElem_mem hj, rfl⟩
  obtain ⟨y, hy, hyt⟩ := all_met (T := p.tasks) hfit (by rw [hs.len]; omega) p.edges[j].to (by omega) (by omega)
  obtain ⟨x, hx, hxt, hxy⟩ := hs.ahead _ hmem y hy (by simp only; omega)
  simp only at hxt
  have h1 := taskSlot_of hfit hy
  have h2 := taskSlot_of hfit hx
  rw [hyt] at h1
  rw [show x.task = p.edges[j].fr by omega] at h2
  rw [h1, h2]
  omega
end Go.Proofs.Ytnaicippgocdfaa
end
section
namespace Go.Proofs.Ytnaicippgocdfaa
open Go.RowKit
set_option maxRecDepth 100000
set_option maxHeartbeats 2000000
set_option linter.unusedVariables false

theorem big_any (v : Value) (code : List UInt8) (w : World) (hm : code.length ≤ 9223372036854775807) (h : Rd byteE w w.heap.size v code) : Calls Try.prog 6 #[v] w fun e w' => e = .returned (.bool (decide ((1048576 : Int) < (code.length : Int)))) ∧ w = w' := by
  obtain ⟨A, c, rfl, -⟩ := id h
  go_enter Try.func6, Try.ntmps6
  go_wp2
  go_ret
  exact ⟨rfl, rfl⟩
theorem sameInts_same (v v' : Value) (l : List Int) (w : World) (hl : l.length ≤ 2000000) (h : Rd intE w w.heap.size v l) (h' : Rd intE w w.heap.size v' l) :
    Calls Try.prog 20 #[v, v'] w fun e w' => e = .returned (.bool true) ∧ Below w.heap.size w w' := by
  obtain ⟨A, c, rfl, -⟩ := id h
  obtain ⟨A', c', rfl, -⟩ := id h'
  go_enter Try.func20, Try.ntmps20
  go_wp2
  go_loopw [5] (fun i wr => ∃ k : Nat, k ≤ l.length ∧ i = .int .i64 k ∧ Below w.heap.size w wr) (fun i _ => l.length - (intOf i).toNat)
  case atStart => exact ⟨0, Nat.zero_le _, rfl, Below.refl _ _⟩
  case round =>
    obtain ⟨k, hk, rfl, hb⟩ := hrel
    by_cases hlt : k < l.length
    · obtain ⟨b, o, rfl, hbb, c0⟩ := (h.below hb).int hlt
      obtain ⟨b', o', rfl, hbb', d0⟩ := (h'.below hb).int hlt
      have i1 : (k : Int) < (l.length : Int) := by omega
      go_wp2
      go_quiet (fail)
      go_wp2
      exact ⟨⟨k + 1, by omega, by go_num, bdrewN hb _⟩, by simp [intOf]; omega⟩
    · have i1 : ¬ (k : Int) < (l.length : Int) := by omega
      go_wp2
      go_ret
      exact ⟨rfl, hb⟩
theorem sameEdges_same (v v' : Value) (l : List Edge) (w : World) (hl : l.length ≤ 2000000) (h : Rd edgeE w w.heap.size v l) (h' : Rd edgeE w w.heap.size v' l) :
    Calls Try.prog 61 #[v, v'] w fun e w' => e = .returned (.bool true) ∧ Below w.heap.size w w' := by
  obtain ⟨A, c, rfl, -⟩ := id h
  obtain ⟨A', c', rfl, -⟩ := id h'
  go_enter Try.func61, Try.ntmps61
  go_wp2
  go_loopw [5] (fun i wr => ∃ k : Nat, k ≤ l.length ∧ i = .int .i64 k ∧ Below w.heap.size w wr) (fun i _ => l.length - (intOf i).toNat)
  case atStart => exact ⟨0, Nat.zero_le _, rfl, Below.refl _ _⟩
  case round =>
    obtain ⟨k, hk, rfl, hb⟩ := hrel
    by_cases hlt : k < l.length
    · obtain ⟨b, o, rfl, hbb, c0, c1⟩ := (h.below hb).edge hlt
      obtain ⟨b', o', rfl, hbb', d0, d1⟩ := (h'.below hb).edge hlt
      have i1 : (k : Int) < (l.length : Int) := by omega
      go_wp2
      go_quiet (fail)
      go_wp2
      exact ⟨⟨k + 1, by omega, by go_num, bdrewN hb _⟩, by simp [intOf]; omega⟩
    · have i1 : ¬ (k : Int) < (l.length : Int) := by omega
      go_wp2
      go_ret
      exact ⟨rfl, hb⟩
theorem samePlan_same (p : Plan) (ve vf : Value) (w : World) (hl : p.edges.length ≤ 2000000) (h : Rd edgeE w w.heap.size ve p.edges) (h' : Rd edgeE w w.heap.size vf p.edges) :
    Calls Try.prog 25 #[planV p ve, planV p vf] w fun e w' => e = .returned (.bool true) ∧ Below w.heap.size w w' := by
  obtain ⟨D, E, hb⟩ := twoBox_at 26 p ve p vf w
  unfold twoBox planBox at D E hb
  obtain ⟨c0, c1, c2, c3, c4, cs⟩ := D.cells
  obtain ⟨d0, d1, d2, d3, d4, ds⟩ := E.cells
  unfold planV
  go_enter Try.func25, Try.ntmps25
  go_wp2_with fail
  refine (sameEdges_same ve vf p.edges _ hl ((h.below hb).more hb.size) ((h'.below hb).more hb.size)).mono ?_
  rintro e w1 ⟨rfl, b1⟩
  go_wp2
  go_ret
  exact ⟨rfl, bnext hb b1⟩
theorem hasInt_any (v : Value) (l : List Int) (x : Int) (w : World) (hl : l.length ≤ 2000000) (h : Rd intE w w.heap.size v l) :
    Calls Try.prog 43 #[v, .int .i64 x] w fun e w' => e = .returned (.bool (decide (x ∈ l))) ∧ w = w' := by
  obtain ⟨A, c, rfl, -⟩ := id h
  go_enter Try.func43, Try.ntmps43
  go_wp2
  go_loop [5] (fun i => ∃ k : Nat, k ≤ l.length ∧ i = .int .i64 k ∧ Hid (x ∉ l.take k)) (fun i => l.length - (intOf i).toNat)
  case atStart => exact ⟨0, Nat.zero_le _, rfl, by show x ∉ l.take 0; simp⟩
  case round =>
    obtain ⟨k, hk, rfl, hno⟩ := hrel
    by_cases hlt : k < l.length
    · obtain ⟨b, o, rfl, hbb, c0⟩ := h.int hlt
      have i1 : (k : Int) < (l.length : Int) := by omega
      by_cases hx : l[k] = x
      · have S : Hid (decide (x ∈ l) = true) := decide_eq_true (by rw [← hx]; exact List.getElem_mem hlt)
        rw [hx] at c0
        clear hx
        go_wp2
        go_ret
        exact ⟨ret_bool S.out.symm, rfl⟩
      · have S : Hid (x ∉ l.take (k + 1)) := by
          show x ∉ l.take (k + 1)
          rw [take_snoc l k hlt, List.mem_append, List.mem_singleton]
          rintro (h | h)
          · exact hno.out h
          · exact hx h.symm
        have hx' : (l[k] == x) = false := beq_eq_false_iff_ne.2 hx
        clear hx
        go_wp2
        go_round
        case rel => exact ⟨k + 1, by omega, by go_num, S⟩
        case measure => simp [intOf]; omega
    · have i1 : ¬ (k : Int) < (l.length : Int) := by omega
      have hke : k = l.length := by omega
      have S : Hid (decide (x ∈ l) = false) := decide_eq_false (by have := hno.out; rw [hke, List.take_length] at this; exact this)
      clear hke hno
      go_wp2
      go_ret
      exact ⟨ret_bool S.out.symm, rfl⟩
theorem ones_any (p : Plan) (ve : Value) (w : World) (hT : 1 ≤ p.tasks ∧ p.tasks ≤ 12) :
    Calls Try.prog 28 #[planV p ve] w fun e w' => ∃ u, e = .returned u ∧ Ow intE 3 w' w.heap.size u (onesL p) ∧ Below w.heap.size w w' := by
  obtain ⟨i0, hi0, hz0, hz1, hz2⟩ := info_parts int_info
  have hb0 := planBox_below 26 p ve w
  have P0 := BoxAt.new 26 p ve w
  have s0 := planBox_size 26 p ve w
  unfold planV
  go_enter Try.func28, Try.ntmps28
  go_wp2
  have ha : Below (planBox 26 p ve w).heap.size (planBox 26 p ve w) ((planBox 26 p ve w).alloc (.cells #[] 3)) := (Below.refl _ _).alloc (Nat.le_refl _) _
  have O0 := Ow.empty intE 3 (planBox 26 p ve w) (g := w.heap.size + 1) (by rw [planBox_size])
  have P1 := P0.below ha
  have b1 := bnext hb0 ha
  have hz : ((planBox 26 p ve w).alloc (.cells #[] 3)).heap.size = w.heap.size + 2 := by simp [planBox]
  unfold planBox at O0 P1 b1 hz
  clear ha P0 hb0 s0
  generalize ((w.alloc (.cells #[.int .i64 p.prio, .int .i64 p.most, .int .i64 p.wait, .int .i64 p.tasks, ve] 26)).alloc (.cells #[] 3)) = w1 at *
  go_loopw [3, 4] (fun u i wr => ∃ k : Nat, k ≤ p.tasks.toNat ∧ i = .int .i64 k ∧ Ow intE 3 wr (w.heap.size + 1) u (List.replicate k 1) ∧ BoxAt w.heap.size p ve wr ∧ Below w.heap.size w wr ∧ w.heap.size + 2 ≤ wr.heap.size) (fun _ i _ => p.tasks.toNat - (intOf i).toNat)
  case atStart => exact ⟨0, Nat.zero_le _, rfl, O0, P1, b1, by omega⟩
  case round =>
    clear O0 P1 b1 hz
    obtain ⟨k, hk, rfl, O, P, B, hsz⟩ := hrel
    obtain ⟨p0, p1, p2, p3, p4, ps⟩ := P.cells
    by_cases hlt : k < p.tasks.toNat
    · have i1 : (k : Int) < p.tasks := by omega
      have i2 : (k : Int) < 12 := by omega
      obtain ⟨A, cap, rfl, -⟩ := id (Rd.of_own O)
      rw [List.length_replicate] at O ⊢
      have z3 : Hid ((List.replicate k (1 : Int)).length ≤ 3000000) := by show _ ≤ _; rw [List.length_replicate]; omega
      have hax : Below wr.heap.size wr (wr.alloc (.cells #[.int .i64 1] 3)) := (Below.refl _ _).alloc (Nat.le_refl _) _
      go_wp2_with (at_builtin; refine wpList_push_all _ intE (by decide) rfl (.tmp 16) (.tmp 17) rfl Try.underlying27 hi0 hz0 hz1 hz2 rfl (v := .slice A k cap) (l := List.replicate k 1) rfl (O.below hax) rfl (Rd.one intE _ _ 1 rfl rfl 1 (Nat.le_refl _) (Nat.lt_succ_self _)) z3.out (by simp) (by decide) (by simp; omega) ?_; intro v5 w5 o5 g5 f5)
      have hb5 : ∀ g, (Value.slice A k cap).ownBlock = some g → w.heap.size + 1 ≤ g := fun g hg => (O.within g hg).1
      refine ⟨⟨k + 1, by omega, by go_num, ?_, (P.below hax).far g5 (fun e => by have := hb5 _ e.symm; omega), (bnext B hax).grown g5 (by simp; omega) (fun g hg => by have := hb5 g hg; omega), by have := g5.size; simp at this; omega⟩, by simp [intOf]; omega⟩
      rw [List.replicate_succ']
      exact o5
    · have hke : k = p.tasks.toNat := by omega
      go_wp2
      go_ret
      subst hke
      exact ⟨_, rfl, O.more (by omega), B⟩
end Go.Proofs.Ytnaicippgocdfaa
end
section
namespace Go.Proofs.Ytnaicippgocdfaa
open Go.RowKit
set_option maxRecDepth 100000
set_option maxHeartbeats 4000000

theorem schedOf_no {p : Plan} {l : List Int} {many : Int} (h : ¬ (weightsOk p l = true ∧ inB many 1 8 = true)) : schedOf p l many = [] := by unfold schedOf; rw [if_neg h]
theorem schedOf_yes {p : Plan} {l : List Int} {many : Int} (h : weightsOk p l = true ∧ inB many 1 8 = true) : schedOf p l many = sGo (esOf p) p.tasks.toNat l many.toNat 12001 0 (sStart p.tasks.toNat many.toNat) := by unfold schedOf; rw [if_pos h]; rfl
theorem nextI_succ {now : Int} {L : List Int} {k : Nat} (h : k < L.length) : nextI now (L.take (k + 1)) = if now < L[k] ∧ (nextI now (L.take k) = 0 ∨ L[k] < nextI now (L.take k)) then L[k] else nextI now (L.take k) := by
  unfold nextI
  rw [take_snoc L k h, List.foldl_append]
  rfl
theorem nextS_succ {now : Int} {L : List Int} {k : Nat} (h : k < L.length) : nextS now (L.take (k + 1)) = if now < L[k] ∧ (nextS now (L.take k) < 0 ∨ L[k] < nextS now (L.take k)) then L[k] else nextS now (L.take k) := by
  unfold nextS
  rw [take_snoc L k h, List.foldl_append]
  rfl
theorem fill_zero (T : Nat) : (List.replicate T (-1 : Int)).take 0 ++ List.replicate (T - 0) 0 = List.replicate T 0 := by simp
theorem fill_next {T k : Nat} (h : k < T) : ((List.replicate T (-1 : Int)).take k ++ List.replicate (T - k) 0).set k (-1) = (List.replicate T (-1 : Int)).take (k + 1) ++ List.replicate (T - (k + 1)) 0 := by
  have := mix_set (List.replicate T (-1 : Int)) 0 k (by simpa using h)
  simpa using this
theorem ap_of {v v' : Value} {a b n : Nat} (h : v'.ownBlock = v.ownBlock ∨ v'.ownBlock = some n) (ha : v.ownBlock ≠ some a ∧ v.ownBlock ≠ some b) (h1 : a < n) (h2 : b < n) : Hid (v'.ownBlock ≠ some a ∧ v'.ownBlock ≠ some b) := by
  rcases h with h | h
  · rw [h]; exact ha
  · rw [h]
    refine ⟨fun e => ?_, fun e => ?_⟩ <;> (injection e with e; omega)
theorem put1 (w : World) (g t : Nat) (x : Int) : wSeq w g (t * 1) (intE.cells x) = w.setCell ⟨g, t, none⟩ (.int .i64 x) := by simp [wSeq, intE]
theorem Ow.put1 {E : TypeId} {w : World} {base g cap n : Nat} {l : List Int} (h : Ow intE E w base (.slice (some ⟨g, 0, none⟩) n cap) l) (hn : l.length = n) (k : Nat) (hk : k < n) (x : Int) :
    Ow intE E (w.setCell ⟨g, k, none⟩ (.int .i64 x)) base (.slice (some ⟨g, 0, none⟩) n cap) (l.set k x) := by
  have := (Ow.put h hn k hk x).1
  rw [← Go.Proofs.Ytnaicippgocdfaa.put1]
  exact this

theorem implSlotsFor_any (p : Plan) (ve v : Value) (l : List Int) (many : Int) (w : World) (hl : p.edges.length ≤ 2000000) (hl2 : l.length ≤ 2000000) (h : Rd edgeE w w.heap.size ve p.edges) (h2 : Rd intE w w.heap.size v l) :
    Calls Try.prog 8 #[planV p ve, v, .int .i64 many] w fun e w' => ∃ u, e = .returned u ∧ Ow slotE 34 w' w.heap.size u (schedOf p l many) ∧ Below w.heap.size w w' := by
  obtain ⟨A, c, rfl, -⟩ := id h2
  have hb0 := planBox_below 26 p ve w
  have D0 := BoxAt.new 26 p ve w
  cases hf : weightsOk p l
  · have H := Lib.hid (schedOf_no (p := p) (l := l) (many := many) (fun x => by rw [hf] at x; cases x.1))
    have HF := Lib.hid hf
    clear hf
    
    unfold planV
    go_enter Try.func8, Try.ntmps8
    go_wp2_with fail
    refine (implWeightsOk_any p ve (.slice A l.length c) l _ hl hl2 ((h.below hb0).more hb0.size) ((h2.below hb0).more hb0.size)).mono ?_
    rintro e w1 ⟨rfl, hb1⟩
    rw [HF.out]
    have hb := bnext hb0 hb1
    go_wp2
    go_ret
    exact ⟨_, rfl, by rw [H.out]; exact Ow.nil _ _ _ _, hb⟩
  cases hm : inB many 1 8
  · have H := Lib.hid (schedOf_no (p := p) (l := l) (many := many) (fun x => by rw [hm] at x; cases x.2))
    have HF := Lib.hid hf
    clear hf
    
    unfold planV
    go_enter Try.func8, Try.ntmps8
    go_wp2_with fail
    refine (implWeightsOk_any p ve (.slice A l.length c) l _ hl hl2 ((h.below hb0).more hb0.size) ((h2.below hb0).more hb0.size)).mono ?_
    rintro e w1 ⟨rfl, hb1⟩
    rw [HF.out]
    have hb := bnext hb0 hb1
    go_wp2_with (go_at_call 49; refine (within_any _ _ _ _).mono ?_; rintro e w' ⟨rfl, rfl⟩)
    go_ret
    exact ⟨_, rfl, by rw [H.out]; exact Ow.nil _ _ _ _, hb⟩
  have H := Lib.hid (schedOf_yes ⟨hf, hm⟩)
  have HO := Lib.hid (sOk_of hf hm)
  obtain ⟨g1, g2, g3⟩ := weightsOk_all hf
  have G := Lib.hid (planFault_zero.1 g1)
  have HP := Lib.hid g1
  obtain ⟨t1, t2⟩ := manyOk_tasks G.out.1
  obtain ⟨T, hT⟩ := Int.eq_ofNat_of_zero_le (show 0 ≤ p.tasks by omega)
  have HT := Lib.hid hT
  have HTn := Lib.hid (show p.tasks.toNat = T by omega)
  have hT12 : T ≤ 12 := by omega
  have hT1 : 1 ≤ T := by omega
  obtain ⟨m1, m2⟩ := inB_iff.1 hm
  obtain ⟨M, rfl⟩ := Int.eq_ofNat_of_zero_le (show 0 ≤ many by omega)
  rw [Int.toNat_natCast, HTn.out] at HO H
  have HF := Lib.hid hf
  have HL := Lib.hid (show l.length = T by omega)
  have HG3 := Lib.hid g3
  have HM := Lib.hid hm
  obtain ⟨j0, hj0, jz0, jz1, jz2⟩ := info_parts slot_info
  obtain ⟨i0, hi0, iz0, iz1, iz2⟩ := info_parts int_info
  have hmk : ∀ w : World, (Instr.makeSlice 27 (.int .i64 p.tasks) (.int .i64 p.tasks)).run Try.prog w = .ok (.slice (some ⟨w.heap.size, 0, none⟩) T T) (w.alloc (.cells (madeCells #[.int .i64 0] (T * 1)) 3)) := by
    intro w
    have := run_make (P := Try.prog) w 27 3 i0 _ Try.underlying27 hi0 iz0 .i64 .i64 T T (by omega) (by omega) (by rw [iz2]; omega) (by omega)
    rw [iz1] at this
    rw [hT]
    simpa [Value.cells] using this
  have hmk2 : ∀ w : World, (Instr.makeSlice 27 (.int .i64 (M : Int)) (.int .i64 (M : Int))).run Try.prog w = .ok (.slice (some ⟨w.heap.size, 0, none⟩) M M) (w.alloc (.cells (madeCells #[.int .i64 0] (M * 1)) 3)) := by
    intro w
    have := run_make (P := Try.prog) w 27 3 i0 _ Try.underlying27 hi0 iz0 .i64 .i64 M M (by omega) (by omega) (by rw [iz2]; omega) (by omega)
    rw [iz1] at this
    simpa [Value.cells] using this
  clear hf g1 g2 g3 hT
  
  unfold planV
  go_enter Try.func8, Try.ntmps8
  go_wp2_with fail
  refine (implWeightsOk_any p ve (.slice A l.length c) l _ hl hl2 ((h.below hb0).more hb0.size) ((h2.below hb0).more hb0.size)).mono ?_
  rintro e w1 ⟨rfl, hb1⟩
  rw [HF.out]
  have hb := bnext hb0 hb1
  have D := D0.below hb1
  have hw01 := D.lt
  clear hb0 hb1 D0
  obtain ⟨x0, x1, x2, x3, x4, xs⟩ := D.cells
  have c1 : Below w1.heap.size w1 (w1.alloc (.cells (madeCells #[.int .i64 0] T) 3)) := (Below.refl _ _).alloc (Nat.le_refl _) _
  have E0 := Ow.made intE 3 w1 0 T (by decide) (by simp [maxLen]; omega) (z := #[.int .i64 0]) rfl (m := T) (by simp [intE])
  rw [← fill_zero T] at E0
  have hs1 : (w1.alloc (.cells (madeCells #[.int .i64 0] T) 3)).heap.size = w1.heap.size + 1 := by simp
  have Hs1 := Lib.hid hs1
  clear hs1
  go_wp2_with (go_at_call 49; refine (within_any _ _ _ _).mono ?_; rintro e w' ⟨rfl, rfl⟩)
  have D := D.below c1
  have hb := bnext hb c1
  clear x0 x1 x2 x3 x4 xs c1 hm
  go_loopw [31] (fun i wr => ∃ k : Nat, k ≤ T ∧ i = .int .i64 k ∧ Ow intE 3 wr w1.heap.size (.slice (some ⟨w1.heap.size, 0, none⟩) T T) ((List.replicate T (-1 : Int)).take k ++ List.replicate (T - k) 0) ∧ BoxAt w.heap.size p ve wr ∧ Hid (w1.heap.size + 1 ≤ wr.heap.size) ∧ Below w.heap.size w wr) (fun i _ => T - (intOf i).toNat)
  case atStart => exact ⟨0, Nat.zero_le _, rfl, E0, D, by rw [Hs1.out]; exact Nat.le_refl _, hb⟩
  case round =>
    clear E0 D  hb
    obtain ⟨k, hk, rfl, E, D, hsz, hb⟩ := hrel
    obtain ⟨x0, x1, x2, x3, x4, xs⟩ := D.cells
    by_cases hlt : k < T
    · have hltI : (k : Int) < (T : Int) := by omega
      have hltP : (k : Int) < p.tasks := by rw [HT.out]; omega
      have hlen := Lib.hid (show ((List.replicate T (-1 : Int)).take k ++ List.replicate (T - k) 0).length = T by simp; omega)
      have cE := E.int (k := k) (by rw [hlen.out]; exact hlt)
      have hfz := E.free
      have hP := Lib.hid (E.put1 hlen.out k hlt (-1))
      rw [fill_next hlt] at hP
      have hsz2 := hsz.out
      go_wp2
      exact ⟨⟨k + 1, by omega, by go_num, hP.out, D.other (by simp; omega) _, by simpa [Hid, World.setCell] using hsz2, hb.setCell (by simp; omega) _⟩, by simp [intOf]; omega⟩
    have hltI : ¬ (k : Int) < (T : Int) := by omega
    have hltP : ¬ (k : Int) < p.tasks := by rw [HT.out]; omega
    have hk' : k = T := by omega
    have hfull : (List.replicate T (-1 : Int)).take k ++ List.replicate (T - k) 0 = List.replicate T (-1) := by rw [hk']; simp
    rw [hfull] at E
    clear hfull hk'
    obtain ⟨w2, rfl⟩ : ∃ w2 : World, w2 = wr := ⟨_, rfl⟩
    have c2 : Below w2.heap.size w2 (w2.alloc (.cells (madeCells #[.int .i64 0] M) 3)) := (Below.refl _ _).alloc (Nat.le_refl _) _
    have B0 := Ow.made intE 3 w2 0 M (by decide) (by simp [maxLen]; omega) (z := #[.int .i64 0]) rfl (m := M) (by simp [intE])
    have hs2 := Lib.hid (show (w2.alloc (.cells (madeCells #[.int .i64 0] M) 3)).heap.size = w2.heap.size + 1 by simp)
    have hgE := Lib.hid (show w1.heap.size < w2.heap.size by have := hsz.out; omega)
    go_wp2
    have D := D.below c2
    have hb := bnext hb c2
    have E0 := E.below c2
    have O0 := Ow.nil slotE 34 (w2.alloc (.cells (madeCells #[.int .i64 0] M) 3)) (w.heap.size + 1)
    have hap0 : Hid ((Value.slice none 0 0).ownBlock ≠ some w1.heap.size ∧ (Value.slice none 0 0).ownBlock ≠ some w2.heap.size) := ⟨by simp [Value.ownBlock], by simp [Value.ownBlock]⟩
    have I0 := Lib.hid (SInv.start HO.out)
    clear x0 x1 x2 x3 x4 xs c2 E hsz
    go_loopw [10, 11] (fun vo nw wr => ∃ (f : Nat) (now : Int) (st : Sst), Hid (SInv (esOf p) T l M now st) ∧ Hid (12000 - now < f) ∧ Hid (sGo (esOf p) T l M f now st = schedOf p l M) ∧ nw = .int .i64 now ∧ Ow slotE 34 wr (w.heap.size + 1) vo st.out ∧
      Ow intE 3 wr w1.heap.size (.slice (some ⟨w1.heap.size, 0, none⟩) T T) st.ends ∧ Ow intE 3 wr w2.heap.size (.slice (some ⟨w2.heap.size, 0, none⟩) M M) st.busy ∧ Hid (vo.ownBlock ≠ some w1.heap.size ∧ vo.ownBlock ≠ some w2.heap.size) ∧ BoxAt w.heap.size p ve wr ∧ Hid (w2.heap.size + 1 ≤ wr.heap.size) ∧ Below w.heap.size w wr) (fun _ nw _ => (12001 - intOf nw).toNat)
    case atStart => exact ⟨12001, 0, sStart T M, I0.out, (by simp [Hid]), H.out.symm, rfl, O0, E0, B0, hap0, D, by rw [hs2.out]; exact Nat.le_refl _, hb⟩
    case round =>
      clear O0 E0 B0 hap0 D hb I0
      obtain ⟨f, now, st, hI, hf, hgo, rfl, O, E, B, hap, D, hsz, hb⟩ := hrel
      obtain ⟨x0, x1, x2, x3, x4, xs⟩ := D.cells
      obtain ⟨Ao, co, rfl, -⟩ := id (Rd.of_own O)
      have hn0 := hI.out.now0
      by_cases hmore : st.out.length < T
      case neg =>
        have hmI : ¬ (st.out.length : Int) < p.tasks := by rw [HT.out]; omega
        have Hd := Lib.hid (sGo_done (es := esOf p) (l := l) (m := M) (now := now) (f := f) (show T ≤ st.out.length by omega))
        go_wp2
        go_ret
        exact ⟨_, rfl, by rw [← hgo.out, Hd.out]; exact O.more (by omega), hb⟩
      have hmI : (st.out.length : Int) < p.tasks := by rw [HT.out]; omega
      have hR := Lib.hid (hI.out.round HO.out hmore)
      have hpart := Lib.hid (hI.out.part HO.out)
      have hnL := Lib.hid (show now ≤ 12000 by have := hI.out.nowL; have := hI.out.short; omega)
      have hMore := Lib.hid hmore
      obtain ⟨wo, rfl⟩ : ∃ wo : World, wo = wr := ⟨_, rfl⟩
      go_wp2
      clear x0 x1 x2 x3 x4 xs
      go_loopw [10, 47] (fun vo i wr => ∃ k : Nat, k ≤ M ∧ i = .int .i64 k ∧ Ow slotE 34 wr (w.heap.size + 1) vo (sPart (esOf p) T l now st k).out ∧
        Ow intE 3 wr w1.heap.size (.slice (some ⟨w1.heap.size, 0, none⟩) T T) (sPart (esOf p) T l now st k).ends ∧ Ow intE 3 wr w2.heap.size (.slice (some ⟨w2.heap.size, 0, none⟩) M M) (sPart (esOf p) T l now st k).busy ∧ Hid (vo.ownBlock ≠ some w1.heap.size ∧ vo.ownBlock ≠ some w2.heap.size) ∧ BoxAt w.heap.size p ve wr ∧ Hid (w2.heap.size + 1 ≤ wr.heap.size) ∧ Below w.heap.size w wr) (fun _ i _ => M - (intOf i).toNat)
      case atStart => exact ⟨0, Nat.zero_le _, rfl, O, E, B, hap, D, hsz, hb⟩
      case round =>
        clear O E B hap D hsz hb
        obtain ⟨k, hk, rfl, O, E, B, hap, D, hsz, hb⟩ := hrel
        obtain ⟨x0, x1, x2, x3, x4, xs⟩ := D.cells
        have hIk := Lib.hid (hpart.out k hk)
        have hle := hIk.out.le
        have hlb := hIk.out.lb
        have Hle := Lib.hid hle
        have Hlb := Lib.hid hlb
        have hsz2 := hsz.out
        have hgE2 := hgE.out
        have sB := E.blk.2
        by_cases hlt : k < M
        · have hltI : (k : Int) < (M : Int) := by omega
          have hkM : k < (sPart (esOf p) T l now st k).busy.length := by omega
          go_wp2_with fail
          clear x0 x1 x2 x3 x4 xs hle hlb
          refine (implNext_any p ve _ (sPart (esOf p) T l now st k).ends now _ HP.out (by rw [HTn.out]; exact Hle.out) ((h.below hb).more hb.size) (Rd.of_own E)).mono ?_
          rintro e w4 ⟨rfl, b4⟩
          rw [HTn.out]
          have O := O.below b4
          have E := E.below b4
          have B := B.below b4
          have D := D.below b4
          have hb := bnext hb b4
          have hsz := Lib.hid (show w2.heap.size + 1 ≤ w4.heap.size by have := b4.size; omega)
          have hsz2 := hsz.out
          have cB := B.int hkM
          have sB := E.blk.2
          have sB2 := B.blk.2
          clear b4
          by_cases hbz : now < (sPart (esOf p) T l now st k).busy[k]
          · have hst := Lib.hid (show sPart (esOf p) T l now st (k + 1) = sPart (esOf p) T l now st k from sStep_busy (by rw [getD_at hkM]; exact hbz))
            go_wp2
            exact ⟨⟨k + 1, by omega, by go_num, by rw [hst.out]; exact O, by rw [hst.out]; exact E, by rw [hst.out]; exact B, hap, D, hsz, hb⟩, by simp [intOf]; omega⟩
          cases hn : nextT (esOf p) T (sPart (esOf p) T l now st k).ends now with
          | none =>
            have hst := Lib.hid (show sPart (esOf p) T l now st (k + 1) = sPart (esOf p) T l now st k from sStep_none hn)
            clear hn
            simp only [nextZ]
            go_wp2
            exact ⟨⟨k + 1, by omega, by go_num, by rw [hst.out]; exact O, by rw [hst.out]; exact E, by rw [hst.out]; exact B, hap, D, hsz, hb⟩, by simp [intOf]; omega⟩
          | some t =>
            simp only [nextZ]
            replace hn := Lib.hid hn
            have htT : t < T := (nextT_some hn.out).1
            have hroom := next_room HO.out hIk.out hn.out
            have hst := Lib.hid (show sPart (esOf p) T l now st (k + 1) = sTake l now (sPart (esOf p) T l now st k) k t from sStep_some (by rw [getD_at (by rw [Hlb.out]; exact hlt)]; omega) hn.out)
            have htl : t < l.length := by rw [HL.out]; exact htT
            obtain ⟨bw, ow, rfl, hbw, cw0⟩ := h2.int htl
            have cw := (hb.cell (p := ⟨bw, ow + t, none⟩) (by simpa using hbw)).trans cw0
            have Hcw := Lib.hid cw0
            clear cw0
            have htlI : (t : Int) < (l.length : Int) := by omega
            have htTI : (t : Int) < (T : Int) := by omega
            have hw := HG3.out l[t] (List.getElem_mem htl)
            have hnl := hnL.out
            have hsum : IntKind.i64.wrap (now + l[t]) = now + l[t] := IntWalk.i64_in _ (by omega)
            have Hgt := Lib.hid (getD_at htl (0 : Int))
            generalize hq : sPart (esOf p) T l now st k = s at *
            have Hq := Lib.hid hq
            clear hq
            have htE : t < s.ends.length := by rw [Hle.out]; exact htT
            have hkB : k < s.busy.length := by rw [Hlb.out]; exact hlt
            have ha : Hid (∀ w : World, Below w.heap.size w (w.alloc (.cells #[.int .i64 (t : Int), .int .i64 (k : Int), .int .i64 now, .int .i64 (now + l[t])] 34))) := fun w => (Below.refl _ _).alloc (Nat.le_refl _) _
            have hbwI : bw < w1.heap.size := by omega
            have htn : ¬ (t : Int) < 0 := by omega
            have hso := Lib.hid O.within
            clear hw
            obtain ⟨Aq, cq, rfl, -⟩ := id (Rd.of_own O)
            go_wp2_with (at_builtin; refine wpList_push_all _ slotE (by decide) rfl (.tmp 64) (.tmp 75) rfl Try.underlying30 hj0 jz0 jz1 jz2 rfl (l := s.out) rfl (O.below (ha.out _)) rfl (Rd.one slotE _ _ ⟨(t : Int), (k : Int), now, now + l[t]⟩ rfl rfl 1 (Nat.le_refl _) (Nat.lt_succ_self _)) (by omega) (by simp) (by decide) (by simp; omega) ?_; intro v5 w5 o5 g5 f5; have hb5 : Below w.heap.size w w5 := (bnext hb (ha.out _)).grown g5 (bnext hb (ha.out _)).size (fun g hg => by have := hso.out g hg; omega); have E5 := (E.below (ha.out _)).grown g5 (.inr (Ne.symm hap.out.1)); have B5 := (B.below (ha.out _)).grown g5 (.inr (Ne.symm hap.out.2)); have D5 := (D.below (ha.out _)).mark g5 hso.out (.inl (Nat.lt_succ_self _)); have z5 := g5.size; have fE5 := E5.free; have fB5 := B5.free; have cE5 := E5.int htE; have cB5 := B5.int hkB; have cw5 := (hb5.cell (p := ⟨bw, ow + t, none⟩) (by simpa using hbw)).trans Hcw.out; have hv5 := ap_of f5 hap.out (by simp; omega) (by simp; omega); have hE5 := Lib.hid E5; have hB5 := Lib.hid B5; have hD5 := Lib.hid D5; have hbH := Lib.hid hb5; have ho5 := Lib.hid o5; have hz5 := Lib.hid z5; clear E5 B5 D5 hb5 o5 f5)
            refine ⟨⟨k + 1, by omega, by go_num, ?_, ?_, ?_, hv5, (hD5.out.other (by simp; omega) _).other (by simp; omega) _, ?_, (hbH.out.setCell (by simp; omega) _).setCell (by simp; omega) _⟩, by simp [intOf]; omega⟩
            · rw [hst.out]
              show Ow _ _ _ _ _ (s.out ++ [⟨(t : Int), (k : Int), now, now + l.getD t 0⟩])
              rw [Hgt.out]
              exact (ho5.out.setOther hv5.out.1 _).setOther hv5.out.2 _
            · rw [hst.out]
              show Ow _ _ _ _ _ (s.ends.set t (now + l.getD t 0))
              rw [Hgt.out]
              exact (hE5.out.put1 Hle.out t htT _).setOther (by simp [Value.ownBlock]; omega) _
            · rw [hst.out]
              show Ow _ _ _ _ _ (s.busy.set k (now + l.getD t 0))
              rw [Hgt.out]
              exact (hB5.out.setOther (by simp [Value.ownBlock]; omega) _).put1 Hlb.out k hlt _
            · have h1 := hz5.out
              simp at h1
              simp [Hid, World.setCell]
              omega

        · have hltI : ¬ (k : Int) < (M : Int) := by omega
          have hkM : k = M := by omega
          subst hkM
          obtain ⟨f', rfl⟩ : ∃ f', f = f' + 1 := ⟨f - 1, by have := hf.out; have := hnL.out; omega⟩
          have hg2 := Lib.hid ((sGo_more hMore.out).symm.trans hgo.out)
          generalize sPart (esOf p) T l now st k = s at *
          clear hpart
          go_wp2
          clear x0 x1 x2 x3 x4 xs hle hlb
          go_loop [14, 96] (fun n i => ∃ j : Nat, j ≤ k ∧ i = .int .i64 j ∧ n = .int .i64 (nextI now (s.busy.take j))) (fun _ i => k - (intOf i).toNat)
          case atStart => exact ⟨0, Nat.zero_le _, rfl, rfl⟩
          case round =>
            obtain ⟨j, hj, rfl, rfl⟩ := hrel
            by_cases hjt : j < k
            · have hjI : (j : Int) < (k : Int) := by omega
              have hjB : j < s.busy.length := by rw [Hlb.out]; exact hjt
              have cB := B.int hjB
              have sB2 := B.blk.2
              have hs := Lib.hid (nextI_succ (now := now) hjB)
              generalize nextI now (s.busy.take j) = n at *
              generalize s.busy[j] = b at *
              by_cases c1 : now < b
              case neg =>
                rw [if_neg (fun x => c1 x.1)] at hs
                go_wp2
                exact ⟨⟨j + 1, by omega, by go_num, by rw [hs.out]⟩, by simp [intOf]; omega⟩
              by_cases c2 : n = 0
              · have c2b : (n == 0) = true := by simpa using c2
                rw [if_pos ⟨c1, .inl c2⟩] at hs
                clear c2
                go_wp2
                exact ⟨⟨j + 1, by omega, by go_num, by rw [hs.out]⟩, by simp [intOf]; omega⟩
              have c2b : (n == 0) = false := by simpa using c2
              by_cases c3 : b < n
              · rw [if_pos ⟨c1, .inr c3⟩] at hs
                clear c2
                go_wp2
                exact ⟨⟨j + 1, by omega, by go_num, by rw [hs.out]⟩, by simp [intOf]; omega⟩
              · rw [if_neg (fun x => by rcases x.2 with h | h; exact c2 h; exact c3 h)] at hs
                clear c2
                go_wp2
                exact ⟨⟨j + 1, by omega, by go_num, by rw [hs.out]⟩, by simp [intOf]; omega⟩
            · have hjI : ¬ (j : Int) < (k : Int) := by omega
              have hje := Lib.hid (show s.busy.take j = s.busy from List.take_of_length_le (by rw [Hlb.out]; omega))
              obtain ⟨r1, r2, r3⟩ := hR.out
              have hR1 := Lib.hid r1
              have hnl := hnL.out
              rw [hje.out]
              clear r1 r3
              go_wp2
              exact ⟨⟨f', _, s, hR1.out, (by have := hf.out; unfold Hid; omega), hg2.out, rfl, O, E, B, hap, D, hsz, hb⟩, by simp [intOf]; omega⟩

theorem specSlotsFor_any (p : Plan) (ve v : Value) (l : List Int) (many : Int) (w : World) (hl : p.edges.length ≤ 2000000) (hl2 : l.length ≤ 2000000) (h : Rd edgeE w w.heap.size ve p.edges) (h2 : Rd intE w w.heap.size v l) :
    Calls Try.prog 9 #[planV p ve, v, .int .i64 many] w fun e w' => ∃ u, e = .returned u ∧ Ow slotE 34 w' w.heap.size u (schedOf p l many) ∧ Below w.heap.size w w' := by
  obtain ⟨A, c, rfl, -⟩ := id h2
  have ha0 : ∀ w : World, Below w.heap.size w (w.alloc (.cells #[] 34)) := fun w => (Below.refl _ _).alloc (Nat.le_refl _) _
  have hb0 := bnext (planBox_below 26 p ve w) (ha0 _)
  have D0 := (BoxAt.new 26 p ve w).below (ha0 _)
  have O0 := Ow.empty slotE 34 (planBox 26 p ve w) (g := w.heap.size + 1) (by rw [planBox_size])
  clear ha0
  cases hf : weightsOk p l
  · have H := Lib.hid (schedOf_no (p := p) (l := l) (many := many) (fun x => by rw [hf] at x; cases x.1))
    have HF := Lib.hid hf
    clear hf
    obtain ⟨x0, x1, x2, x3, x4, xs⟩ := D0.cells
    unfold planV
    go_enter Try.func9, Try.ntmps9
    go_wp2_with fail
    clear x0 x1 x2 x3 x4 xs
    refine (specWeightsOk_any p ve (.slice A l.length c) l _ hl hl2 ((h.below hb0).more hb0.size) ((h2.below hb0).more hb0.size)).mono ?_
    rintro e w1 ⟨rfl, hb1⟩
    rw [HF.out]
    have hb := bnext hb0 hb1
    go_wp2
    go_ret
    exact ⟨_, rfl, by rw [H.out]; exact (O0.below hb1).more (by omega), hb⟩
  cases hm : inB many 1 8
  · have H := Lib.hid (schedOf_no (p := p) (l := l) (many := many) (fun x => by rw [hm] at x; cases x.2))
    have HF := Lib.hid hf
    clear hf
    obtain ⟨x0, x1, x2, x3, x4, xs⟩ := D0.cells
    unfold planV
    go_enter Try.func9, Try.ntmps9
    go_wp2_with fail
    clear x0 x1 x2 x3 x4 xs
    refine (specWeightsOk_any p ve (.slice A l.length c) l _ hl hl2 ((h.below hb0).more hb0.size) ((h2.below hb0).more hb0.size)).mono ?_
    rintro e w1 ⟨rfl, hb1⟩
    rw [HF.out]
    have hb := bnext hb0 hb1
    go_wp2_with (go_at_call 52; refine (l01In_any _ _ _ _).mono ?_; rintro e w' ⟨rfl, rfl⟩)
    go_ret
    exact ⟨_, rfl, by rw [H.out]; exact (O0.below hb1).more (by omega), hb⟩
  have H := Lib.hid (schedOf_yes ⟨hf, hm⟩)
  have HO := Lib.hid (sOk_of hf hm)
  obtain ⟨g1, g2, g3⟩ := weightsOk_all hf
  have G := Lib.hid (planFault_zero.1 g1)
  have HP := Lib.hid g1
  obtain ⟨t1, t2⟩ := manyOk_tasks G.out.1
  obtain ⟨T, hT⟩ := Int.eq_ofNat_of_zero_le (show 0 ≤ p.tasks by omega)
  have HT := Lib.hid hT
  have HTn := Lib.hid (show p.tasks.toNat = T by omega)
  have hT12 : T ≤ 12 := by omega
  have hT1 : 1 ≤ T := by omega
  obtain ⟨m1, m2⟩ := inB_iff.1 hm
  obtain ⟨M, rfl⟩ := Int.eq_ofNat_of_zero_le (show 0 ≤ many by omega)
  rw [Int.toNat_natCast, HTn.out] at HO H
  have HF := Lib.hid hf
  have HL := Lib.hid (show l.length = T by omega)
  have HG3 := Lib.hid g3
  have HM := Lib.hid hm
  obtain ⟨j0, hj0, jz0, jz1, jz2⟩ := info_parts slot_info
  obtain ⟨i0, hi0, iz0, iz1, iz2⟩ := info_parts int_info
  have hmk : ∀ w : World, (Instr.makeSlice 27 (.int .i64 p.tasks) (.int .i64 p.tasks)).run Try.prog w = .ok (.slice (some ⟨w.heap.size, 0, none⟩) T T) (w.alloc (.cells (madeCells #[.int .i64 0] (T * 1)) 3)) := by
    intro w
    have := run_make (P := Try.prog) w 27 3 i0 _ Try.underlying27 hi0 iz0 .i64 .i64 T T (by omega) (by omega) (by rw [iz2]; omega) (by omega)
    rw [iz1] at this
    rw [hT]
    simpa [Value.cells] using this
  have hmk2 : ∀ w : World, (Instr.makeSlice 27 (.int .i64 (M : Int)) (.int .i64 (M : Int))).run Try.prog w = .ok (.slice (some ⟨w.heap.size, 0, none⟩) M M) (w.alloc (.cells (madeCells #[.int .i64 0] (M * 1)) 3)) := by
    intro w
    have := run_make (P := Try.prog) w 27 3 i0 _ Try.underlying27 hi0 iz0 .i64 .i64 M M (by omega) (by omega) (by rw [iz2]; omega) (by omega)
    rw [iz1] at this
    simpa [Value.cells] using this
  clear hf g1 g2 g3 hT
  obtain ⟨x0, x1, x2, x3, x4, xs⟩ := D0.cells
  unfold planV
  go_enter Try.func9, Try.ntmps9
  go_wp2_with fail
  clear x0 x1 x2 x3 x4 xs
  refine (specWeightsOk_any p ve (.slice A l.length c) l _ hl hl2 ((h.below hb0).more hb0.size) ((h2.below hb0).more hb0.size)).mono ?_
  rintro e w1 ⟨rfl, hb1⟩
  rw [HF.out]
  have hb := bnext hb0 hb1
  have D := D0.below hb1
  have O0 := O0.below hb1
  have hO0 : Hid ((Value.slice (some ⟨w.heap.size + 1, 0, none⟩) 0 0).ownBlock ≠ some w1.heap.size) := by have := hb1.size; simp [Hid, Value.ownBlock, planBox_size] at this ⊢; omega
  have hO1 : Hid (w.heap.size + 1 < w1.heap.size) := by have := hb1.size; simp [Hid, planBox_size] at this ⊢; omega
  have hw01 := D.lt
  clear hb0 hb1 D0
  obtain ⟨x0, x1, x2, x3, x4, xs⟩ := D.cells
  have c1 : Below w1.heap.size w1 (w1.alloc (.cells (madeCells #[.int .i64 0] T) 3)) := (Below.refl _ _).alloc (Nat.le_refl _) _
  have E0 := Ow.made intE 3 w1 0 T (by decide) (by simp [maxLen]; omega) (z := #[.int .i64 0]) rfl (m := T) (by simp [intE])
  rw [← fill_zero T] at E0
  have hs1 : (w1.alloc (.cells (madeCells #[.int .i64 0] T) 3)).heap.size = w1.heap.size + 1 := by simp
  have Hs1 := Lib.hid hs1
  clear hs1
  go_wp2_with (go_at_call 52; refine (l01In_any _ _ _ _).mono ?_; rintro e w' ⟨rfl, rfl⟩)
  have D := D.below c1
  have hb := bnext hb c1
  have O0 := O0.below c1
  clear x0 x1 x2 x3 x4 xs c1 hm
  go_loopw [9] (fun i wr => ∃ k : Nat, k ≤ T ∧ i = .int .i64 k ∧ Ow intE 3 wr w1.heap.size (.slice (some ⟨w1.heap.size, 0, none⟩) T T) ((List.replicate T (-1 : Int)).take k ++ List.replicate (T - k) 0) ∧ BoxAt w.heap.size p ve wr ∧ Ow slotE 34 wr (w.heap.size + 1) (.slice (some ⟨w.heap.size + 1, 0, none⟩) 0 0) [] ∧ Hid (w1.heap.size + 1 ≤ wr.heap.size) ∧ Below w.heap.size w wr) (fun i _ => T - (intOf i).toNat)
  case atStart => exact ⟨0, Nat.zero_le _, rfl, E0, D, O0, by rw [Hs1.out]; exact Nat.le_refl _, hb⟩
  case round =>
    clear E0 D O0 hb
    obtain ⟨k, hk, rfl, E, D, O0, hsz, hb⟩ := hrel
    obtain ⟨x0, x1, x2, x3, x4, xs⟩ := D.cells
    by_cases hlt : k < T
    · have hltI : (k : Int) < (T : Int) := by omega
      have hltP : (k : Int) < p.tasks := by rw [HT.out]; omega
      have hlen := Lib.hid (show ((List.replicate T (-1 : Int)).take k ++ List.replicate (T - k) 0).length = T by simp; omega)
      have cE := E.int (k := k) (by rw [hlen.out]; exact hlt)
      have hfz := E.free
      have hP := Lib.hid (E.put1 hlen.out k hlt (-1))
      rw [fill_next hlt] at hP
      have hsz2 := hsz.out
      go_wp2
      exact ⟨⟨k + 1, by omega, by go_num, hP.out, D.other (by simp; omega) _, O0.setOther hO0.out _, by simpa [Hid, World.setCell] using hsz2, hb.setCell (by simp; omega) _⟩, by simp [intOf]; omega⟩
    have hltI : ¬ (k : Int) < (T : Int) := by omega
    have hltP : ¬ (k : Int) < p.tasks := by rw [HT.out]; omega
    have hk' : k = T := by omega
    have hfull : (List.replicate T (-1 : Int)).take k ++ List.replicate (T - k) 0 = List.replicate T (-1) := by rw [hk']; simp
    rw [hfull] at E
    clear hfull hk'
    obtain ⟨w2, rfl⟩ : ∃ w2 : World, w2 = wr := ⟨_, rfl⟩
    have c2 : Below w2.heap.size w2 (w2.alloc (.cells (madeCells #[.int .i64 0] M) 3)) := (Below.refl _ _).alloc (Nat.le_refl _) _
    have B0 := Ow.made intE 3 w2 0 M (by decide) (by simp [maxLen]; omega) (z := #[.int .i64 0]) rfl (m := M) (by simp [intE])
    have hs2 := Lib.hid (show (w2.alloc (.cells (madeCells #[.int .i64 0] M) 3)).heap.size = w2.heap.size + 1 by simp)
    have hgE := Lib.hid (show w1.heap.size < w2.heap.size by have := hsz.out; omega)
    go_wp2
    have D := D.below c2
    have hb := bnext hb c2
    have E0 := E.below c2
    have O0 := O0.below c2
    have hap0 : Hid ((Value.slice (some ⟨w.heap.size + 1, 0, none⟩) 0 0).ownBlock ≠ some w1.heap.size ∧ (Value.slice (some ⟨w.heap.size + 1, 0, none⟩) 0 0).ownBlock ≠ some w2.heap.size) := ⟨hO0.out, by have := hO1.out; have := hgE.out; simp [Value.ownBlock]; omega⟩
    have I0 := Lib.hid (SInv.start HO.out)
    clear x0 x1 x2 x3 x4 xs c2 E hsz
    go_loopw [7, 11] (fun vo nw wr => ∃ (f : Nat) (now : Int) (st : Sst), Hid (SInv (esOf p) T l M now st) ∧ Hid (12000 - now < f) ∧ Hid (sGo (esOf p) T l M f now st = schedOf p l M) ∧ nw = .int .i64 now ∧ Ow slotE 34 wr (w.heap.size + 1) vo st.out ∧
      Ow intE 3 wr w1.heap.size (.slice (some ⟨w1.heap.size, 0, none⟩) T T) st.ends ∧ Ow intE 3 wr w2.heap.size (.slice (some ⟨w2.heap.size, 0, none⟩) M M) st.busy ∧ Hid (vo.ownBlock ≠ some w1.heap.size ∧ vo.ownBlock ≠ some w2.heap.size) ∧ BoxAt w.heap.size p ve wr ∧ Hid (w2.heap.size + 1 ≤ wr.heap.size) ∧ Below w.heap.size w wr) (fun _ nw _ => (12001 - intOf nw).toNat)
    case atStart => exact ⟨12001, 0, sStart T M, I0.out, (by simp [Hid]), H.out.symm, rfl, O0, E0, B0, hap0, D, by rw [hs2.out]; exact Nat.le_refl _, hb⟩
    case round =>
      clear O0 E0 B0 hap0 D hb I0
      obtain ⟨f, now, st, hI, hf, hgo, rfl, O, E, B, hap, D, hsz, hb⟩ := hrel
      obtain ⟨x0, x1, x2, x3, x4, xs⟩ := D.cells
      obtain ⟨Ao, co, rfl, -⟩ := id (Rd.of_own O)
      have hn0 := hI.out.now0
      by_cases hmore : st.out.length < T
      case neg =>
        have hmI : ¬ (st.out.length : Int) < p.tasks := by rw [HT.out]; omega
        have Hd := Lib.hid (sGo_done (es := esOf p) (l := l) (m := M) (now := now) (f := f) (show T ≤ st.out.length by omega))
        go_wp2
        go_ret
        exact ⟨_, rfl, by rw [← hgo.out, Hd.out]; exact O.more (by omega), hb⟩
      have hmI : (st.out.length : Int) < p.tasks := by rw [HT.out]; omega
      have hR := Lib.hid (hI.out.round HO.out hmore)
      have hpart := Lib.hid (hI.out.part HO.out)
      have hnL := Lib.hid (show now ≤ 12000 by have := hI.out.nowL; have := hI.out.short; omega)
      have hMore := Lib.hid hmore
      obtain ⟨wo, rfl⟩ : ∃ wo : World, wo = wr := ⟨_, rfl⟩
      go_wp2
      clear x0 x1 x2 x3 x4 xs
      go_loopw [7, 12] (fun vo i wr => ∃ k : Nat, k ≤ M ∧ i = .int .i64 k ∧ Ow slotE 34 wr (w.heap.size + 1) vo (sPart (esOf p) T l now st k).out ∧
        Ow intE 3 wr w1.heap.size (.slice (some ⟨w1.heap.size, 0, none⟩) T T) (sPart (esOf p) T l now st k).ends ∧ Ow intE 3 wr w2.heap.size (.slice (some ⟨w2.heap.size, 0, none⟩) M M) (sPart (esOf p) T l now st k).busy ∧ Hid (vo.ownBlock ≠ some w1.heap.size ∧ vo.ownBlock ≠ some w2.heap.size) ∧ BoxAt w.heap.size p ve wr ∧ Hid (w2.heap.size + 1 ≤ wr.heap.size) ∧ Below w.heap.size w wr) (fun _ i _ => M - (intOf i).toNat)
      case atStart => exact ⟨0, Nat.zero_le _, rfl, O, E, B, hap, D, hsz, hb⟩
      case round =>
        clear O E B hap D hsz hb
        obtain ⟨k, hk, rfl, O, E, B, hap, D, hsz, hb⟩ := hrel
        obtain ⟨x0, x1, x2, x3, x4, xs⟩ := D.cells
        have hIk := Lib.hid (hpart.out k hk)
        have hle := hIk.out.le
        have hlb := hIk.out.lb
        have Hle := Lib.hid hle
        have Hlb := Lib.hid hlb
        have hsz2 := hsz.out
        have hgE2 := hgE.out
        have sB := E.blk.2
        by_cases hC : k < M ∧ (now < (sPart (esOf p) T l now st k).busy.getD k 0 ∨ nextT (esOf p) T (sPart (esOf p) T l now st k).ends now ≠ none)
        · obtain ⟨hlt, hC⟩ := hC
          have hltI : (k : Int) < (M : Int) := by omega
          have hkM : k < (sPart (esOf p) T l now st k).busy.length := by omega
          have hgd := getD_at hkM (0 : Int)
          rw [hgd] at hC
          have Hgd := Lib.hid hgd
          clear hgd
          have cB := B.int hkM
          have sB2 := B.blk.2
          by_cases hbz : now < (sPart (esOf p) T l now st k).busy[k]
          · have hst := Lib.hid (show sPart (esOf p) T l now st (k + 1) = sPart (esOf p) T l now st k from sStep_busy (by rw [getD_at hkM]; exact hbz))
            clear hC hle hlb
            go_wp2
            exact ⟨⟨k + 1, by omega, by go_num, by rw [hst.out]; exact O, by rw [hst.out]; exact E, by rw [hst.out]; exact B, hap, D, hsz, hb⟩, by simp [intOf]; omega⟩
          obtain ⟨t, hn⟩ : ∃ t, nextT (esOf p) T (sPart (esOf p) T l now st k).ends now = some t := by
            cases hq : nextT (esOf p) T (sPart (esOf p) T l now st k).ends now with
            | none => rcases hC with hC | hC; exact absurd hC hbz; exact absurd hq hC
            | some t => exact ⟨t, rfl⟩
          replace hn := Lib.hid hn
          clear hC
          go_wp2_with fail
          clear x0 x1 x2 x3 x4 xs hle hlb cB
          refine (specNext_any p ve _ (sPart (esOf p) T l now st k).ends now _ HP.out (by rw [HTn.out]; exact Hle.out) ((h.below hb).more hb.size) (Rd.of_own E)).mono ?_
          rintro e w4 ⟨rfl, b4⟩
          rw [HTn.out, hn.out]
          simp only [nextZ]
          have O := O.below b4
          have E := E.below b4
          have B := B.below b4
          have D := D.below b4
          have hb := bnext hb b4
          have hsz := Lib.hid (show w2.heap.size + 1 ≤ w4.heap.size by have := b4.size; omega)
          have hsz2 := hsz.out
          clear b4

          have htT : t < T := (nextT_some hn.out).1
          have hroom := next_room HO.out hIk.out hn.out
          have hst := Lib.hid (show sPart (esOf p) T l now st (k + 1) = sTake l now (sPart (esOf p) T l now st k) k t from sStep_some (by rw [getD_at (by rw [Hlb.out]; exact hlt)]; omega) hn.out)
          have htl : t < l.length := by rw [HL.out]; exact htT
          obtain ⟨bw, ow, rfl, hbw, cw0⟩ := h2.int htl
          have cw := (hb.cell (p := ⟨bw, ow + t, none⟩) (by simpa using hbw)).trans cw0
          have Hcw := Lib.hid cw0
          clear cw0
          have htlI : (t : Int) < (l.length : Int) := by omega
          have htTI : (t : Int) < (T : Int) := by omega
          have hw := HG3.out l[t] (List.getElem_mem htl)
          have hnl := hnL.out
          have hsum : IntKind.i64.wrap (now + l[t]) = now + l[t] := IntWalk.i64_in _ (by omega)
          have Hgt := Lib.hid (getD_at htl (0 : Int))
          generalize hq : sPart (esOf p) T l now st k = s at *
          have Hq := Lib.hid hq
          clear hq
          have htE : t < s.ends.length := by rw [Hle.out]; exact htT
          have hkB : k < s.busy.length := by rw [Hlb.out]; exact hlt
          have ha : Hid (∀ w : World, Below w.heap.size w (w.alloc (.cells #[.int .i64 (t : Int), .int .i64 (k : Int), .int .i64 now, .int .i64 (now + l[t])] 34))) := fun w => (Below.refl _ _).alloc (Nat.le_refl _) _
          have hbwI : bw < w1.heap.size := by omega
          have htn : ¬ (t : Int) < 0 := by omega
          have hso := Lib.hid O.within
          clear hw
          have cE := E.int htE
          have cB := B.int hkB
          have fE := E.free
          have fB := B.free
          have hne : ¬ w1.heap.size = w2.heap.size := by omega
          have hne2 : ¬ w2.heap.size = w1.heap.size := by omega
          have hE1 := Lib.hid ((E.put1 Hle.out t htT (now + l[t])).setOther (a := ⟨w2.heap.size, k, none⟩) (by simp [Value.ownBlock]; omega) (.int .i64 (now + l[t])))
          have hB1 := Lib.hid ((B.setOther (a := ⟨w1.heap.size, t, none⟩) (by simp [Value.ownBlock]; omega) (.int .i64 (now + l[t]))).put1 Hlb.out k hlt (now + l[t]))
          have hO1 := Lib.hid ((O.setOther (a := ⟨w1.heap.size, t, none⟩) hap.out.1 (.int .i64 (now + l[t]))).setOther (a := ⟨w2.heap.size, k, none⟩) hap.out.2 (.int .i64 (now + l[t])))
          have hD1 := Lib.hid ((D.other (a := ⟨w1.heap.size, t, none⟩) (by simp; omega) (.int .i64 (now + l[t]))).other (a := ⟨w2.heap.size, k, none⟩) (by simp; omega) (.int .i64 (now + l[t])))
          have hb1 := Lib.hid ((hb.setCell (p := ⟨w1.heap.size, t, none⟩) (by simp; omega) (.int .i64 (now + l[t]))).setCell (p := ⟨w2.heap.size, k, none⟩) (by simp; omega) (.int .i64 (now + l[t])))
          have hs4 : ((w4.setCell ⟨w1.heap.size, t, none⟩ (.int .i64 (now + l[t]))).setCell ⟨w2.heap.size, k, none⟩ (.int .i64 (now + l[t]))).heap.size = w4.heap.size := by simp [World.setCell]
          have Hs4 := Lib.hid hs4
          clear hs4
          obtain ⟨Aq, cq, rfl, -⟩ := id (Rd.of_own O)
          clear E B O D hb
          go_wp2_with (at_builtin; refine wpList_push_all _ slotE (by decide) rfl (.tmp 79) (.tmp 88) rfl Try.underlying30 hj0 jz0 jz1 jz2 rfl (l := s.out) rfl (hO1.out.below (ha.out _)) rfl (Rd.one slotE _ _ ⟨(t : Int), (k : Int), now, now + l[t]⟩ Hs4.out.symm rfl 1 (Nat.le_refl _) (Nat.lt_succ_self _)) (by omega) (by simp) (by decide) (Nat.le_trans (show w.heap.size + 1 ≤ w4.heap.size by omega) (Nat.le_trans (Nat.le_of_eq Hs4.out.symm) (ha.out _).size)) ?_; intro v5 w5 o5 g5 f5)
          have hb5 : Below w.heap.size w w5 := (bnext hb1.out (ha.out _)).grown g5 (bnext hb1.out (ha.out _)).size (fun g hg => by have := hso.out g hg; omega)
          have E5 := (hE1.out.below (ha.out _)).grown g5 (.inr (Ne.symm hap.out.1))
          have B5 := (hB1.out.below (ha.out _)).grown g5 (.inr (Ne.symm hap.out.2))
          have D5 := (hD1.out.below (ha.out _)).mark g5 hso.out (.inl (Nat.lt_succ_self _))
          have z5 := g5.size
          have hv5 := ap_of f5 hap.out (by simp [World.setCell]; omega) (by simp [World.setCell]; omega)
          refine ⟨⟨k + 1, by omega, by go_num, ?_, ?_, ?_, hv5, D5, ?_, hb5⟩, by simp [intOf]; omega⟩
          · rw [hst.out]
            show Ow _ _ _ _ _ (s.out ++ [⟨(t : Int), (k : Int), now, now + l.getD t 0⟩])
            rw [Hgt.out]
            exact o5
          · rw [hst.out]
            show Ow _ _ _ _ _ (s.ends.set t (now + l.getD t 0))
            rw [Hgt.out]
            exact E5
          · rw [hst.out]
            show Ow _ _ _ _ _ (s.busy.set k (now + l.getD t 0))
            rw [Hgt.out]
            exact B5
          · simp [World.setCell] at z5
            simp [Hid]
            omega
        have hD2 : (k < M ∧ Hid (¬ now < (sPart (esOf p) T l now st k).busy.getD k 0) ∧ Hid (nextT (esOf p) T (sPart (esOf p) T l now st k).ends now = none)) ∨ k = M := by
          by_cases hlt : k < M
          · refine .inl ⟨hlt, fun hh => hC ⟨hlt, .inl hh⟩, ?_⟩
            refine Classical.byContradiction fun hh => hC ⟨hlt, .inr hh⟩
          · exact .inr (by omega)
        clear hC
        rcases hD2 with hD2 | hD2
        case' inl =>
          obtain ⟨hlt, hbz, hn⟩ := hD2
          have hltI : (k : Int) < (M : Int) := by omega
          have hkM : k < (sPart (esOf p) T l now st k).busy.length := by omega
          have hbz := hbz.out
          rw [getD_at hkM] at hbz
          have hend := Lib.hid (show sPart (esOf p) T l now st k = sPart (esOf p) T l now st M by
            have := sPart_none hn.out (M - k)
            rw [show k + (M - k) = M from by omega] at this
            exact this.symm)
          have cB := B.int hkM
          have sB2 := B.blk.2
          go_wp2_with fail
          clear x0 x1 x2 x3 x4 xs hle hlb cB
          refine (specNext_any p ve _ (sPart (esOf p) T l now st k).ends now _ HP.out (by rw [HTn.out]; exact Hle.out) ((h.below hb).more hb.size) (Rd.of_own E)).mono ?_
          rintro e w4 ⟨rfl, b4⟩
          rw [HTn.out, hn.out]
          simp only [nextZ]
          have O := O.below b4
          have E := E.below b4
          have B := B.below b4
          have D := D.below b4
          have hb := bnext hb b4
          have hsz := Lib.hid (show w2.heap.size + 1 ≤ w4.heap.size by have := b4.size; omega)
          clear b4 sB2 hbz
          go_upto_region 21 with fail
        case' inr =>
          have hltI : ¬ (k : Int) < (M : Int) := by omega
          have hend := Lib.hid (show sPart (esOf p) T l now st k = sPart (esOf p) T l now st M by rw [hD2])
          clear x0 x1 x2 x3 x4 xs hle hlb
          go_upto_region 21 with fail
        all_goals
          rw [hend.out] at O E B
          have hIm := Lib.hid (hpart.out M (Nat.le_refl _))
          have Hle := Lib.hid hIm.out.le
          have Hlb := Lib.hid hIm.out.lb
          obtain ⟨f', rfl⟩ : ∃ f', f = f' + 1 := ⟨f - 1, by have := hf.out; have := hnL.out; omega⟩
          have hg2 := Lib.hid ((sGo_more hMore.out).symm.trans hgo.out)
          clear hIk hend
          generalize sPart (esOf p) T l now st M = s at *
          clear hpart
          obtain ⟨x0, x1, x2, x3, x4, xs⟩ := D.cells
          go_wp2
          go_loop [14, 15] (fun n i => ∃ j : Nat, j ≤ T ∧ i = .int .i64 j ∧ n = .int .i64 (nextS now (s.ends.take j))) (fun _ i => T - (intOf i).toNat)
          case atStart => exact ⟨0, Nat.zero_le _, rfl, rfl⟩
          case round =>
            obtain ⟨j, hj, rfl, rfl⟩ := hrel
            by_cases hjt : j < T
            · have hjI : (j : Int) < (T : Int) := by omega
              have hjP : (j : Int) < p.tasks := by rw [HT.out]; omega
              have hjB : j < s.ends.length := by rw [Hle.out]; exact hjt
              have cB := E.int hjB
              have sB2 := E.blk.2
              have hs := Lib.hid (nextS_succ (now := now) hjB)
              generalize nextS now (s.ends.take j) = n at *
              generalize s.ends[j] = b at *
              by_cases c1 : now < b
              case neg =>
                rw [if_neg (fun x => c1 x.1)] at hs
                go_wp2
                exact ⟨⟨j + 1, by omega, by go_num, by rw [hs.out]⟩, by simp [intOf]; omega⟩
              by_cases c2 : n < 0
              · rw [if_pos ⟨c1, .inl c2⟩] at hs
                go_wp2
                exact ⟨⟨j + 1, by omega, by go_num, by rw [hs.out]⟩, by simp [intOf]; omega⟩
              by_cases c3 : b < n
              · rw [if_pos ⟨c1, .inr c3⟩] at hs
                go_wp2
                exact ⟨⟨j + 1, by omega, by go_num, by rw [hs.out]⟩, by simp [intOf]; omega⟩
              · rw [if_neg (fun x => by rcases x.2 with h | h; exact c2 h; exact c3 h)] at hs
                go_wp2
                exact ⟨⟨j + 1, by omega, by go_num, by rw [hs.out]⟩, by simp [intOf]; omega⟩
            · have hjI : ¬ (j : Int) < (T : Int) := by omega
              have hjP : ¬ (j : Int) < p.tasks := by rw [HT.out]; omega
              have hje := Lib.hid (show s.ends.take j = s.ends from List.take_of_length_le (by rw [Hle.out]; omega))
              obtain ⟨r1, r2, r3⟩ := hR.out
              have hR1 := Lib.hid r1
              have hnl := hnL.out
              rw [hje.out, r3]
              have hnn : ¬ nextI now s.busy < 0 := by omega
              clear r1 r3
              go_wp2
              exact ⟨⟨f', _, s, hR1.out, (by have := hf.out; unfold Hid; omega), hg2.out, rfl, O, E, B, hap, D, hsz, hb⟩, by simp [intOf]; omega⟩

theorem schedOf_len (p : Plan) (l : List Int) (many : Int) : (schedOf p l many).length ≤ 12 := by
  by_cases h : weightsOk p l = true ∧ inB many 1 8 = true
  · have ho := sOk_of h.1 h.2
    have hs := (sched_is ho).len
    have hT := ho.T12
    unfold schedOf
    rw [if_pos h]
    omega
  · rw [schedOf_no h]; simp
end Go.Proofs.Ytnaicippgocdfaa
end
section
namespace Go.Proofs.Ytnaicippgocdfaa
open Go.RowKit
set_option maxRecDepth 100000
set_option maxHeartbeats 1000000

theorem mem_tightL {S : List Int} : ∀ (n t : Nat), (t : Int) ∈ tightL S n ↔ t < n ∧ S.getD t 0 = 0
  | 0, t => by simp [tightL]
  | n + 1, t => by
    have ih := mem_tightL (S := S) n t
    have e : tightL S (n + 1) = if S.getD n 0 = 0 then tightL S n ++ [(n : Int)] else tightL S n := by
      rw [tightL]
      split <;> simp
    rw [e]
    by_cases h0 : S.getD n 0 = 0
    · rw [if_pos h0, List.mem_append, ih, List.mem_singleton]
      constructor
      · rintro (⟨h1, h2⟩ | h1)
        · exact ⟨by omega, h2⟩
        · have : t = n := by omega
          subst this
          exact ⟨by omega, h0⟩
      · rintro ⟨h1, h2⟩
        by_cases ht : t = n
        · exact .inr (by omega)
        · exact .inl ⟨by omega, h2⟩
    · rw [if_neg h0, ih]
      constructor
      · rintro ⟨h1, h2⟩
        exact ⟨by omega, h2⟩
      · rintro ⟨h1, h2⟩
        have : t ≠ n := fun e => h0 (e ▸ h2)
        exact ⟨by omega, h2⟩
structure WFacts (p : Plan) (l E D S Tt : List Int) (L W : Int) : Prop where
  el : E.length = p.tasks.toNat
  dl : D.length = p.tasks.toNat
  sl : S.length = p.tasks.toNat
  ll : l.length = p.tasks.toNat
  e0 : ∀ t, t < p.tasks.toNat → 0 ≤ E.getD t 0
  s0 : ∀ t, t < p.tasks.toNat → S.getD t 0 = D.getD t 0 - E.getD t 0 ∧ 0 ≤ S.getD t 0
  lg : ∀ t, t < p.tasks.toNat → E.getD t 0 + l.getD t 0 ≤ L
  ti : ∀ t, t < p.tasks.toNat → (S.getD t 0 = 0 ↔ (t : Int) ∈ Tt)
  ee : ∀ e ∈ esOf p, E.getD e.1 0 + l.getD e.1 0 ≤ E.getD e.2 0 ∧ D.getD e.1 0 + l.getD e.1 0 ≤ D.getD e.2 0
  dg : ∀ t, t < p.tasks.toNat → D.getD t 0 + l.getD t 0 ≤ L
  pos : 0 < Tt.length
  wk : L ≤ W
theorem wfacts {p : Plan} {l : List Int} (h : weightsOk p l = true) : WFacts p l (earliestOf p l) (latestOf p l) (slackOf p l) (tightOf p l) (longestOf p l) (workOf p l) := by
  have ht := times_of h
  have hsl : (slackOf p l).length = p.tasks.toNat := by unfold slackOf; rw [slackL_len, ht.dlen]
  have hsg : ∀ t, t < p.tasks.toNat → (slackOf p l).getD t 0 = (latestOf p l).getD t 0 - (earliestOf p l).getD t 0 := by
    intro t htT
    unfold slackOf slackL
    rw [List.getD_eq_getElem?_getD, List.getElem?_map, List.getElem?_range (by rw [ht.dlen]; exact htT)]
    rfl
  have hti : ∀ t, t < p.tasks.toNat → ((slackOf p l).getD t 0 = 0 ↔ (t : Int) ∈ tightOf p l) := by
    intro t htT
    unfold tightOf
    rw [mem_tightL, hsl]
    exact ⟨fun h => ⟨htT, h⟩, fun h => h.2⟩
  refine ⟨ht.elen, ht.dlen, hsl, ?_, fun t _ => ht.enn t, fun t htT => ⟨hsg t htT, by rw [hsg t htT]; have := ht.ed t htT; omega⟩, ht.elong, hti, fun e he => ⟨ht.ele e he, ht.dle e he⟩, ht.dlong, ?_, ?_⟩
  · have := (weightsOk_all h).2.1; omega
  · obtain ⟨t, htT, hm⟩ := ht.emax
    have h1 := ht.dlong t htT
    have h2 := ht.ed t htT
    have h3 : (t : Int) ∈ tightOf p l := (hti t htT).1 (by rw [hsg t htT]; omega)
    exact List.length_pos_of_mem h3
  · unfold workOf
    rw [if_pos h]
    exact ht.lwork
theorem drawn_weights (code : List UInt8) : weightsOk (drawnWork code).1.1 (drawnWork code).2.1 = true := by
  unfold drawnWork
  simp only
  have hf := curPlan_ok code (curNew code)
  have hT := manyOk_tasks (planFault_zero.1 hf).1
  unfold weightsOk
  simp only [Bool.and_eq_true, decide_eq_true_eq, List.all_eq_true, inB_iff]
  exact ⟨⟨hf, by rw [curWeights_len]; omega⟩, curWeights_bd _ _ _⟩
end Go.Proofs.Ytnaicippgocdfaa
end
section
namespace Go.Proofs.Ytnaicippgocdfaa
open Go.RowKit
set_option maxRecDepth 100000

/-- a plan with weights, drawn twice, and what is kept of it -/
structure FW (p : Plan) (l : List Int) (pb sb : Nat) (ve vs vw vv : Value) (w0 w : World) : Prop where
  P : BoxAt pb p ve w
  S : BoxAt sb p vs w
  rp : Rd edgeE w w.heap.size ve p.edges
  rs : Rd edgeE w w.heap.size vs p.edges
  rw_ : Rd intE w w.heap.size vw l
  rv : Rd intE w w.heap.size vv l
  b : Below w0.heap.size w0 w
theorem Rd.on {α : Type} {e : Enc α} {w w' : World} {v : Value} {l : List α} (h : Rd e w w.heap.size v l) (c : Below w.heap.size w w') : Rd e w' w'.heap.size v l := (h.below c).more c.size
theorem FW.below {p : Plan} {l : List Int} {pb sb : Nat} {ve vs vw vv : Value} {w0 w w' : World} (h : FW p l pb sb ve vs vw vv w0 w) (c : Below w.heap.size w w') : FW p l pb sb ve vs vw vv w0 w' :=
  ⟨h.P.below c, h.S.below c, h.rp.on c, h.rs.on c, h.rw_.on c, h.rv.on c, bnext h.b c⟩
/-- both drawn -/
theorem FW.start {p : Plan} {l : List Int} {A1 A2 A3 A4 : Option Addr} {c1 c2 c3 c4 : Nat} {w0 w1 w2 : World}
    (b1 : Below w0.heap.size w0 w1) (o1 : Ow edgeE 52 w1 w0.heap.size (.slice A1 p.edges.length c1) p.edges) (q1 : Ow intE 3 w1 w0.heap.size (.slice A2 l.length c2) l)
    (b2 : Below (w1.alloc (.cells #[.int .i64 p.prio, .int .i64 p.most, .int .i64 p.wait, .int .i64 p.tasks, .slice A1 p.edges.length c1] 26)).heap.size (w1.alloc (.cells #[.int .i64 p.prio, .int .i64 p.most, .int .i64 p.wait, .int .i64 p.tasks, .slice A1 p.edges.length c1] 26)) w2)
    {B1 B2 : Nat} (o2 : Ow edgeE 52 w2 B1 (.slice A3 p.edges.length c3) p.edges) (q2 : Ow intE 3 w2 B2 (.slice A4 l.length c4) l) :
    FW p l w1.heap.size w2.heap.size (.slice A1 p.edges.length c1) (.slice A3 p.edges.length c3) (.slice A2 l.length c2) (.slice A4 l.length c4) w0 (w2.alloc (.cells #[.int .i64 p.prio, .int .i64 p.most, .int .i64 p.wait, .int .i64 p.tasks, .slice A3 p.edges.length c3] 26)) := by
  have a1 := (Below.refl w1.heap.size w1).alloc (Nat.le_refl _) (.cells #[.int .i64 p.prio, .int .i64 p.most, .int .i64 p.wait, .int .i64 p.tasks, .slice A1 p.edges.length c1] 26)
  have a2 := (Below.refl w2.heap.size w2).alloc (Nat.le_refl _) (.cells #[.int .i64 p.prio, .int .i64 p.most, .int .i64 p.wait, .int .i64 p.tasks, .slice A3 p.edges.length c3] 26)
  refine ⟨((BoxAt.new' 26 p _ w1 rfl).below b2).below a2, BoxAt.new' 26 p _ w2 rfl, (((Rd.of_own o1).on a1).on b2).on a2, (Rd.of_own o2).on a2, (((Rd.of_own q1).on a1).on b2).on a2, (Rd.of_own q2).on a2, bnext (bnext (bnext b1 a1) b2) a2⟩

end Go.Proofs.Ytnaicippgocdfaa
end
section
namespace Go.Proofs.Ytnaicippgocdfaa
open Go.RowKit
set_option maxRecDepth 100000
set_option maxHeartbeats 1000000

theorem schedOf_eq {p : Plan} {l : List Int} {m : Int} (hf : weightsOk p l = true) (hm : inB m 1 8 = true) : schedOf p l m = schedL (esOf p) p.tasks.toNat l m.toNat := by
  unfold schedOf; rw [if_pos ⟨hf, hm⟩]
structure SFacts (p : Plan) (l : List Int) (m : Int) (s : List Slot) : Prop where
  len : s.length ≤ 12
  long : longestOf p l ≤ endOf s
  sum : workOf p l ≤ m * endOf s
  top : m * endOf s ≤ workOf p l + (m - 1) * longestOf p l
  idle : idleOf s m = m * endOf s - workOf p l
  fit : slotsOk p l m s = true
theorem sumD_spent (s : List Slot) : sumD s = spent s := by
  have h : ∀ k, k ≤ s.length → sumD (s.take k) = spent (s.take k) := by
    intro k
    induction k with
    | zero => intro _; rfl
    | succ k ih =>
      intro hk
      have := ih (by omega)
      rw [take_snoc s k (by omega), sumD_snoc, spent_snoc, this]
      omega
  have := h s.length (Nat.le_refl _)
  rwa [List.take_length] at this
theorem sfacts {p : Plan} {l : List Int} {m : Int} (hf : weightsOk p l = true) (hm : inB m 1 8 = true) : SFacts p l m (schedOf p l m) := by
  have ho := sOk_of hf hm
  have hs := sched_is ho
  have he := sched_end hf ho
  have hT := manyOk_tasks (planFault_zero.1 (weightsOk_all hf).1).1
  have hfit := sched_fits hf hm
  have hsp := hs.spent ho
  have hm' := inB_iff.1 hm
  rw [schedOf_eq hf hm] at *
  have e2 : ((m.toNat : Nat) : Int) = m := by omega
  rw [e2] at he
  have hw : workOf p l = l.sum := by unfold workOf; rw [if_pos hf]
  rw [← hw] at he hsp
  have hlen : (schedL (esOf p) p.tasks.toNat l m.toNat).length ≤ 12 := by rw [hs.len]; omega
  have hB : idleB (schedL (esOf p) p.tasks.toNat l m.toNat) = true := by
    refine idleB_all fun j hj => ?_
    have h1 := slotOk1_parts (hs.fit j hj hj)
    have h2 := hs.late _ (List.getElem_mem hj)
    have h3 : 0 ≤ l.getD (schedL (esOf p) p.tasks.toNat l m.toNat)[j].task.toNat 0 := by
      rw [List.getD_eq_getElem?_getD]
      cases hx : l[(schedL (esOf p) p.tasks.toNat l m.toNat)[j].task.toNat]? with
      | none => simp
      | some y =>
        have := (weightsOk_all hf).2.2 y (List.mem_of_getElem? hx)
        simp
        omega
    have h4 := h1.2.2.2.1
    exact vB_iff.2 (by omega)
  refine ⟨hlen, he.1, he.2.1, he.2.2, ?_, hfit⟩
  unfold idleOf
  rw [if_pos ⟨hm, hlen, hB⟩, sumD_spent, hsp]
theorem least_le {p : Plan} {l : List Int} {m : Int} {s : List Slot} (hf : weightsOk p l = true) (hm : inB m 1 8 = true) (h : SFacts p l m s) : leastEnd p l m ≤ endOf s := by
  have hm' := inB_iff.1 hm
  rw [leastEnd_yes ⟨hf, hm⟩]
  have h1 := h.sum
  have h2 : (workOf p l + m - 1) / m ≤ endOf s := by
    have : (workOf p l + m - 1) / m < endOf s + 1 := by
      apply Int.ediv_lt_of_lt_mul (by omega)
      rw [Int.add_mul, Int.one_mul, Int.mul_comm]
      omega
    omega
  have h3 := h.long
  omega
end Go.Proofs.Ytnaicippgocdfaa
end
section
namespace Go.Proofs.Ytnaicippgocdfaa
open Go.RowKit
set_option maxRecDepth 100000
set_option maxHeartbeats 4000000
set_option linter.unusedVariables false

theorem lawSlots_walk (v : Value) (code : List UInt8) (w : World) (hm : code.length ≤ 9223372036854775807) (h : Rd byteE w w.heap.size v code) :
    Calls Try.prog 3 #[v] w fun e w' => e = .returned (.bool true) ∧ Below w.heap.size w w' := by
  by_cases hbig : (1048576 : Int) < (code.length : Int)
  · go_enter Try.func3, Try.ntmps3
    go_wp2_with fail
    refine (big_any v code w hm h).mono ?_
    rintro e w1 ⟨rfl, rfl⟩
    go_wp2
    go_ret
    exact ⟨rfl, Below.refl _ _⟩
  have hs : code.length ≤ 1048576 := by omega
  have hbg : decide ((1048576 : Int) < (code.length : Int)) = false := by simpa using hbig
  go_enter Try.func3, Try.ntmps3
  go_wp2_with fail
  refine (big_any v code w hm h).mono ?_
  rintro e w0 ⟨rfl, rfl⟩
  rw [hbg]
  clear hbg hbig
  go_wp2_with fail
  have hok := drawn_weights code
  refine (drawWork_any v code w hs h).mono ?_
  rintro e w1 ⟨u1, u2, rfl, o1, q1, b1⟩
  have hD : ∀ (W : World), Rd byteE W W.heap.size v code → Calls Try.prog 7 #[v] W (WorkP code W) := fun W hW => drawWork_any v code W hs hW
  unfold WorkP at hD
  have h1 := h.on b1
  generalize (drawnWork code).1.1 = p at *
  generalize (drawnWork code).2.1 = l at *
  have hmy := curBelow_bd code (n := 4) (drawnWork code).2.2 (by omega)
  generalize hmany : (1 + (curBelow code 4 (drawnWork code).2.2).1) = many at *
  have hm1 : 1 ≤ many ∧ many ≤ 4 := by omega
  clear hmany hmy
  have HD := Lib.hid hD
  clear hD h
  have hT := manyOk_tasks (planFault_zero.1 (weightsOk_all hok).1).1
  have hE := manyOk_edges (planFault_zero.1 (weightsOk_all hok).1).1
  have hin := Lib.hid (planFault_zero.1 (weightsOk_all hok).1).2.1
  have HL := Lib.hid (show l.length = p.tasks.toNat by have := (weightsOk_all hok).2.1; omega)
  have hL : l.length ≤ 12 := by rw [HL.out]; omega
  have HW := Lib.hid hok
  clear hok
  obtain ⟨A1, c1, rfl, -⟩ := id (Rd.of_own o1)
  obtain ⟨A2, c2, rfl, -⟩ := id (Rd.of_own q1)
  go_wp2_with fail
  refine (HD.out _ (h1.on ((Below.refl _ _).alloc (Nat.le_refl _) _))).mono ?_
  rintro e w2 ⟨u3, u4, rfl, o2, q2, b2⟩
  obtain ⟨A3, c3, rfl, -⟩ := id (Rd.of_own o2)
  obtain ⟨A4, c4, rfl, -⟩ := id (Rd.of_own q2)
  have X := FW.start b1 o1 q1 b2 o2 q2
  clear b1 o1 q1 b2 o2 q2 HD h1
  obtain ⟨p0, p1, p2, p3, p4, ps⟩ := X.P.cells
  go_wp2_with fail
  clear p0 p1 p2 p3 p4 ps
  generalize w1.heap.size = pb at *
  generalize hsb : w2.heap.size = sb at *
  clear hsb
  generalize (w2.alloc (.cells #[.int .i64 p.prio, .int .i64 p.most, .int .i64 p.wait, .int .i64 p.tasks, .slice A3 p.edges.length c3] 26)) = w3 at *
  have hE2 : p.edges.length ≤ 2000000 := by omega
  have hL2 : l.length ≤ 2000000 := by omega
  have hmB : inB many 1 8 = true := inB_iff.2 (by omega)
  have HS := Lib.hid (sfacts HW.out hmB)
  have HO := Lib.hid (sfacts HW.out (show inB 1 1 8 = true by decide))
  have HLe := Lib.hid (least_le HW.out hmB HS.out)
  have HlB := Lib.hid (longestOf_bd HW.out)
  have HwB := Lib.hid (workOf_bd HW.out)
  refine (implSlotsFor_any p _ _ l many _ hE2 hL2 X.rp X.rw_).mono ?_
  rintro e w4 ⟨u5, rfl, oA, b4⟩
  replace X := X.below b4
  have rA := Rd.of_own oA
  clear oA b4
  obtain ⟨p0, p1, p2, p3, p4, ps⟩ := X.S.cells
  go_wp2_with fail
  clear p0 p1 p2 p3 p4 ps
  refine (specSlotsFor_any p _ _ l many _ hE2 hL2 X.rs X.rv).mono ?_
  rintro e w5 ⟨u6, rfl, oB, b5⟩
  replace X := X.below b5
  replace rA := rA.on b5
  have rB := Rd.of_own oB
  clear oB b5
  obtain ⟨p0, p1, p2, p3, p4, ps⟩ := X.P.cells
  go_wp2_with fail
  clear p0 p1 p2 p3 p4 ps
  refine (implSlotsFor_any p _ _ l 1 _ hE2 hL2 X.rp X.rw_).mono ?_
  rintro e w6 ⟨u7, rfl, oC, b6⟩
  replace X := X.below b6
  replace rA := rA.on b6
  replace rB := rB.on b6
  have rC := Rd.of_own oC
  clear oC b6
  obtain ⟨Aa, ca, rfl, -⟩ := id rA
  obtain ⟨Ab, cb, rfl, -⟩ := id rB
  obtain ⟨Ac, cc, rfl, -⟩ := id rC
  have hs1 : (schedOf p l many).length ≤ 12 := HS.out.len
  have hs2 : (schedOf p l 1).length ≤ 12 := HO.out.len
  obtain ⟨p0, p1, p2, p3, p4, ps⟩ := X.P.cells
  go_wp2_with fail
  clear p0 p1 p2 p3 p4 ps
  refine (implSlotsOk_any p _ _ l many _ (schedOf p l many) _ hE2 hL2 (by omega) X.rp X.rw_ rA).mono ?_
  rintro e w7 ⟨rfl, b7⟩
  rw [HS.out.fit]
  replace X := X.below b7
  replace rA := rA.on b7
  replace rB := rB.on b7
  replace rC := rC.on b7
  clear b7
  obtain ⟨p0, p1, p2, p3, p4, ps⟩ := X.P.cells
  go_wp2_with fail
  clear p0 p1 p2 p3 p4 ps
  refine (implSlotsOk_any p _ _ l 1 _ (schedOf p l 1) _ hE2 hL2 (by omega) X.rp X.rw_ rC).mono ?_
  rintro e w8 ⟨rfl, b8⟩
  rw [HO.out.fit]
  replace X := X.below b8
  replace rA := rA.on b8
  replace rB := rB.on b8
  replace rC := rC.on b8
  clear b8
  go_wp2_with fail
  go_loopw [12] (fun i wr => ∃ k : Nat, k ≤ (schedOf p l many).length ∧ i = .int .i64 k ∧ Below w8.heap.size w8 wr) (fun i _ => (schedOf p l many).length - (intOf i).toNat)
  case atStart => exact ⟨0, Nat.zero_le _, rfl, Below.refl _ _⟩
  case round =>
    obtain ⟨k, hk, rfl, hb⟩ := hrel
    replace X := X.below hb
    replace rA := rA.on hb
    replace rB := rB.on hb
    replace rC := rC.on hb
    by_cases hlt : k < (schedOf p l many).length
    · have i1 : (k : Int) < ((schedOf p l many).length : Int) := by omega
      obtain ⟨b, o, rfl, hbb, c0, c1', c2', c3'⟩ := rA.slot hlt
      obtain ⟨b', o', rfl, hbb', d0, d1, d2, d3⟩ := rB.slot hlt
      go_wp2
      go_quiet (fail)
      go_wp2
      exact ⟨⟨k + 1, by omega, by go_num, bdrewN hb _⟩, by simp [intOf]; omega⟩
    · have i1 : ¬ (k : Int) < ((schedOf p l many).length : Int) := by omega
      go_wp2_with fail
      refine (implEndOf_any _ (schedOf p l many) _ (by omega) rA).mono ?_
      rintro e w9 ⟨rfl, b9⟩
      replace X := X.below b9
      replace rA := rA.on b9
      replace rC := rC.on b9
      replace hb := bnext hb b9
      clear b9 rB
      obtain ⟨p0, p1, p2, p3, p4, ps⟩ := X.S.cells
      go_wp2_with fail
      clear p0 p1 p2 p3 p4 ps
      refine (specWorkOf_any p _ _ l _ hE2 hL2 X.rs X.rv).mono ?_
      rintro e w10 ⟨rfl, b10⟩
      replace X := X.below b10
      replace rA := rA.on b10
      replace rC := rC.on b10
      replace hb := bnext hb b10
      clear b10
      obtain ⟨p0, p1, p2, p3, p4, ps⟩ := X.S.cells
      go_wp2_with fail
      clear p0 p1 p2 p3 p4 ps
      refine (specLongest_any p _ _ l _ hE2 hL2 X.rs X.rv).mono ?_
      rintro e w11 ⟨rfl, b11⟩
      replace X := X.below b11
      replace rA := rA.on b11
      replace rC := rC.on b11
      replace hb := bnext hb b11
      clear b11
      have f1 := HS.out.long
      have f2 := HS.out.sum
      have f3 := HS.out.top
      have f4 := HS.out.idle
      have f5 := HLe.out
      have g2 := HO.out.sum
      have g3 := HO.out.top
      have g4 := HO.out.idle
      have f6 := HlB.out
      have f7 := HwB.out
      have cI : ∀ u : Later w11, Calls Try.prog 14 #[planV p (.slice A1 p.edges.length c1), .slice A2 l.length c2, .int .i64 many] u.1 fun e w' => e = .returned (.int .i64 (leastEnd p l many)) ∧ Below u.1.heap.size u.1 w' := fun u => implLeast_any p _ _ l many u.1 hE2 hL2 (X.below u.2).rp (X.below u.2).rw_
      have cS : ∀ u : Later w11, Calls Try.prog 16 #[planV p (.slice A3 p.edges.length c3), .slice A4 l.length c4, .int .i64 many] u.1 fun e w' => e = .returned (.int .i64 (leastEnd p l many)) ∧ Below u.1.heap.size u.1 w' := fun u => specLeast_any p _ _ l many u.1 hE2 hL2 (X.below u.2).rs (X.below u.2).rv
      have cE : ∀ u : Later w11, Calls Try.prog 11 #[.slice Ac (schedOf p l 1).length cc] u.1 fun e w' => e = .returned (.int .i64 (endOf (schedOf p l 1))) ∧ Below u.1.heap.size u.1 w' := fun u => implEndOf_any _ _ u.1 (by omega) (rC.on u.2)
      have cO : ∀ u : Later w11, Calls Try.prog 15 #[.slice Ac (schedOf p l 1).length cc, .int .i64 1] u.1 fun e w' => e = .returned (.int .i64 (idleOf (schedOf p l 1) 1)) ∧ Below u.1.heap.size u.1 w' := fun u => implIdleOf_any _ _ 1 u.1 (by omega) (rC.on u.2)
      have cM : ∀ u : Later w11, Calls Try.prog 15 #[.slice Aa (schedOf p l many).length ca, .int .i64 many] u.1 fun e w' => e = .returned (.int .i64 (idleOf (schedOf p l many) many)) ∧ Below u.1.heap.size u.1 w' := fun u => implIdleOf_any _ _ many u.1 (by omega) (rA.on u.2)
      rw [f4] at cM
      rw [g4] at cO
      generalize leastEnd p l many = le at *
      generalize endOf (schedOf p l many) = en at *
      generalize endOf (schedOf p l 1) = en1 at *
      generalize workOf p l = W at *
      generalize longestOf p l = N at *
      have e1 : en1 = W := by omega
      subst e1
      have h0 : 0 ≤ en := by omega
      have h4 : en * many ≤ 1000000 ∧ 0 ≤ en * many := by
        rw [Int.mul_comm]
        have h5 : (many - 1) * N ≤ 3 * N := Int.mul_le_mul_of_nonneg_right (by omega) (by omega)
        have h6 : 0 ≤ many * en := Int.mul_nonneg (by omega) h0
        omega
      have h5 : (many - 1) * N ≤ 1000000 ∧ 0 ≤ (many - 1) * N := by
        have h5 : (many - 1) * N ≤ 3 * N := Int.mul_le_mul_of_nonneg_right (by omega) (by omega)
        have h6 : 0 ≤ (many - 1) * N := Int.mul_nonneg (by omega) (by omega)
        omega
      have w1' : IntKind.i64.wrap (en * many) = en * many := IntWalk.i64_in _ (by omega)
      have w2' : IntKind.i64.wrap (many - 1) = many - 1 := IntWalk.i64_in _ (by omega)
      have w3' : IntKind.i64.wrap ((many - 1) * N) = (many - 1) * N := IntWalk.i64_in _ (by omega)
      have w4' : IntKind.i64.wrap (en1 + (many - 1) * N) = en1 + (many - 1) * N := IntWalk.i64_in _ (by omega)
      have w5' : IntKind.i64.wrap (en * many - en1) = en * many - en1 := IntWalk.i64_in _ (by omega)
      have t1 : decide (le ≤ en) = true := by simpa using f5
      have t2 : decide (N ≤ en) = true := by simpa using f1
      have t3 : decide (en * many ≤ en1 + (many - 1) * N) = true := by rw [Int.mul_comm en]; simpa using f3
      have t4 : (many * en - en1 == en * many - en1) = true := by rw [Int.mul_comm]; simp
      have t5 : (1 * en1 - en1 == 0) = true := by simp
      have hlc := later_cell w11
      obtain ⟨x0, x1, x2, x3, x4, xs⟩ := X.P.cells
      obtain ⟨y0, y1, y2, y3, y4, ys⟩ := X.S.cells
      have CI := Lib.hid cI
      have CS := Lib.hid cS
      have CE := Lib.hid cE
      have CO := Lib.hid cO
      have CM := Lib.hid cM
      clear cI cS cE cO cM f1 f2 f3 f4 f5 f6 f7 g2 g3 g4 h4 h5
      go_wp2
      refine wp_region_pure (by kernel_rfl) (by kernel_rfl) ?_
      repeat (go_big_quiet_step ((first | (go_at_call 14; exact pure_at CI.out) | (go_at_call 16; exact pure_at CS.out) | (go_at_call 11; exact pure_at CE.out) | (go_at_call 15; (first | (with_reducible exact pure_at CO.out) | (with_reducible exact pure_at CM.out))))))
      refine wpQuiet_nil ?_
      rintro _ ⟨⟨w17, hb17⟩, rfl⟩
      clear hlc
      go_wp2
      go_ret
      exact ⟨rfl, bnext X.b hb17⟩
end Go.Proofs.Ytnaicippgocdfaa
end
