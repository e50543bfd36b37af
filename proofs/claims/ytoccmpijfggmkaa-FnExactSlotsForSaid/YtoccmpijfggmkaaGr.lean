/-
  What the handing out comes to: its end, its work, its idle time: plain facts.
-/
import Derived.Test.YtoccmpijfggmkaaWf
import Derived.Test.YtoccmpijfggmkaaLe
import Derived.Test.YtoccmpijfggmkaaIe
namespace Go.Proofs.Ytoccmpijfggmkaa
open Go.RowKit
set_option linter.unusedVariables false

theorem sum_map_set (f : Int → Int) : ∀ (L : List Int) (k : Nat) (x : Int), k < L.length → ((L.set k x).map f).sum = (L.map f).sum - f (L.getD k 0) + f x
  | [], k, x, h => absurd h (by simp)
  | y :: L, 0, x, _ => by simp; omega
  | y :: L, k + 1, x, h => by
    have := sum_map_set f L k x (by simpa using h)
    simp only [List.set_cons_succ, List.map_cons, List.sum_cons, List.getD_cons_succ]
    omega
theorem sum_map_le {f g : Int → Int} : ∀ {L : List Int}, (∀ x ∈ L, f x ≤ g x) → (L.map f).sum ≤ (L.map g).sum
  | [], _ => Int.le_refl _
  | y :: L, h => by
    have := sum_map_le (L := L) fun x hx => h x (List.mem_cons_of_mem _ hx)
    have := h y List.mem_cons_self
    simp only [List.map_cons, List.sum_cons]
    omega
theorem sum_map_gap {f g : Int → Int} {d : Int} : ∀ {L : List Int} {y : Int}, (∀ x ∈ L, f x ≤ g x) → y ∈ L → f y + d ≤ g y → (L.map f).sum + d ≤ (L.map g).sum
  | x :: L, y, h, hy, hd => by
    simp only [List.map_cons, List.sum_cons]
    have h0 := h x List.mem_cons_self
    rcases List.mem_cons.1 hy with rfl | hy
    · have := sum_map_le (L := L) fun x hx => h x (List.mem_cons_of_mem _ hx)
      omega
    · have := sum_map_gap (L := L) (fun x hx => h x (List.mem_cons_of_mem _ hx)) hy hd
      omega
theorem sum_map_all {f g : Int → Int} {d : Int} : ∀ {L : List Int}, (∀ x ∈ L, f x + d ≤ g x) → (L.map f).sum + L.length * d ≤ (L.map g).sum
  | [], _ => by simp
  | y :: L, h => by
    have h1 := sum_map_all (L := L) fun x hx => h x (List.mem_cons_of_mem _ hx)
    have h2 := h y List.mem_cons_self
    simp only [List.map_cons, List.sum_cons, List.length_cons]
    have : (((L.length + 1 : Nat) : Int)) * d = (L.length : Int) * d + d := by rw [Int.natCast_add, Int.add_mul]; simp
    omega
theorem sum_le_all {c : Int} : ∀ {L : List Int}, (∀ x ∈ L, x ≤ c) → L.sum ≤ L.length * c
  | [], _ => by simp
  | y :: L, h => by
    have h1 := sum_le_all (L := L) fun x hx => h x (List.mem_cons_of_mem _ hx)
    have h2 := h y List.mem_cons_self
    simp only [List.sum_cons, List.length_cons]
    have : (((L.length + 1 : Nat) : Int)) * c = (L.length : Int) * c + c := by rw [Int.natCast_add, Int.add_mul]; simp
    omega

def left (now b : Int) : Int := max 0 (b - now)
def spent (out : List Slot) : Int := (out.map fun x => x.to - x.fr).sum
theorem spent_snoc (out : List Slot) (x : Slot) : spent (out ++ [x]) = spent out + (x.to - x.fr) := by simp [spent]

section
variable {es : List (Nat × Nat)} {T : Nat} {l E D : List Int} {L : Int} {m : Nat} {now : Int} {st : Sst}

/-- how the time was used, with the time q in which some worker was idle -/
structure Used (es : List (Nat × Nat)) (T : Nat) (l D : List Int) (L : Int) (m : Nat) (now : Int) (st : Sst) (q : Int) : Prop where
  q0 : 0 ≤ q
  qL : q ≤ L
  use : m * now ≤ spent st.out - (st.busy.map (left now)).sum + (m - 1) * q
  rest : ∀ t, t < T → st.ends.getD t 0 < 0 → q ≤ D.getD t 0
  work : ∀ t, t < T → now < st.ends.getD t 0 → q + (st.ends.getD t 0 - now) ≤ D.getD t 0 + l.getD t 0
  all : spent st.out ≤ st.busy.sum
  who : ∀ b ∈ st.busy, b = 0 ∨ ∃ x ∈ st.out, x.to = b

theorem Used.take (ho : SOk es T l m) (h : SInv es T l m now st) {q : Int} (hu : Used es T l D L m now st q) {k t : Nat} (hk : k < m) (hb : ¬ now < st.busy.getD k 0) (hn : nextT es T st.ends now = some t) : Used es T l D L m now (sTake l now st k t) q := by
  obtain ⟨htT, hm⟩ := nextT_some hn
  obtain ⟨h0, hpre⟩ := (mayStart_iff ho.lt1).1 hm
  have hw := ho.w htT
  have hbk := (h.busyL k hk).1
  have hE : ∀ s, (sTake l now st k t).ends.getD s 0 = if t = s then now + l.getD t 0 else st.ends.getD s 0 := fun s => setD _ _ _ _ _ (by rw [h.le]; exact htT)
  have hS : spent (sTake l now st k t).out = spent st.out + l.getD t 0 := by
    show spent (st.out ++ _) = _
    rw [spent_snoc]
    simp only
    omega
  have hR := sum_map_set (left now) st.busy k (now + l.getD t 0) (by rw [h.lb]; exact hk)
  have hRi := sum_map_set id st.busy k (now + l.getD t 0) (by rw [h.lb]; exact hk)
  simp only [List.map_id, id] at hRi
  have e1 : left now (st.busy.getD k 0) = 0 := by unfold left; omega
  have e2 : left now (now + l.getD t 0) = l.getD t 0 := by unfold left; omega
  rw [e1, e2] at hR
  have hu1 := hu.use
  have hu2 := hu.all
  refine ⟨hu.q0, hu.qL, ?_, ?_, ?_, ?_, ?_⟩
  · rw [hS]
    show _ ≤ _ - ((st.busy.set k (now + l.getD t 0)).map (left now)).sum + _
    rw [hR]
    omega
  · intro s hs hlt
    rw [hE] at hlt
    split at hlt
    · omega
    · exact hu.rest s hs hlt
  · intro s hs hlt
    rw [hE] at hlt ⊢
    split
    · rename_i e
      subst e
      have := hu.rest t htT h0
      omega
    · rename_i e
      rw [if_neg e] at hlt
      exact hu.work s hs hlt
  · rw [hS]
    show _ ≤ (st.busy.set k (now + l.getD t 0)).sum
    rw [hRi]
    omega
  · intro b hb'
    rcases List.mem_or_eq_of_mem_set hb' with hb' | rfl
    · rcases hu.who b hb' with h1 | ⟨x, hx, h1⟩
      · exact .inl h1
      · exact .inr ⟨x, List.mem_append.2 (.inl hx), h1⟩
    · exact .inr ⟨_, List.mem_append.2 (.inr (List.mem_singleton.2 rfl)), rfl⟩
theorem Used.part (ho : SOk es T l m) (h : SInv es T l m now st) {q : Int} (hu : Used es T l D L m now st q) : ∀ k, k ≤ m → Used es T l D L m now (sPart es T l now st k) q
  | 0, _ => hu
  | k + 1, hk => by
    have ih := Used.part ho h hu k (by omega)
    have hi := h.part ho k (by omega)
    show Used es T l D L m now (sStep es T l now (sPart es T l now st k) k) q
    by_cases hb : now < (sPart es T l now st k).busy.getD k 0
    · rw [sStep_busy hb]; exact ih
    · cases hn : nextT es T (sPart es T l now st k).ends now with
      | none => rw [sStep_none hn]; exact ih
      | some t => rw [sStep_some hb hn]; exact ih.take ho hi (by omega) hb hn

/-- behind a pass all workers work, or nothing may be taken -/
theorem part_full (ho : SOk es T l m) (h : SInv es T l m now st) : ∀ k, k ≤ m → (∀ i, i < k → now < (sPart es T l now st k).busy.getD i 0) ∨ nextT es T (sPart es T l now st k).ends now = none
  | 0, _ => .inl fun i hi => absurd hi (by omega)
  | k + 1, hk => by
    have hi := h.part ho k (by omega)
    show (∀ i, i < k + 1 → now < (sStep es T l now (sPart es T l now st k) k).busy.getD i 0) ∨ nextT es T (sStep es T l now (sPart es T l now st k) k).ends now = none
    cases hn : nextT es T (sPart es T l now st k).ends now with
    | none => rw [sStep_none hn]; exact .inr hn
    | some t =>
      rcases part_full ho h k (by omega) with hf | hf
      · refine .inl fun i hik => ?_
        by_cases e : i = k
        · subst e
          by_cases hb : now < (sPart es T l now st i).busy.getD i 0
          · rw [sStep_busy hb]; exact hb
          · rw [sStep_some hb hn]
            have hw := ho.w (nextT_some hn).1
            show now < ((sPart es T l now st i).busy.set i (now + l.getD t 0)).getD i 0
            rw [setD _ _ _ _ _ (by rw [hi.lb]; omega), if_pos rfl]
            omega
        · exact sStep_keeps ho hi (by omega) (hf i (by omega))
      · rw [hf] at hn; cases hn

/-- what may not be taken waits for something that is being done -/
theorem waits_for (ho : SOk es T l m) (hD : ∀ e ∈ es, D.getD e.1 0 + l.getD e.1 0 ≤ D.getD e.2 0) (hn : nextT es T st.ends now = none) :
    ∀ (j : Nat) (h : j < (orderL es T T).length), st.ends.getD (orderL es T T)[j] 0 < 0 → ∃ t, t < T ∧ now < st.ends.getD t 0 ∧ D.getD t 0 + l.getD t 0 ≤ D.getD (orderL es T T)[j] 0 := by
  have hord := orderL_inv ho.lt1 ho.ac T (Nat.le_refl _)
  intro j
  induction j using Nat.strongRecOn with
  | _ j ih =>
    intro h hlt
    have hjT := hord.lt _ (List.getElem_mem h)
    unfold nextT at hn
    rw [List.find?_eq_none] at hn
    have h1 := hn _ (List.mem_range.2 hjT)
    rw [mayStart_iff ho.lt1] at h1
    have h2 : ¬ ∀ s, (s, (orderL es T T)[j]) ∈ es → 0 ≤ st.ends.getD s 0 ∧ st.ends.getD s 0 ≤ now := fun hh => h1 ⟨hlt, hh⟩
    obtain ⟨s, h3⟩ := Classical.not_forall.1 h2
    obtain ⟨hs, h4⟩ := Classical.not_imp.1 h3
    have hd := hD _ hs
    simp only at hd
    by_cases h5 : now < st.ends.getD s 0
    · exact ⟨s, ho.lt1 _ hs, h5, hd⟩
    · have h6 : st.ends.getD s 0 < 0 := by omega
      obtain ⟨k, hk, hks⟩ := List.mem_take_iff_getElem.1 (hord.closed j h s hs)
      subst hks
      obtain ⟨t, a1, a2, a3⟩ := ih k (by omega) (by omega) h6
      have hw := ho.w (ho.lt1 _ hs)
      simp only at hw
      exact ⟨t, a1, a2, by omega⟩

theorem Used.round (ho : SOk es T l m) (hD : ∀ e ∈ es, D.getD e.1 0 + l.getD e.1 0 ≤ D.getD e.2 0) (hL : ∀ t, t < T → D.getD t 0 + l.getD t 0 ≤ L) (h : SInv es T l m now st) {q : Int} (hu : Used es T l D L m now st q) (hlt : st.out.length < T) :
    ∃ q', Used es T l D L m (nextI now (sPart es T l now st m).busy) (sPart es T l now st m) q' := by
  have hp := h.part ho m (Nat.le_refl _)
  have hup := hu.part ho h m (Nat.le_refl _)
  have hw := pass_works ho h hlt
  obtain ⟨n1, n2, n3⟩ := (hp.next hw).1
  have hfull := part_full ho h m (Nat.le_refl _)
  generalize sPart es T l now st m = s at *
  generalize nextI now s.busy = r at *
  have hm1 := ho.m1
  have hm8 := ho.m8
  have hend : ∀ t, t < T → now < s.ends.getD t 0 → r ≤ s.ends.getD t 0 := by
    intro t ht hlt
    obtain ⟨k, hk1, hk2⟩ := hp.e2b t ht hlt
    rw [← hk2]
    exact n3 _ (getD_mem (by rw [hp.lb]; exact hk1) 0) (by omega)
  have hq0 := hup.q0
  have hqL := hup.qL
  have hus := hup.use
  by_cases hall : ∀ i, i < m → now < s.busy.getD i 0
  · refine ⟨q, hq0, hqL, ?_, hup.rest, ?_, hup.all, hup.who⟩
    · have h1 := sum_map_all (f := left r) (g := left now) (d := r - now) (L := s.busy) fun x hx => by
        obtain ⟨k, hk1, hk2⟩ := mem_getD hx
        have h2 := hall k (by rw [← hp.lb]; exact hk1)
        have h3 := n3 x hx (by omega)
        unfold left
        omega
      rw [hp.lb] at h1
      have h2 : (m : Int) * r = m * now + m * (r - now) := by rw [← Int.mul_add]; congr 1; omega
      omega
    · intro t ht hlt
      have := hup.work t ht (by omega)
      omega
  · rcases hfull with hfull | hfull
    · exact absurd hfull hall
    obtain ⟨i, hi1, hi2⟩ := hw
    obtain ⟨t0, ht0, he0⟩ := hp.b2e i hi1 hi2
    have hwk0 := hup.work t0 ht0 (by omega)
    have hd0 := hend t0 ht0 (by omega)
    have hL0 := hL t0 ht0
    have hord := orderL_inv ho.lt1 ho.ac T (Nat.le_refl _)
    refine ⟨q + (r - now), by omega, by omega, ?_, ?_, ?_, hup.all, hup.who⟩
    · have h1 := sum_map_gap (f := left r) (g := left now) (d := r - now) (L := s.busy) (y := s.busy.getD i 0) (fun x _ => by unfold left; omega) (getD_mem (by rw [hp.lb]; exact hi1) 0) (by
        have := n3 _ (getD_mem (L := s.busy) (i := i) (by rw [hp.lb]; exact hi1) 0) hi2
        unfold left
        omega)
      have h2 : (m : Int) * r = m * now + m * (r - now) := by rw [← Int.mul_add]; congr 1; omega
      have h3 : ((m : Int) - 1) * (q + (r - now)) = (m - 1) * q + (m * (r - now) - (r - now)) := by rw [Int.mul_add, Int.sub_mul (m : Int) 1 (r - now), Int.one_mul]
      omega
    · intro u hu1 hu2
      obtain ⟨j, hj, rfl⟩ := List.getElem_of_mem (order_all hord hu1)
      obtain ⟨t, a1, a2, a3⟩ := waits_for ho hD hfull j hj hu2
      have h1 := hup.work t a1 a2
      have h2 := hend t a1 a2
      omega
    · intro t ht hlt
      have := hup.work t ht (by omega)
      omega

theorem sGo_ends (ho : SOk es T l m) (G : Int → Sst → Prop) (hG : ∀ now st, SInv es T l m now st → G now st → st.out.length < T → G (nextI now (sPart es T l now st m).busy) (sPart es T l now st m)) :
    ∀ (f : Nat) (now : Int) (st : Sst), SInv es T l m now st → G now st → 12000 - now < f → ∃ now' st', SInv es T l m now' st' ∧ G now' st' ∧ T ≤ st'.out.length ∧ sGo es T l m f now st = st'.out
  | 0, now, st, h, hg, hf => by
    have h1 := h.nowL
    have h2 := h.short
    have h3 := ho.T12
    omega
  | f + 1, now, st, h, hg, hf => by
    by_cases hlt : st.out.length < T
    · obtain ⟨r1, r2, r3⟩ := h.round ho hlt
      rw [sGo_more hlt]
      exact sGo_ends ho G hG f _ _ r1 (hG now st h hg hlt) (by omega)
    · exact ⟨now, st, h, hg, by omega, sGo_done (by omega)⟩

def schedL (es : List (Nat × Nat)) (T : Nat) (l : List Int) (m : Nat) : List Slot := sGo es T l m 12001 0 (sStart T m)

theorem Used.start (ho : SOk es T l m) (hD : ∀ t, t < T → 0 ≤ D.getD t 0) (hL : 0 ≤ L) : Used es T l D L m 0 (sStart T m) 0 := by
  refine ⟨Int.le_refl _, hL, ?_, fun t ht _ => hD t ht, ?_, ?_, ?_⟩
  · have : ((List.replicate m (0 : Int)).map (left 0)).sum = 0 := by
      rw [List.map_replicate]
      have : left 0 0 = 0 := by simp [left]
      rw [this]
      simp
    show (m : Int) * 0 ≤ spent [] - ((List.replicate m (0 : Int)).map (left 0)).sum + _
    rw [this]
    simp [spent]
  · intro t ht h
    have := (SInv.start ho).endsL t ht
    have h2 : (sStart T m).out.length = 0 := rfl
    rw [h2] at this
    omega
  · show spent [] ≤ (List.replicate m (0 : Int)).sum
    simp [spent]
  · intro b hb
    exact .inl (List.eq_of_mem_replicate hb)

/-- what the handing out comes to -/
structure Sched (es : List (Nat × Nat)) (T : Nat) (l : List Int) (m : Nat) (s : List Slot) : Prop where
  len : s.length = T
  fit : slsOk T l m s s.length
  ahead : ∀ e ∈ es, ∀ y ∈ s, y.task = (e.2 : Int) → ∃ x ∈ s, x.task = (e.1 : Int) ∧ x.to ≤ y.fr
  late : ∀ x ∈ s, 0 ≤ x.fr ∧ x.to ≤ 12000
theorem sched_is (ho : SOk es T l m) : Sched es T l m (schedL es T l m) := by
  obtain ⟨now, st, h, _, hT, he⟩ := sGo_ends ho (fun _ _ => True) (fun _ _ _ _ _ => trivial) 12001 0 (sStart T m) (SInv.start ho) trivial (by omega)
  unfold schedL
  rw [he]
  have hs := h.short
  refine ⟨by omega, h.fit, h.ahead, fun x hx => ?_⟩
  have h1 := h.parts hx
  have h2 := h.ended x hx
  have h3 := h.endsL x.task.toNat (by omega)
  have h4 := ho.T12
  omega

theorem endOf_max : ∀ (s : List Slot), (∀ x ∈ s, x.to ≤ endOf s) ∧ (s ≠ [] → ∃ x ∈ s, x.to = endOf s) := by
  intro s
  suffices h : ∀ n (s : List Slot), s.length = n → (∀ x ∈ s, x.to ≤ endOf s) ∧ (s ≠ [] → ∃ x ∈ s, x.to = endOf s) from h _ s rfl
  intro n
  induction n with
  | zero =>
    intro s hs
    have : s = [] := List.eq_nil_of_length_eq_zero hs
    subst this
    exact ⟨fun x hx => absurd hx (by simp), fun h => absurd rfl h⟩
  | succ n ih =>
    intro s hs
    have hne : s ≠ [] := by rintro rfl; simp at hs
    obtain ⟨r, y, rfl⟩ : ∃ r y, s = r ++ [y] := ⟨_, _, (List.dropLast_concat_getLast hne).symm⟩
    obtain ⟨a1, a2⟩ := ih r (by simpa using hs)
    rw [endOf_snoc]
    by_cases hr : r = []
    · subst hr
      rw [if_pos rfl]
      simp
    · rw [if_neg hr]
      obtain ⟨z, hz, hze⟩ := a2 hr
      refine ⟨?_, fun _ => ?_⟩
      · intro x hx
        rcases List.mem_append.1 hx with hx | hx
        · have := a1 x hx
          split <;> omega
        · rw [List.mem_singleton.1 hx]
          split <;> omega
      · split
        · exact ⟨y, by simp, rfl⟩
        · exact ⟨z, by simp [hz], hze⟩

theorem Sched.spent (ho : SOk es T l m) {s : List Slot} (h : Sched es T l m s) : Go.Proofs.Ytoccmpijfggmkaa.spent s = l.sum := by
  have hp : ∀ x ∈ s, (0 ≤ x.task ∧ x.task < T) ∧ x.to = x.fr + l.getD x.task.toNat 0 := fun x hx => by
    obtain ⟨j, hj, rfl⟩ := List.getElem_of_mem hx
    have := slotOk1_parts (h.fit j hj hj)
    exact ⟨by omega, this.2.2.2.1⟩
  have hnd : (s.map fun x => x.task.toNat).Nodup := by
    rw [List.nodup_iff_pairwise_ne, List.pairwise_map, List.pairwise_iff_getElem]
    intro i j hi hj hij he
    have h2 := (slotOk1_parts (h.fit j hj hj)).2.1 s[i] (List.mem_take_iff_getElem.2 ⟨i, by omega, rfl⟩)
    have h3 := hp _ (List.getElem_mem hi)
    have h4 := hp _ (List.getElem_mem hj)
    exact h2 (by omega)
  have hperm : (s.map fun x => x.task.toNat).Perm (List.range T) := by
    refine (List.perm_ext_iff_of_nodup hnd List.nodup_range).2 fun t => ?_
    constructor
    · intro ht
      obtain ⟨x, hx, rfl⟩ := List.mem_map.1 ht
      have := hp x hx
      exact List.mem_range.2 (by omega)
    · intro ht
      obtain ⟨x, hx, hxt⟩ := all_met (T := T) h.fit (by rw [h.len]) (t : Int) (by omega) (by have := List.mem_range.1 ht; omega)
      exact List.mem_map.2 ⟨x, hx, by omega⟩
  have h1 := perm_sum (hperm.map fun t => l.getD t 0)
  rw [← ho.len, sum_range, List.map_map] at h1
  rw [← h1]
  unfold Go.Proofs.Ytoccmpijfggmkaa.spent
  congr 1
  refine List.map_congr_left fun x hx => ?_
  have := hp x hx
  simp only [Function.comp]
  omega

/-- the end of the handing out: not ahead of the longest way, not ahead of the work shared out, and not far behind them -/
theorem sched_end {p : Plan} (hf : weightsOk p l = true) (ho : SOk (esOf p) p.tasks.toNat l m) :
    longestOf p l ≤ endOf (schedL (esOf p) p.tasks.toNat l m) ∧ l.sum ≤ m * endOf (schedL (esOf p) p.tasks.toNat l m) ∧ m * endOf (schedL (esOf p) p.tasks.toNat l m) ≤ l.sum + (m - 1) * longestOf p l := by
  have ht := times_of hf
  have hs := sched_is ho
  have hsp := hs.spent ho
  have hT1 := manyOk_tasks (planFault_zero.1 (weightsOk_all hf).1).1
  obtain ⟨now, st, h, ⟨q, hu⟩, hT, he⟩ := sGo_ends ho (fun now st => ∃ q, Used (esOf p) p.tasks.toNat l (latestOf p l) (longestOf p l) m now st q) (fun now st hi ⟨q, hu⟩ hlt => hu.round ho ht.dle ht.dlong hi hlt) 12001 0 (sStart p.tasks.toNat m) (SInv.start ho)
    ⟨0, Used.start ho (fun t h => by have := ht.ed t h; have := ht.enn t; omega) (longestOf_bd hf).1⟩ (by omega)
  have hse : schedL (esOf p) p.tasks.toNat l m = st.out := he
  rw [hse] at hs hsp ⊢
  obtain ⟨e1, e2⟩ := endOf_max st.out
  obtain ⟨z, hz, hze⟩ := e2 (by intro h0; rw [h0] at hT; simp at hT; omega)
  have hpz := h.parts hz
  have hz2 := h.ended z hz
  have hwz := ho.w (t := z.task.toNat) (by omega)
  refine ⟨?_, ?_, ?_⟩
  · have key : ∀ j (hj : j < (orderOf p).length), ∀ y ∈ st.out, y.task = ((orderOf p)[j] : Int) → (earliestOf p l).getD (orderOf p)[j] 0 ≤ y.fr := by
      have hord := orderOf_inv (weightsOk_all hf).1
      intro j
      induction j using Nat.strongRecOn with
      | _ j ih =>
        intro hj y hy hyt
        have hjT := hord.lt _ (List.getElem_mem hj)
        rcases ht.eeq _ hjT with h0 | ⟨a, ha, h0⟩
        · have := h.parts hy
          omega
        · obtain ⟨x, hx, hxa, hxy⟩ := h.ahead _ ha y hy hyt
          obtain ⟨k, hk, hka⟩ := List.mem_take_iff_getElem.1 (hord.closed j hj a ha)
          subst hka
          have h1 := ih k (by omega) (by omega) x hx hxa
          have h2 := (h.parts hx).2.2.1
          simp only at hxa
          rw [hxa, Int.toNat_natCast] at h2
          omega
    obtain ⟨t, htT, htm⟩ := ht.emax
    obtain ⟨j, hj, rfl⟩ := List.getElem_of_mem (order_all (orderOf_inv (weightsOk_all hf).1) htT)
    obtain ⟨y, hy, hyt⟩ := all_met (T := (p.tasks.toNat : Int)) h.fit (by rw [hs.len]) ((orderOf p)[j] : Int) (by omega) (by omega)
    have h1 := key j hj y hy hyt
    have h2 := (h.parts hy).2.2.1
    rw [hyt, Int.toNat_natCast] at h2
    have h3 := e1 y hy
    omega
  · rw [← hsp]
    have h1 := sum_le_all (L := st.busy) (c := endOf st.out) fun b hb => by
      rcases hu.who b hb with rfl | ⟨x, hx, rfl⟩
      · omega
      · exact e1 x hx
    rw [h.lb] at h1
    have h2 := hu.all
    omega
  · rw [← hsp]
    have hus := hu.use
    have hqL := hu.qL
    have hm1 := ho.m1
    by_cases hlt : now < endOf st.out
    · obtain ⟨k, hk1, hk2⟩ := h.e2b z.task.toNat (by omega) (by omega)
      have h1 := sum_map_gap (f := fun _ => 0) (g := left now) (d := endOf st.out - now) (L := st.busy) (y := st.busy.getD k 0) (fun x _ => by unfold left; omega) (getD_mem (by rw [h.lb]; exact hk1) 0) (by unfold left; omega)
      have h0 : (st.busy.map fun _ => (0 : Int)).sum = 0 := by
        rw [List.map_const']
        simp
      rw [h0] at h1
      have h2 := hu.work z.task.toNat (by omega) (by omega)
      have h3 := ht.dlong z.task.toNat (by omega)
      have h4 : (m : Int) * endOf st.out = m * now + m * (endOf st.out - now) := by rw [← Int.mul_add]; congr 1; omega
      have h5 : ((m : Int) - 1) * (q + (endOf st.out - now)) ≤ (m - 1) * longestOf p l := Int.mul_le_mul_of_nonneg_left (by omega) (by omega)
      have h6 : ((m : Int) - 1) * (q + (endOf st.out - now)) = (m - 1) * q + (m * (endOf st.out - now) - (endOf st.out - now)) := by rw [Int.mul_add, Int.sub_mul (m : Int) 1 (endOf st.out - now), Int.one_mul]
      omega
    · have h0 : 0 ≤ (st.busy.map (left now)).sum := by
        have := sum_map_le (f := fun _ => 0) (g := left now) (L := st.busy) (fun x _ => by unfold left; omega)
        rw [List.map_const'] at this
        simpa using this
      have h1 : (m : Int) * endOf st.out ≤ m * now := Int.mul_le_mul_of_nonneg_left (by omega) (by omega)
      have h2 : ((m : Int) - 1) * q ≤ (m - 1) * longestOf p l := Int.mul_le_mul_of_nonneg_left hqL (by omega)
      omega
end

/-- the slots that the program hands out -/
noncomputable def schedOf (p : Plan) (l : List Int) (many : Int) : List Slot := if weightsOk p l = true ∧ inB many 1 8 = true then schedL (esOf p) p.tasks.toNat l many.toNat else []
theorem sOk_of {p : Plan} {l : List Int} {many : Int} (hf : weightsOk p l = true) (hm : inB many 1 8 = true) : SOk (esOf p) p.tasks.toNat l many.toNat := by
  obtain ⟨g1, g2, g3⟩ := weightsOk_all hf
  obtain ⟨q1, q2, q3, q4⟩ := planFault_zero.1 g1
  have hT := manyOk_tasks q1
  obtain ⟨h1, h2⟩ := esOf_lt q2
  have := inB_iff.1 hm
  exact ⟨h1, h2, plan_ac g1, by omega, by omega, g3, by omega, by omega⟩
theorem taskSlot_of {T : Int} {l : List Int} {many : Int} {s : List Slot} (h : slsOk T l many s s.length) {x : Slot} (hx : x ∈ s) : taskSlot s x.task = x := by
  obtain ⟨j, hj, rfl⟩ := List.getElem_of_mem hx
  unfold taskSlot
  have : s.find? (fun y => y.task == s[j].task) = some s[j] := by
    rw [List.find?_eq_some_iff_getElem]
    refine ⟨by simp, j, hj, rfl, fun i hi => ?_⟩
    have := (slotOk1_parts (h j hj hj)).2.1 s[i] (List.mem_take_iff_getElem.2 ⟨i, by omega, rfl⟩)
    simpa using this
  rw [this]
  rfl
theorem sched_fits {p : Plan} {l : List Int} {many : Int} (hf : weightsOk p l = true) (hm : inB many 1 8 = true) : slotsOk p l many (schedOf p l many) = true := by
  have ho := sOk_of hf hm
  have hs := sched_is ho
  have hT := manyOk_tasks (planFault_zero.1 (weightsOk_all hf).1).1
  have hm' := inB_iff.1 hm
  have he : schedOf p l many = schedL (esOf p) p.tasks.toNat l many.toNat := by unfold schedOf; rw [if_pos ⟨hf, hm⟩]
  rw [slotsOk_iff, he]
  have e1 : ((p.tasks.toNat : Nat) : Int) = p.tasks := by omega
  have e2 : ((many.toNat : Nat) : Int) = many := by omega
  have hfit := hs.fit
  rw [e1, e2] at hfit
  refine ⟨hf, hm, by rw [hs.len]; omega, hfit, fun j hj _ => ?_⟩
  have hin := edgesIn_get (planFault_zero.1 (weightsOk_all hf).1).2.1 hj
  have hmem : (p.edges[j].fr.toNat, p.edges[j].to.toNat) ∈ esOf p := by
    simp only [esOf, esL, List.mem_map]
    exact ⟨_, List.getElem_mem hj, rfl⟩
  obtain ⟨y, hy, hyt⟩ := all_met (T := p.tasks) hfit (by rw [hs.len]; omega) p.edges[j].to (by omega) (by omega)
  obtain ⟨x, hx, hxt, hxy⟩ := hs.ahead _ hmem y hy (by simp only; omega)
  simp only at hxt
  have h1 := taskSlot_of hfit hy
  have h2 := taskSlot_of hfit hx
  rw [hyt] at h1
  rw [show x.task = p.edges[j].fr by omega] at h2
  rw [h1, h2]
  omega
end Go.Proofs.Ytoccmpijfggmkaa
