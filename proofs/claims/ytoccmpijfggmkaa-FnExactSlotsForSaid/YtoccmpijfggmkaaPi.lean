/-
  PlanFault of the program.
-/
import Derived.Test.YtoccmpijfggmkaaWa
import Derived.Test.YtoccmpijfggmkaaFx
namespace Go.Proofs.Ytoccmpijfggmkaa
open Go.RowKit
set_option maxRecDepth 100000
set_option maxHeartbeats 1000000

theorem indexEdge_any (v : Value) (l : List Edge) (x : Edge) (w : World) (hl : l.length ≤ 2000000) (h : Rd edgeE w w.heap.size v l) :
    Calls Try.prog 156 #[v, edgeV x] w fun e w' => e = .returned (.int .i64 (idxOf (fun y => decide (x = y)) l)) ∧ Below w.heap.size w w' := by
  obtain ⟨A, c, rfl, -⟩ := id h
  unfold edgeV
  go_enter Try.func156, Try.ntmps156
  go_wp2
  go_loopw [8] (fun i wr => ∃ k : Nat, k ≤ l.length ∧ i = .int .i64 k ∧ Hid (∀ j (hj : j < k) (hj' : j < l.length), decide (x = l[j]) = false) ∧ Below (w.alloc (.cells #[.int .i64 x.fr, .int .i64 x.to] 91)).heap.size (w.alloc (.cells #[.int .i64 x.fr, .int .i64 x.to] 91)) wr) (fun i _ => l.length - (intOf i).toNat)
  case atStart => exact ⟨0, Nat.zero_le _, rfl, fun j hj => absurd hj (by omega), Below.refl _ _⟩
  case round =>
    obtain ⟨k, hk, rfl, hno, hb⟩ := hrel
    have hb0 : Below w.heap.size w (w.alloc (.cells #[.int .i64 x.fr, .int .i64 x.to] 91)) := (Below.refl _ _).alloc (Nat.le_refl _) _
    have hbw := bnext hb0 hb
    by_cases hlt : k < l.length
    · obtain ⟨b, o, rfl, hbb, c0, c1⟩ := (h.below hbw).edge hlt
      have n0 : wr.cell? ⟨w.heap.size, 0, none⟩ = some (.int .i64 x.fr) := (hb.cell (p := ⟨w.heap.size, 0, none⟩) (by simp)).trans (by go_simp)
      have n1 : wr.cell? ⟨w.heap.size, 1, none⟩ = some (.int .i64 x.to) := (hb.cell (p := ⟨w.heap.size, 1, none⟩) (by simp)).trans (by go_simp)
      by_cases hx : x = l[k]
      · have H := Lib.hid (idxOf_found (p := fun y => decide (x = y)) hlt (fun j hj => hno.out j hj (by omega)) (show decide (x = l[k]) = true by simp [hx]))
        have e0 : l[k].fr = x.fr := by rw [hx]
        have e1 : l[k].to = x.to := by rw [hx]
        rw [e0] at c0
        rw [e1] at c1
        clear hx e0 e1
        go_wp2
        go_quiet (fail)
        go_wp2
        go_ret
        exact ⟨ret_int (by rw [H.out]), bdrewN hbw _⟩
      · have S : Hid (∀ j (hj : j < k + 1) (hj' : j < l.length), decide (x = l[j]) = false) := by
          intro j hj hj'
          by_cases e : j = k
          · subst e; simpa using hx
          · exact hno.out j (by omega) hj'
        have hx' : ¬ (x.fr = l[k].fr ∧ x.to = l[k].to) := fun ⟨e0, e1⟩ => hx (by cases x; cases hlk : l[k]; simp_all)
        clear hx
        by_cases e0 : x.fr = l[k].fr
        · have e1 : ¬ x.to = l[k].to := fun e => hx' ⟨e0, e⟩
          have e1' : (x.to == l[k].to) = false := by simpa using e1
          rw [← e0] at c0
          clear hx' e0
          go_wp2
          go_quiet (fail)
          go_wp2
          exact ⟨⟨k + 1, by omega, by go_num, S, bdrewN hb _⟩, by simp [intOf]; omega⟩
        · have e0' : (x.fr == l[k].fr) = false := by simpa using e0
          clear hx'
          go_wp2
          go_quiet (fail)
          go_wp2
          exact ⟨⟨k + 1, by omega, by go_num, S, bdrewN hb _⟩, by simp [intOf]; omega⟩
    · have H := Lib.hid (idxOf_none (p := fun y => decide (x = y)) (l := l) (fun j hj => hno.out j (by omega) hj))
      go_wp2
      go_ret
      exact ⟨ret_int (by rw [H.out]), hbw⟩

theorem idxOf_mem {l : List Edge} {x : Edge} : (0 ≤ idxOf (fun y => decide (x = y)) l) ↔ x ∈ l := by
  unfold idxOf
  cases h : l.findIdx? (fun y => decide (x = y)) with
  | none =>
    rw [List.findIdx?_eq_none_iff] at h
    simp only
    refine ⟨fun h => absurd h (by omega), fun hx => ?_⟩
    have := h x hx
    simp at this
  | some i =>
    rw [List.findIdx?_eq_some_iff_getElem] at h
    obtain ⟨hi, hp, _⟩ := h
    simp only [decide_eq_true_eq] at hp
    simp only
    exact ⟨fun _ => by rw [hp]; exact List.getElem_mem hi, fun _ => by omega⟩

theorem containsEdge_any (v : Value) (l : List Edge) (x : Edge) (w : World) (hl : l.length ≤ 2000000) (h : Rd edgeE w w.heap.size v l) :
    Calls Try.prog 147 #[v, edgeV x] w fun e w' => e = .returned (.bool (decide (x ∈ l))) ∧ Below w.heap.size w w' := by
  have hb0 : Below w.heap.size w (w.alloc (.cells #[.int .i64 x.fr, .int .i64 x.to] 91)) := (Below.refl _ _).alloc (Nat.le_refl _) _
  have H := Lib.hid (show decide (0 ≤ idxOf (fun y => decide (x = y)) l) = decide (x ∈ l) from decide_eq_decide.2 idxOf_mem)
  unfold edgeV
  go_enter Try.func147, Try.ntmps147
  go_wp2_with fail
  refine (indexEdge_any v l x _ hl ((h.below hb0).more hb0.size)).mono ?_
  rintro e w1 ⟨rfl, hb1⟩
  go_wp2_with fail
  go_ret
  exact ⟨ret_bool (by rw [← H.out]), bnext hb0 hb1⟩

theorem planFault_many {p : Plan} (h : manyOk p = false) : planFault p = 1 := by unfold planFault; rw [if_pos h]
theorem planFault_edge {p : Plan} (h : manyOk p = true) (h2 : ¬ edgesIn p) : planFault p = 2 := by unfold planFault; rw [if_neg (by rw [h]; simp), if_pos h2]
theorem planFault_twice {p : Plan} (h : manyOk p = true) (h2 : edgesIn p) (h3 : ¬ p.edges.Nodup) : planFault p = 3 := by
  unfold planFault; rw [if_neg (by rw [h]; simp), if_neg (by simpa using h2), if_pos h3]
theorem planFault_cycle {p : Plan} (h : manyOk p = true) (h2 : edgesIn p) (h3 : p.edges.Nodup) (h4 : cyclic p) : planFault p = 4 := by
  unfold planFault; rw [if_neg (by rw [h]; simp), if_neg (by simpa using h2), if_neg (by simpa using h3), if_pos h4]

theorem nodup_snoc {α : Type} {l : List α} {x : α} : (l ++ [x]).Nodup ↔ l.Nodup ∧ x ∉ l := by
  rw [List.nodup_append]
  constructor
  · rintro ⟨h1, _, h2⟩
    exact ⟨h1, fun hx => h2 x hx x (by simp) rfl⟩
  · rintro ⟨h1, h2⟩
    refine ⟨h1, by simp, fun a ha b hb e => ?_⟩
    simp only [List.mem_singleton] at hb
    subst hb; subst e
    exact h2 ha

theorem implPlanFault_many (p : Plan) (ve : Value) (w : World) (hl : p.edges.length ≤ 2000000) (h : Rd edgeE w w.heap.size ve p.edges) (hm : manyOk p = false) :
    Calls Try.prog 119 #[planV p ve] w fun e w' => e = .returned (.int .i64 (planFault p)) ∧ Below w.heap.size w w' := by
  have H := Lib.hid (planFault_many hm)
  obtain ⟨A, c, rfl, -⟩ := id h
  unfold planV
  cases h1 : inB p.tasks 1 12
  · clear hm
    go_enter Try.func119, Try.ntmps119
    go_wp2_with (go_at_call 114; refine (within_any _ _ _ _).mono ?_; rintro e w' ⟨rfl, rfl⟩)
    go_ret
    exact ⟨ret_int H.out.symm, (Below.refl _ _).alloc (Nat.le_refl _) _⟩
  by_cases h2 : 30 < p.edges.length
  · have h2' : (30 : Int) < (p.edges.length : Int) := by omega
    clear hm
    go_enter Try.func119, Try.ntmps119
    go_wp2_with (go_at_call 114; refine (within_any _ _ _ _).mono ?_; rintro e w' ⟨rfl, rfl⟩)
    go_ret
    exact ⟨ret_int H.out.symm, (Below.refl _ _).alloc (Nat.le_refl _) _⟩
  have h2' : ¬ (30 : Int) < (p.edges.length : Int) := by omega
  cases h3 : inB p.prio 0 9
  · clear hm
    go_enter Try.func119, Try.ntmps119
    go_wp2_with (go_at_call 114; refine (within_any _ _ _ _).mono ?_; rintro e w' ⟨rfl, rfl⟩)
    go_ret
    exact ⟨ret_int H.out.symm, (Below.refl _ _).alloc (Nat.le_refl _) _⟩
  cases h4 : inB p.most 1 5
  · clear hm
    go_enter Try.func119, Try.ntmps119
    go_wp2_with (go_at_call 114; refine (within_any _ _ _ _).mono ?_; rintro e w' ⟨rfl, rfl⟩)
    go_ret
    exact ⟨ret_int H.out.symm, (Below.refl _ _).alloc (Nat.le_refl _) _⟩
  cases h5 : inB p.wait 1 20
  · clear hm
    go_enter Try.func119, Try.ntmps119
    go_wp2_with (go_at_call 114; refine (within_any _ _ _ _).mono ?_; rintro e w' ⟨rfl, rfl⟩)
    go_ret
    exact ⟨ret_int H.out.symm, (Below.refl _ _).alloc (Nat.le_refl _) _⟩
  · exfalso
    have : manyOk p = true := by simp [manyOk, h1, h3, h4, h5]; omega
    rw [this] at hm
    cases hm
end Go.Proofs.Ytoccmpijfggmkaa
