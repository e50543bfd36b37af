/-
  What a task waits for, what waits for it: the plain lists; l06Before and l06Behind of the reference.
-/
import Derived.Test.YtoccmpijfggmkaaAp
import Derived.Test.YtoccmpijfggmkaaPj
namespace Go.Proofs.Ytoccmpijfggmkaa
open Go.RowKit
set_option maxRecDepth 100000
set_option maxHeartbeats 2000000

/-- what t waits for, in order -/
def beforeL (es : List (Nat × Nat)) (T t : Nat) : List Nat := (List.range T).filter fun s => decide ((s, t) ∈ es)
/-- what waits for t, in order -/
def behindL (es : List (Nat × Nat)) (T t : Nat) : List Nat := (List.range T).filter fun s => decide ((t, s) ∈ es)
/-- x if q is in l -/
def onceL (l : List (Nat × Nat)) (q : Nat × Nat) (x : Nat) : List Nat := if q ∈ l then [x] else []
theorem beforeL_succ (es : List (Nat × Nat)) (k t : Nat) : beforeL es (k + 1) t = beforeL es k t ++ onceL es (k, t) k := by
  unfold beforeL onceL
  rw [List.range_succ, List.filter_append]
  by_cases h : (k, t) ∈ es <;> simp [h]
theorem behindL_succ (es : List (Nat × Nat)) (k t : Nat) : behindL es (k + 1) t = behindL es k t ++ onceL es (t, k) k := by
  unfold behindL onceL
  rw [List.range_succ, List.filter_append]
  by_cases h : (t, k) ∈ es <;> simp [h]
theorem beforeL_len (es : List (Nat × Nat)) (T t : Nat) : (beforeL es T t).length ≤ T := by
  have := List.length_filter_le (fun s => decide ((s, t) ∈ es)) (List.range T)
  simpa [beforeL] using this
theorem behindL_len (es : List (Nat × Nat)) (T t : Nat) : (behindL es T t).length ≤ T := by
  have := List.length_filter_le (fun s => decide ((t, s) ∈ es)) (List.range T)
  simpa [behindL] using this
theorem onceL_len (l : List (Nat × Nat)) (q : Nat × Nat) (x : Nat) : (onceL l q x).length ≤ 1 := by
  unfold onceL
  split <;> simp
theorem onceL_yes {l l' : List (Nat × Nat)} {q : Nat × Nat} {x : Nat} (h : l' = l ++ [q]) (hq : q ∉ l) : onceL l' q x = onceL l q x ++ [x] := by
  subst h
  simp [onceL, hq]
theorem onceL_no {l l' : List (Nat × Nat)} {q e : Nat × Nat} {x : Nat} (h : l' = l ++ [e]) (hq : e ≠ q) : onceL l' q x = onceL l q x := by
  subst h
  simp [onceL, Ne.symm hq]
theorem esL_new {p : Plan} (he : edgesIn p) (hn : p.edges.Nodup) {j : Nat} (hj : j < p.edges.length) : (p.edges[j].fr.toNat, p.edges[j].to.toNat) ∉ esL (p.edges.take j) := by
  intro hm
  simp only [esL, List.mem_map] at hm
  obtain ⟨e, hel, hee⟩ := hm
  obtain ⟨i, hi, rfl⟩ := List.getElem_of_mem hel
  have hi2 : i < j := by
    rw [List.length_take] at hi
    omega
  rw [List.getElem_take] at hee
  have h1 := edgesIn_get he (k := i) (by omega)
  have h2 := edgesIn_get he hj
  simp only [Prod.mk.injEq] at hee
  have e1 : p.edges[i].fr = p.edges[j].fr := by omega
  have e2 : p.edges[i].to = p.edges[j].to := by omega
  have : p.edges[i] = p.edges[j] := by
    cases hx : p.edges[i]; cases hy : p.edges[j]
    rw [hx, hy] at e1 e2
    simp only at e1 e2
    rw [e1, e2]
  exact List.pairwise_iff_getElem.1 hn i j (by omega) hj hi2 this

theorem specBefore_any (p : Plan) (ve : Value) (t : Nat) (w : World) (hm : manyOk p = true) (he : edgesIn p) (hn : p.edges.Nodup) (h : Rd edgeE w w.heap.size ve p.edges) :
    Calls Try.prog 136 #[planV p ve, .int .i64 (t : Int)] w fun e w' => ∃ v, e = .returned v ∧ Ow natE 3 w' w.heap.size v (beforeL (esOf p) p.tasks.toNat t) ∧ Below w.heap.size w w' := by
  obtain ⟨A, c, rfl, -⟩ := id h
  obtain ⟨t1, t2⟩ := manyOk_tasks hm
  have hlen := manyOk_edges hm
  obtain ⟨T, hT⟩ := Int.eq_ofNat_of_zero_le (show 0 ≤ p.tasks by omega)
  have HT := Lib.hid hT
  have HTn := Lib.hid (show p.tasks.toNat = T by omega)
  have hT12 : T ≤ 12 := by omega
  clear hT
  obtain ⟨j0, hj0, jz0, jz1, jz2⟩ := info_parts int_info
  unfold planV
  go_enter Try.func136, Try.ntmps136
  go_wp2
  go_loopw [5, 6] (fun vl i wr => ∃ k : Nat, k ≤ T ∧ i = .int .i64 k ∧ Ow natE 3 wr (w.heap.size + 1) vl (beforeL (esOf p) k t) ∧ BoxAt w.heap.size p (.slice A p.edges.length c) wr ∧ Below w.heap.size w wr) (fun _ i _ => T - (intOf i).toNat)
  case atStart =>
    have D := BoxAt.new 47 p (.slice A p.edges.length c) w
    refine ⟨0, Nat.zero_le _, rfl, ?_, D.below ((Below.refl _ _).alloc (Nat.le_refl _) _), ?_⟩
    · exact (Ow.empty natE 3 (planBox 47 p (.slice A p.edges.length c) w) (g := w.heap.size + 1) (by rw [planBox_size]))
    · repeat (first | exact Below.refl _ _ | refine Below.alloc ?_ (by simp <;> omega) _)
  case round =>
    obtain ⟨k, hk, rfl, ho, D, hb⟩ := hrel
    obtain ⟨x0, x1, x2, x3, x4, xs⟩ := D.cells
    by_cases hlt : k < T
    · have hltI : (k : Int) < p.tasks := by rw [HT.out]; omega
      obtain ⟨wo, rfl⟩ : ∃ wo : World, wo = wr := ⟨_, rfl⟩
      go_wp2
      clear x0 x1 x2 x3 x4 xs
      go_loopw [5, 7] (fun vl i wr => ∃ j : Nat, j ≤ p.edges.length ∧ i = .int .i64 j ∧ Ow natE 3 wr (w.heap.size + 1) vl (beforeL (esOf p) k t ++ onceL (esL (p.edges.take j)) (k, t) k) ∧ BoxAt w.heap.size p (.slice A p.edges.length c) wr ∧ Below w.heap.size w wr) (fun _ i _ => p.edges.length - (intOf i).toNat)
      case atStart => exact ⟨0, Nat.zero_le _, rfl, by simpa [onceL, esL] using ho, D, hb⟩
      case round =>
        clear ho D hb
        obtain ⟨j, hj, rfl, ho, D, hb⟩ := hrel
        obtain ⟨x0, x1, x2, x3, x4, xs⟩ := D.cells
        by_cases hjt : j < p.edges.length
        · have hjI : (j : Int) < (p.edges.length : Int) := by omega
          obtain ⟨b, o, rfl, hbb, c0, c1⟩ := (h.below hb).edge hjt
          obtain ⟨f1, f2, f3, f4⟩ := edgesIn_get he hjt
          have htk := Lib.hid (show esL (p.edges.take (j + 1)) = esL (p.edges.take j) ++ [(p.edges[j].fr.toNat, p.edges[j].to.toNat)] by unfold esL; rw [take_snoc _ j hjt, List.map_append]; rfl)
          have hnew := Lib.hid (esL_new he hn hjt)
          generalize p.edges[j].fr = fx at *
          generalize p.edges[j].to = tx at *
          obtain ⟨a, rfl⟩ := Int.eq_ofNat_of_zero_le f1
          obtain ⟨d, rfl⟩ := Int.eq_ofNat_of_zero_le f3
          simp only [Int.toNat_natCast] at htk hnew
          by_cases hxy : a = k ∧ d = t
          · obtain ⟨e1, e2⟩ := hxy
            subst e1
            subst e2
            have S := Lib.hid (onceL_yes (l := esL (p.edges.take j)) (l' := esL (p.edges.take (j + 1))) (q := (a, d)) (x := a) htk.out hnew.out)
            have Hl := Lib.hid (show (beforeL (esOf p) a d ++ onceL (esL (p.edges.take j)) (a, d) a).length ≤ 3000000 by
              have h1 := beforeL_len (esOf p) a d
              have h2 := onceL_len (esL (p.edges.take j)) (a, d) a
              rw [List.length_append]
              omega)
            have hab : ((a : Int) == (a : Int)) = true := by simp
            have hab2 : ((d : Int) == (d : Int)) = true := by simp
            have ha : Hid (∀ w : World, Below w.heap.size w (w.alloc (.cells #[.int .i64 (a : Int)] 3))) := fun w => (Below.refl _ _).alloc (Nat.le_refl _) _
            go_wp2_with (at_builtin; refine wpList_push_all _ natE (by decide) rfl (.tmp 40) (.tmp 42) rfl Try.underlying50 hj0 jz0 jz1 jz2 rfl (l := beforeL (esOf p) a d ++ onceL (esL (p.edges.take j)) (a, d) a) rfl (ho.below (ha.out wr)) rfl (Rd.one natE _ _ a rfl rfl 1 (Nat.le_refl _) (Nat.lt_succ_self _)) Hl.out (by simp) (by decide) (by simp; omega) ?_; intro v5 w5 o5 g5 _)
            have D5 := (D.below (ha.out wr)).far g5 (fun e => by have := ho.within _ e.symm; omega)
            have hb' := bnext hb (ha.out wr)
            have W5 := hb'.grown g5 hb'.size (fun g hg => by have := ho.within _ hg; omega)
            refine ⟨⟨j + 1, by omega, by go_num, ?_, D5, W5⟩, by simp [intOf]; omega⟩
            rw [S.out, ← List.append_assoc]
            exact o5
          · have S := Lib.hid (onceL_no (l := esL (p.edges.take j)) (l' := esL (p.edges.take (j + 1))) (q := (k, t)) (e := (a, d)) (x := k) htk.out (fun e => hxy (by simp only [Prod.mk.injEq] at e; omega)))
            have hout : ∀ w', Below wr.heap.size wr w' → (∃ j_1 : Nat, j_1 ≤ p.edges.length ∧ Value.int .i64 ((j : Int) + 1) = Value.int .i64 (j_1 : Int) ∧ Ow natE 3 w' (w.heap.size + 1) u5 (beforeL (esOf p) k t ++ onceL (esL (p.edges.take j_1)) (k, t) k) ∧ BoxAt w.heap.size p (.slice (some ⟨b, o, none⟩) p.edges.length c) w' ∧ Below w.heap.size w w') := fun w' hw' => ⟨j + 1, by omega, by go_num, by rw [S.out]; exact ho.below hw', D.below hw', bnext hb hw'⟩
            have Hout := Lib.hid hout
            clear hout
            by_cases hfa : a = k
            · have hab : ((a : Int) == ((k : Nat) : Int)) = true := by simp [hfa]
              have hdb : ((d : Int) == ((t : Nat) : Int)) = false := beq_eq_false_iff_ne.2 (by omega)
              clear hfa hxy
              go_wp2
              exact ⟨Hout.out _ (Below.refl _ _), by simp [intOf]; omega⟩
            · have hab : ((a : Int) == ((k : Nat) : Int)) = false := beq_eq_false_iff_ne.2 (by omega)
              clear hfa hxy
              go_wp2
              exact ⟨Hout.out _ (Below.refl _ _), by simp [intOf]; omega⟩
        · have hjI : ¬ (j : Int) < (p.edges.length : Int) := by omega
          have hj' : j = p.edges.length := by omega
          subst hj'
          rw [List.take_length] at ho
          have S := Lib.hid (beforeL_succ (esOf p) k t)
          go_wp2
          exact ⟨⟨k + 1, by omega, by go_num, by rw [S.out]; exact ho, D, hb⟩, by simp [intOf]; omega⟩
    · have hltI : ¬ (k : Int) < p.tasks := by rw [HT.out]; omega
      have hk' : k = T := by omega
      subst hk'
      go_wp2
      go_ret
      refine ⟨_, rfl, ?_, hb⟩
      rw [HTn.out]
      exact ho.more (by omega)

theorem specBehind_any (p : Plan) (ve : Value) (t : Nat) (w : World) (hm : manyOk p = true) (he : edgesIn p) (hn : p.edges.Nodup) (h : Rd edgeE w w.heap.size ve p.edges) :
    Calls Try.prog 134 #[planV p ve, .int .i64 (t : Int)] w fun e w' => ∃ v, e = .returned v ∧ Ow natE 3 w' w.heap.size v (behindL (esOf p) p.tasks.toNat t) ∧ Below w.heap.size w w' := by
  obtain ⟨A, c, rfl, -⟩ := id h
  obtain ⟨t1, t2⟩ := manyOk_tasks hm
  have hlen := manyOk_edges hm
  obtain ⟨T, hT⟩ := Int.eq_ofNat_of_zero_le (show 0 ≤ p.tasks by omega)
  have HT := Lib.hid hT
  have HTn := Lib.hid (show p.tasks.toNat = T by omega)
  have hT12 : T ≤ 12 := by omega
  clear hT
  obtain ⟨j0, hj0, jz0, jz1, jz2⟩ := info_parts int_info
  unfold planV
  go_enter Try.func134, Try.ntmps134
  go_wp2
  go_loopw [5, 6] (fun vl i wr => ∃ k : Nat, k ≤ T ∧ i = .int .i64 k ∧ Ow natE 3 wr (w.heap.size + 1) vl (behindL (esOf p) k t) ∧ BoxAt w.heap.size p (.slice A p.edges.length c) wr ∧ Below w.heap.size w wr) (fun _ i _ => T - (intOf i).toNat)
  case atStart =>
    have D := BoxAt.new 47 p (.slice A p.edges.length c) w
    refine ⟨0, Nat.zero_le _, rfl, ?_, D.below ((Below.refl _ _).alloc (Nat.le_refl _) _), ?_⟩
    · exact (Ow.empty natE 3 (planBox 47 p (.slice A p.edges.length c) w) (g := w.heap.size + 1) (by rw [planBox_size]))
    · repeat (first | exact Below.refl _ _ | refine Below.alloc ?_ (by simp <;> omega) _)
  case round =>
    obtain ⟨k, hk, rfl, ho, D, hb⟩ := hrel
    obtain ⟨x0, x1, x2, x3, x4, xs⟩ := D.cells
    by_cases hlt : k < T
    · have hltI : (k : Int) < p.tasks := by rw [HT.out]; omega
      obtain ⟨wo, rfl⟩ : ∃ wo : World, wo = wr := ⟨_, rfl⟩
      go_wp2
      clear x0 x1 x2 x3 x4 xs
      go_loopw [5, 7] (fun vl i wr => ∃ j : Nat, j ≤ p.edges.length ∧ i = .int .i64 j ∧ Ow natE 3 wr (w.heap.size + 1) vl (behindL (esOf p) k t ++ onceL (esL (p.edges.take j)) (t, k) k) ∧ BoxAt w.heap.size p (.slice A p.edges.length c) wr ∧ Below w.heap.size w wr) (fun _ i _ => p.edges.length - (intOf i).toNat)
      case atStart => exact ⟨0, Nat.zero_le _, rfl, by simpa [onceL, esL] using ho, D, hb⟩
      case round =>
        clear ho D hb
        obtain ⟨j, hj, rfl, ho, D, hb⟩ := hrel
        obtain ⟨x0, x1, x2, x3, x4, xs⟩ := D.cells
        by_cases hjt : j < p.edges.length
        · have hjI : (j : Int) < (p.edges.length : Int) := by omega
          obtain ⟨b, o, rfl, hbb, c0, c1⟩ := (h.below hb).edge hjt
          obtain ⟨f1, f2, f3, f4⟩ := edgesIn_get he hjt
          have htk := Lib.hid (show esL (p.edges.take (j + 1)) = esL (p.edges.take j) ++ [(p.edges[j].fr.toNat, p.edges[j].to.toNat)] by unfold esL; rw [take_snoc _ j hjt, List.map_append]; rfl)
          have hnew := Lib.hid (esL_new he hn hjt)
          generalize p.edges[j].fr = fx at *
          generalize p.edges[j].to = tx at *
          obtain ⟨a, rfl⟩ := Int.eq_ofNat_of_zero_le f1
          obtain ⟨d, rfl⟩ := Int.eq_ofNat_of_zero_le f3
          simp only [Int.toNat_natCast] at htk hnew
          by_cases hxy : d = k ∧ a = t
          · obtain ⟨e1, e2⟩ := hxy
            subst e1
            subst e2
            have S := Lib.hid (onceL_yes (l := esL (p.edges.take j)) (l' := esL (p.edges.take (j + 1))) (q := (a, d)) (x := d) htk.out hnew.out)
            have Hl := Lib.hid (show (behindL (esOf p) d a ++ onceL (esL (p.edges.take j)) (a, d) d).length ≤ 3000000 by
              have h1 := behindL_len (esOf p) d a
              have h2 := onceL_len (esL (p.edges.take j)) (a, d) d
              rw [List.length_append]
              omega)
            have hab : ((d : Int) == (d : Int)) = true := by simp
            have hab2 : ((a : Int) == (a : Int)) = true := by simp
            have ha : Hid (∀ w : World, Below w.heap.size w (w.alloc (.cells #[.int .i64 (d : Int)] 3))) := fun w => (Below.refl _ _).alloc (Nat.le_refl _) _
            go_wp2_with (at_builtin; refine wpList_push_all _ natE (by decide) rfl (.tmp 40) (.tmp 42) rfl Try.underlying50 hj0 jz0 jz1 jz2 rfl (l := behindL (esOf p) d a ++ onceL (esL (p.edges.take j)) (a, d) d) rfl (ho.below (ha.out wr)) rfl (Rd.one natE _ _ d rfl rfl 1 (Nat.le_refl _) (Nat.lt_succ_self _)) Hl.out (by simp) (by decide) (by simp; omega) ?_; intro v5 w5 o5 g5 _)
            have D5 := (D.below (ha.out wr)).far g5 (fun e => by have := ho.within _ e.symm; omega)
            have hb' := bnext hb (ha.out wr)
            have W5 := hb'.grown g5 hb'.size (fun g hg => by have := ho.within _ hg; omega)
            refine ⟨⟨j + 1, by omega, by go_num, ?_, D5, W5⟩, by simp [intOf]; omega⟩
            rw [S.out, ← List.append_assoc]
            exact o5
          · have S := Lib.hid (onceL_no (l := esL (p.edges.take j)) (l' := esL (p.edges.take (j + 1))) (q := (t, k)) (e := (a, d)) (x := k) htk.out (fun e => hxy (by simp only [Prod.mk.injEq] at e; omega)))
            have hout : ∀ w', Below wr.heap.size wr w' → (∃ j_1 : Nat, j_1 ≤ p.edges.length ∧ Value.int .i64 ((j : Int) + 1) = Value.int .i64 (j_1 : Int) ∧ Ow natE 3 w' (w.heap.size + 1) u5 (behindL (esOf p) k t ++ onceL (esL (p.edges.take j_1)) (t, k) k) ∧ BoxAt w.heap.size p (.slice (some ⟨b, o, none⟩) p.edges.length c) w' ∧ Below w.heap.size w w') := fun w' hw' => ⟨j + 1, by omega, by go_num, by rw [S.out]; exact ho.below hw', D.below hw', bnext hb hw'⟩
            have Hout := Lib.hid hout
            clear hout
            by_cases hfa : a = t
            · have hab : ((a : Int) == ((t : Nat) : Int)) = true := by simp [hfa]
              have hdb : ((d : Int) == ((k : Nat) : Int)) = false := beq_eq_false_iff_ne.2 (by omega)
              clear hfa hxy
              go_wp2
              exact ⟨Hout.out _ (Below.refl _ _), by simp [intOf]; omega⟩
            · have hab : ((a : Int) == ((t : Nat) : Int)) = false := beq_eq_false_iff_ne.2 (by omega)
              clear hfa hxy
              go_wp2
              exact ⟨Hout.out _ (Below.refl _ _), by simp [intOf]; omega⟩
        · have hjI : ¬ (j : Int) < (p.edges.length : Int) := by omega
          have hj' : j = p.edges.length := by omega
          subst hj'
          rw [List.take_length] at ho
          have S := Lib.hid (behindL_succ (esOf p) k t)
          go_wp2
          exact ⟨⟨k + 1, by omega, by go_num, by rw [S.out]; exact ho, D, hb⟩, by simp [intOf]; omega⟩
    · have hltI : ¬ (k : Int) < p.tasks := by rw [HT.out]; omega
      have hk' : k = T := by omega
      subst hk'
      go_wp2
      go_ret
      refine ⟨_, rfl, ?_, hb⟩
      rw [HTn.out]
      exact ho.more (by omega)
end Go.Proofs.Ytoccmpijfggmkaa
