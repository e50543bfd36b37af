/-
  SourcesOf and SinksOf of both.
-/
import Derived.Test.YtoccmpijfggmkaaSt
import Derived.Test.YtoccmpijfggmkaaPs
namespace Go.Proofs.Ytoccmpijfggmkaa
open Go.RowKit
set_option maxRecDepth 100000
set_option maxHeartbeats 2000000

/-- the tasks whose list is empty -/
def endsL (f : Nat → List Nat) (k : Nat) : List Nat := (List.range k).filter fun t => (f t).isEmpty
theorem endsL_succ (f : Nat → List Nat) (k : Nat) : endsL f (k + 1) = endsL f k ++ if (f k).isEmpty then [k] else [] := by
  unfold endsL
  rw [List.range_succ, List.filter_append, List.filter_cons, List.filter_nil]
theorem endsL_len (f : Nat → List Nat) (k : Nat) : (endsL f k).length ≤ k := by
  have := List.length_filter_le (fun t => (f t).isEmpty) (List.range k)
  simpa [endsL] using this
open Classical in
noncomputable def sourcesOf (p : Plan) : List Nat := if planFault p = 0 then endsL (fun t => beforeL (esOf p) p.tasks.toNat t) p.tasks.toNat else []
open Classical in
noncomputable def sinksOf (p : Plan) : List Nat := if planFault p = 0 then endsL (fun t => behindL (esOf p) p.tasks.toNat t) p.tasks.toNat else []
theorem sourcesOf_len (p : Plan) : (sourcesOf p).length ≤ 12 := by
  unfold sourcesOf
  split
  · rename_i hf
    have := manyOk_tasks (planFault_zero.1 hf).1
    have := endsL_len (fun t => beforeL (esOf p) p.tasks.toNat t) p.tasks.toNat
    omega
  · simp
theorem sinksOf_len (p : Plan) : (sinksOf p).length ≤ 12 := by
  unfold sinksOf
  split
  · rename_i hf
    have := manyOk_tasks (planFault_zero.1 hf).1
    have := endsL_len (fun t => behindL (esOf p) p.tasks.toNat t) p.tasks.toNat
    omega
  · simp

theorem implSources_any (p : Plan) (ve : Value) (w : World) (hl : p.edges.length ≤ 2000000) (h : Rd edgeE w w.heap.size ve p.edges) :
    Calls Try.prog 72 #[planV p ve] w fun e w' => ∃ v, e = .returned v ∧ Ow natE 3 w' w.heap.size v (sourcesOf p) ∧ Below w.heap.size w w' := by
  have hb0 := planBox_below 47 p ve w
  have D0 := BoxAt.new 47 p ve w
  have hw0 := planBox_size 47 p ve w
  have O0 := Ow.nil natE 3 (planBox 47 p ve w) (w.heap.size + 1)
  by_cases hf : planFault p = 0
  case neg =>
    have hfb : (planFault p == 0) = false := by simp [hf]
    have H := Lib.hid (show sourcesOf p = [] by unfold sourcesOf; rw [if_neg hf])
    clear hf
    unfold planV
    go_enter Try.func72, Try.ntmps72
    go_wp2
    go_loopw [3, 4] (fun vl i wr => ∃ k : Nat, k = 0 ∧ i = .int .i64 k ∧ Ow natE 3 wr (w.heap.size + 1) vl [] ∧ BoxAt w.heap.size p ve wr ∧ Below w.heap.size w wr) (fun _ _ _ => 0)
    case atStart => exact ⟨0, rfl, rfl, O0, D0, hb0⟩
    case round =>
      clear O0 D0 hb0
      obtain ⟨k, rfl, rfl, ho, D, hb⟩ := hrel
      obtain ⟨x0, x1, x2, x3, x4, xs⟩ := D.cells
      go_wp2_with fail
      refine (implPlanFault_any p ve _ hl ((h.below hb).more hb.size)).mono ?_
      rintro e w1 ⟨rfl, hb1⟩
      go_wp2
      go_ret
      exact ⟨_, rfl, by rw [H.out]; exact (ho.below hb1).more (by omega), bnext hb hb1⟩
  have hfb : (planFault p == 0) = true := by simp [hf]
  have G := Lib.hid (planFault_zero.1 hf)
  have HF := Lib.hid hf
  obtain ⟨t1, t2⟩ := manyOk_tasks G.out.1
  obtain ⟨T, hT⟩ := Int.eq_ofNat_of_zero_le (show 0 ≤ p.tasks by omega)
  have HT := Lib.hid hT
  have HTn := Lib.hid (show p.tasks.toNat = T by omega)
  have hT12 : T ≤ 12 := by omega
  have H := Lib.hid (show sourcesOf p = endsL (fun t => beforeL (esOf p) T t) T by unfold sourcesOf; rw [if_pos hf, HTn.out])
  obtain ⟨j0, hj0, jz0, jz1, jz2⟩ := info_parts int_info
  clear hf hT
  unfold planV
  go_enter Try.func72, Try.ntmps72
  go_wp2
  go_loopw [3, 4] (fun vl i wr => ∃ k : Nat, k ≤ T ∧ i = .int .i64 k ∧ Ow natE 3 wr (w.heap.size + 1) vl (endsL (fun t => beforeL (esOf p) T t) k) ∧ BoxAt w.heap.size p ve wr ∧ Below w.heap.size w wr) (fun _ i _ => T - (intOf i).toNat)
  case atStart => exact ⟨0, Nat.zero_le _, rfl, O0, D0, hb0⟩
  case round =>
    clear O0 D0 hb0
    obtain ⟨k, hk, rfl, ho, D, hb⟩ := hrel
    obtain ⟨x0, x1, x2, x3, x4, xs⟩ := D.cells
    go_wp2_with fail
    clear x0 x1 x2 x3 x4 xs
    refine (implPlanFault_any p ve _ hl ((h.below hb).more hb.size)).mono ?_
    rintro e w1 ⟨rfl, hb1⟩
    have ho := ho.below hb1
    have D := D.below hb1
    have hb := bnext hb hb1
    obtain ⟨x0, x1, x2, x3, x4, xs⟩ := D.cells
    by_cases hlt : k < T
    · have hltI : (k : Int) < p.tasks := by rw [HT.out]; omega
      go_wp2_with fail
      clear x0 x1 x2 x3 x4 xs
      refine (implBefore_any p ve k _ HF.out ((h.below hb).more hb.size)).mono ?_
      rintro e w2 ⟨v2, rfl, o2, hb2⟩
      rw [HTn.out] at o2
      have ho := ho.below hb2
      have D := D.below hb2
      have hb := bnext hb hb2
      have hun := Lib.hid (endsL_succ (fun t => beforeL (esOf p) T t) k)
      have Hl := Lib.hid (endsL_len (fun t => beforeL (esOf p) T t) k)
      have hDl := D.lt
      generalize hL : beforeL (esOf p) T k = L at *
      clear hL
      obtain ⟨A2, c2, rfl, -⟩ := id (Rd.of_own o2)
      cases L with
      | nil =>
        have S := Lib.hid (show endsL (fun t => beforeL (esOf p) T t) (k + 1) = endsL (fun t => beforeL (esOf p) T t) k ++ [k] by rw [hun.out]; simp)
        have ha : Hid (∀ w : World, Below w.heap.size w (w.alloc (.cells #[.int .i64 (k : Int)] 3))) := fun w => (Below.refl _ _).alloc (Nat.le_refl _) _
        go_wp2_with (at_builtin; refine wpList_push_all _ natE (by decide) rfl (.tmp 21) (.tmp 23) rfl Try.underlying50 hj0 jz0 jz1 jz2 rfl (l := endsL (fun t => beforeL (esOf p) T t) k) rfl (ho.below (ha.out _)) rfl (Rd.one natE _ _ k rfl rfl 1 (Nat.le_refl _) (Nat.lt_succ_self _)) (by have := Hl.out; omega) (by simp) (by decide) (by simp; omega) ?_; intro v5 w5 o5 g5 _)
        have D5 := (D.below (ha.out _)).far g5 (fun e => by have := ho.within _ e.symm; omega)
        have hb' := bnext hb (ha.out _)
        have W5 := hb'.grown g5 hb'.size (fun g hg => by have := ho.within _ hg; omega)
        exact ⟨⟨k + 1, by omega, by go_num, by rw [S.out]; exact o5, D5, W5⟩, by simp [intOf]; omega⟩
      | cons a L =>
        have S := Lib.hid (show endsL (fun t => beforeL (esOf p) T t) (k + 1) = endsL (fun t => beforeL (esOf p) T t) k by rw [hun.out]; simp)
        have hcb : (((a :: L).length : Int) == 0) = false := beq_eq_false_iff_ne.2 (by simp only [List.length_cons]; omega)
        generalize (a :: L).length = m at *
        go_wp2
        exact ⟨⟨k + 1, by omega, by go_num, by rw [S.out]; exact ho, D, hb⟩, by simp [intOf]; omega⟩
    · have hltI : ¬ (k : Int) < p.tasks := by rw [HT.out]; omega
      have hk' : k = T := by omega
      subst hk'
      go_wp2
      go_ret
      exact ⟨_, rfl, by rw [H.out]; exact ho.more (by omega), hb⟩

theorem implSinks_any (p : Plan) (ve : Value) (w : World) (hl : p.edges.length ≤ 2000000) (h : Rd edgeE w w.heap.size ve p.edges) :
    Calls Try.prog 74 #[planV p ve] w fun e w' => ∃ v, e = .returned v ∧ Ow natE 3 w' w.heap.size v (sinksOf p) ∧ Below w.heap.size w w' := by
  have hb0 := planBox_below 47 p ve w
  have D0 := BoxAt.new 47 p ve w
  have hw0 := planBox_size 47 p ve w
  have O0 := Ow.nil natE 3 (planBox 47 p ve w) (w.heap.size + 1)
  by_cases hf : planFault p = 0
  case neg =>
    have hfb : (planFault p == 0) = false := by simp [hf]
    have H := Lib.hid (show sinksOf p = [] by unfold sinksOf; rw [if_neg hf])
    clear hf
    unfold planV
    go_enter Try.func74, Try.ntmps74
    go_wp2
    go_loopw [3, 4] (fun vl i wr => ∃ k : Nat, k = 0 ∧ i = .int .i64 k ∧ Ow natE 3 wr (w.heap.size + 1) vl [] ∧ BoxAt w.heap.size p ve wr ∧ Below w.heap.size w wr) (fun _ _ _ => 0)
    case atStart => exact ⟨0, rfl, rfl, O0, D0, hb0⟩
    case round =>
      clear O0 D0 hb0
      obtain ⟨k, rfl, rfl, ho, D, hb⟩ := hrel
      obtain ⟨x0, x1, x2, x3, x4, xs⟩ := D.cells
      go_wp2_with fail
      refine (implPlanFault_any p ve _ hl ((h.below hb).more hb.size)).mono ?_
      rintro e w1 ⟨rfl, hb1⟩
      go_wp2
      go_ret
      exact ⟨_, rfl, by rw [H.out]; exact (ho.below hb1).more (by omega), bnext hb hb1⟩
  have hfb : (planFault p == 0) = true := by simp [hf]
  have G := Lib.hid (planFault_zero.1 hf)
  have HF := Lib.hid hf
  obtain ⟨t1, t2⟩ := manyOk_tasks G.out.1
  obtain ⟨T, hT⟩ := Int.eq_ofNat_of_zero_le (show 0 ≤ p.tasks by omega)
  have HT := Lib.hid hT
  have HTn := Lib.hid (show p.tasks.toNat = T by omega)
  have hT12 : T ≤ 12 := by omega
  have H := Lib.hid (show sinksOf p = endsL (fun t => behindL (esOf p) T t) T by unfold sinksOf; rw [if_pos hf, HTn.out])
  obtain ⟨j0, hj0, jz0, jz1, jz2⟩ := info_parts int_info
  clear hf hT
  unfold planV
  go_enter Try.func74, Try.ntmps74
  go_wp2
  go_loopw [3, 4] (fun vl i wr => ∃ k : Nat, k ≤ T ∧ i = .int .i64 k ∧ Ow natE 3 wr (w.heap.size + 1) vl (endsL (fun t => behindL (esOf p) T t) k) ∧ BoxAt w.heap.size p ve wr ∧ Below w.heap.size w wr) (fun _ i _ => T - (intOf i).toNat)
  case atStart => exact ⟨0, Nat.zero_le _, rfl, O0, D0, hb0⟩
  case round =>
    clear O0 D0 hb0
    obtain ⟨k, hk, rfl, ho, D, hb⟩ := hrel
    obtain ⟨x0, x1, x2, x3, x4, xs⟩ := D.cells
    go_wp2_with fail
    clear x0 x1 x2 x3 x4 xs
    refine (implPlanFault_any p ve _ hl ((h.below hb).more hb.size)).mono ?_
    rintro e w1 ⟨rfl, hb1⟩
    have ho := ho.below hb1
    have D := D.below hb1
    have hb := bnext hb hb1
    obtain ⟨x0, x1, x2, x3, x4, xs⟩ := D.cells
    by_cases hlt : k < T
    · have hltI : (k : Int) < p.tasks := by rw [HT.out]; omega
      go_wp2_with fail
      clear x0 x1 x2 x3 x4 xs
      refine (implBehind_any p ve k _ HF.out ((h.below hb).more hb.size)).mono ?_
      rintro e w2 ⟨v2, rfl, o2, hb2⟩
      rw [HTn.out] at o2
      have ho := ho.below hb2
      have D := D.below hb2
      have hb := bnext hb hb2
      have hun := Lib.hid (endsL_succ (fun t => behindL (esOf p) T t) k)
      have Hl := Lib.hid (endsL_len (fun t => behindL (esOf p) T t) k)
      have hDl := D.lt
      generalize hL : behindL (esOf p) T k = L at *
      clear hL
      obtain ⟨A2, c2, rfl, -⟩ := id (Rd.of_own o2)
      cases L with
      | nil =>
        have S := Lib.hid (show endsL (fun t => behindL (esOf p) T t) (k + 1) = endsL (fun t => behindL (esOf p) T t) k ++ [k] by rw [hun.out]; simp)
        have ha : Hid (∀ w : World, Below w.heap.size w (w.alloc (.cells #[.int .i64 (k : Int)] 3))) := fun w => (Below.refl _ _).alloc (Nat.le_refl _) _
        go_wp2_with (at_builtin; refine wpList_push_all _ natE (by decide) rfl (.tmp 21) (.tmp 23) rfl Try.underlying50 hj0 jz0 jz1 jz2 rfl (l := endsL (fun t => behindL (esOf p) T t) k) rfl (ho.below (ha.out _)) rfl (Rd.one natE _ _ k rfl rfl 1 (Nat.le_refl _) (Nat.lt_succ_self _)) (by have := Hl.out; omega) (by simp) (by decide) (by simp; omega) ?_; intro v5 w5 o5 g5 _)
        have D5 := (D.below (ha.out _)).far g5 (fun e => by have := ho.within _ e.symm; omega)
        have hb' := bnext hb (ha.out _)
        have W5 := hb'.grown g5 hb'.size (fun g hg => by have := ho.within _ hg; omega)
        exact ⟨⟨k + 1, by omega, by go_num, by rw [S.out]; exact o5, D5, W5⟩, by simp [intOf]; omega⟩
      | cons a L =>
        have S := Lib.hid (show endsL (fun t => behindL (esOf p) T t) (k + 1) = endsL (fun t => behindL (esOf p) T t) k by rw [hun.out]; simp)
        have hcb : (((a :: L).length : Int) == 0) = false := beq_eq_false_iff_ne.2 (by simp only [List.length_cons]; omega)
        generalize (a :: L).length = m at *
        go_wp2
        exact ⟨⟨k + 1, by omega, by go_num, by rw [S.out]; exact ho, D, hb⟩, by simp [intOf]; omega⟩
    · have hltI : ¬ (k : Int) < p.tasks := by rw [HT.out]; omega
      have hk' : k = T := by omega
      subst hk'
      go_wp2
      go_ret
      exact ⟨_, rfl, by rw [H.out]; exact ho.more (by omega), hb⟩

theorem specSources_any (p : Plan) (ve : Value) (w : World) (hl : p.edges.length ≤ 2000000) (h : Rd edgeE w w.heap.size ve p.edges) :
    Calls Try.prog 75 #[planV p ve] w fun e w' => ∃ v, e = .returned v ∧ Ow natE 3 w' w.heap.size v (sourcesOf p) ∧ Below w.heap.size w w' := by
  have ha0 : ∀ w : World, Below w.heap.size w (w.alloc (.cells #[] 3)) := fun w => (Below.refl _ _).alloc (Nat.le_refl _) _
  have hb0 := bnext (planBox_below 47 p ve w) (ha0 _)
  have D0 := (BoxAt.new 47 p ve w).below (ha0 _)
  have O0 := Ow.empty natE 3 (planBox 47 p ve w) (g := w.heap.size + 1) (by rw [planBox_size])
  clear ha0
  by_cases hf : planFault p = 0
  case neg =>
    have hfb : (planFault p == 0) = false := by simp [hf]
    have H := Lib.hid (show sourcesOf p = [] by unfold sourcesOf; rw [if_neg hf])
    clear hf
    unfold planV
    go_enter Try.func75, Try.ntmps75
    go_wp2
    go_loopw [3, 4] (fun vl i wr => ∃ k : Nat, k = 0 ∧ i = .int .i64 k ∧ Ow natE 3 wr (w.heap.size + 1) vl [] ∧ BoxAt w.heap.size p ve wr ∧ Below w.heap.size w wr) (fun _ _ _ => 0)
    case atStart => exact ⟨0, rfl, rfl, O0, D0, hb0⟩
    case round =>
      clear O0 D0 hb0
      obtain ⟨k, rfl, rfl, ho, D, hb⟩ := hrel
      obtain ⟨x0, x1, x2, x3, x4, xs⟩ := D.cells
      go_wp2_with fail
      refine (specPlanFault_any p ve _ hl ((h.below hb).more hb.size)).mono ?_
      rintro e w1 ⟨rfl, hb1⟩
      go_wp2
      go_ret
      exact ⟨_, rfl, by rw [H.out]; exact (ho.below hb1).more (by omega), bnext hb hb1⟩
  have hfb : (planFault p == 0) = true := by simp [hf]
  have G := Lib.hid (planFault_zero.1 hf)
  have HF := Lib.hid hf
  obtain ⟨t1, t2⟩ := manyOk_tasks G.out.1
  obtain ⟨T, hT⟩ := Int.eq_ofNat_of_zero_le (show 0 ≤ p.tasks by omega)
  have HT := Lib.hid hT
  have HTn := Lib.hid (show p.tasks.toNat = T by omega)
  have hT12 : T ≤ 12 := by omega
  have H := Lib.hid (show sourcesOf p = endsL (fun t => beforeL (esOf p) T t) T by unfold sourcesOf; rw [if_pos hf, HTn.out])
  obtain ⟨j0, hj0, jz0, jz1, jz2⟩ := info_parts int_info
  clear hf hT
  unfold planV
  go_enter Try.func75, Try.ntmps75
  go_wp2
  go_loopw [3, 4] (fun vl i wr => ∃ k : Nat, k ≤ T ∧ i = .int .i64 k ∧ Ow natE 3 wr (w.heap.size + 1) vl (endsL (fun t => beforeL (esOf p) T t) k) ∧ BoxAt w.heap.size p ve wr ∧ Below w.heap.size w wr) (fun _ i _ => T - (intOf i).toNat)
  case atStart => exact ⟨0, Nat.zero_le _, rfl, O0, D0, hb0⟩
  case round =>
    clear O0 D0 hb0
    obtain ⟨k, hk, rfl, ho, D, hb⟩ := hrel
    obtain ⟨x0, x1, x2, x3, x4, xs⟩ := D.cells
    go_wp2_with fail
    clear x0 x1 x2 x3 x4 xs
    refine (specPlanFault_any p ve _ hl ((h.below hb).more hb.size)).mono ?_
    rintro e w1 ⟨rfl, hb1⟩
    have ho := ho.below hb1
    have D := D.below hb1
    have hb := bnext hb hb1
    obtain ⟨x0, x1, x2, x3, x4, xs⟩ := D.cells
    by_cases hlt : k < T
    · have hltI : (k : Int) < p.tasks := by rw [HT.out]; omega
      go_wp2_with fail
      clear x0 x1 x2 x3 x4 xs
      refine (specBefore_any p ve k _ G.out.1 G.out.2.1 G.out.2.2.1 ((h.below hb).more hb.size)).mono ?_
      rintro e w2 ⟨v2, rfl, o2, hb2⟩
      rw [HTn.out] at o2
      have ho := ho.below hb2
      have D := D.below hb2
      have hb := bnext hb hb2
      have hun := Lib.hid (endsL_succ (fun t => beforeL (esOf p) T t) k)
      have Hl := Lib.hid (endsL_len (fun t => beforeL (esOf p) T t) k)
      have hDl := D.lt
      generalize hL : beforeL (esOf p) T k = L at *
      clear hL
      obtain ⟨A2, c2, rfl, -⟩ := id (Rd.of_own o2)
      cases L with
      | nil =>
        have S := Lib.hid (show endsL (fun t => beforeL (esOf p) T t) (k + 1) = endsL (fun t => beforeL (esOf p) T t) k ++ [k] by rw [hun.out]; simp)
        have ha : Hid (∀ w : World, Below w.heap.size w (w.alloc (.cells #[.int .i64 (k : Int)] 3))) := fun w => (Below.refl _ _).alloc (Nat.le_refl _) _
        go_wp2_with (at_builtin; refine wpList_push_all _ natE (by decide) rfl (.tmp 22) (.tmp 24) rfl Try.underlying50 hj0 jz0 jz1 jz2 rfl (l := endsL (fun t => beforeL (esOf p) T t) k) rfl (ho.below (ha.out _)) rfl (Rd.one natE _ _ k rfl rfl 1 (Nat.le_refl _) (Nat.lt_succ_self _)) (by have := Hl.out; omega) (by simp) (by decide) (by simp; omega) ?_; intro v5 w5 o5 g5 _)
        have D5 := (D.below (ha.out _)).far g5 (fun e => by have := ho.within _ e.symm; omega)
        have hb' := bnext hb (ha.out _)
        have W5 := hb'.grown g5 hb'.size (fun g hg => by have := ho.within _ hg; omega)
        exact ⟨⟨k + 1, by omega, by go_num, by rw [S.out]; exact o5, D5, W5⟩, by simp [intOf]; omega⟩
      | cons a L =>
        have S := Lib.hid (show endsL (fun t => beforeL (esOf p) T t) (k + 1) = endsL (fun t => beforeL (esOf p) T t) k by rw [hun.out]; simp)
        have hcb : (((a :: L).length : Int) == 0) = false := beq_eq_false_iff_ne.2 (by simp only [List.length_cons]; omega)
        generalize (a :: L).length = m at *
        go_wp2
        exact ⟨⟨k + 1, by omega, by go_num, by rw [S.out]; exact ho, D, hb⟩, by simp [intOf]; omega⟩
    · have hltI : ¬ (k : Int) < p.tasks := by rw [HT.out]; omega
      have hk' : k = T := by omega
      subst hk'
      go_wp2
      go_ret
      exact ⟨_, rfl, by rw [H.out]; exact ho.more (by omega), hb⟩

theorem specSinks_any (p : Plan) (ve : Value) (w : World) (hl : p.edges.length ≤ 2000000) (h : Rd edgeE w w.heap.size ve p.edges) :
    Calls Try.prog 73 #[planV p ve] w fun e w' => ∃ v, e = .returned v ∧ Ow natE 3 w' w.heap.size v (sinksOf p) ∧ Below w.heap.size w w' := by
  have ha0 : ∀ w : World, Below w.heap.size w (w.alloc (.cells #[] 3)) := fun w => (Below.refl _ _).alloc (Nat.le_refl _) _
  have hb0 := bnext (planBox_below 47 p ve w) (ha0 _)
  have D0 := (BoxAt.new 47 p ve w).below (ha0 _)
  have O0 := Ow.empty natE 3 (planBox 47 p ve w) (g := w.heap.size + 1) (by rw [planBox_size])
  clear ha0
  by_cases hf : planFault p = 0
  case neg =>
    have hfb : (planFault p == 0) = false := by simp [hf]
    have H := Lib.hid (show sinksOf p = [] by unfold sinksOf; rw [if_neg hf])
    clear hf
    unfold planV
    go_enter Try.func73, Try.ntmps73
    go_wp2
    go_loopw [3, 4] (fun vl i wr => ∃ k : Nat, k = 0 ∧ i = .int .i64 k ∧ Ow natE 3 wr (w.heap.size + 1) vl [] ∧ BoxAt w.heap.size p ve wr ∧ Below w.heap.size w wr) (fun _ _ _ => 0)
    case atStart => exact ⟨0, rfl, rfl, O0, D0, hb0⟩
    case round =>
      clear O0 D0 hb0
      obtain ⟨k, rfl, rfl, ho, D, hb⟩ := hrel
      obtain ⟨x0, x1, x2, x3, x4, xs⟩ := D.cells
      go_wp2_with fail
      refine (specPlanFault_any p ve _ hl ((h.below hb).more hb.size)).mono ?_
      rintro e w1 ⟨rfl, hb1⟩
      go_wp2
      go_ret
      exact ⟨_, rfl, by rw [H.out]; exact (ho.below hb1).more (by omega), bnext hb hb1⟩
  have hfb : (planFault p == 0) = true := by simp [hf]
  have G := Lib.hid (planFault_zero.1 hf)
  have HF := Lib.hid hf
  obtain ⟨t1, t2⟩ := manyOk_tasks G.out.1
  obtain ⟨T, hT⟩ := Int.eq_ofNat_of_zero_le (show 0 ≤ p.tasks by omega)
  have HT := Lib.hid hT
  have HTn := Lib.hid (show p.tasks.toNat = T by omega)
  have hT12 : T ≤ 12 := by omega
  have H := Lib.hid (show sinksOf p = endsL (fun t => behindL (esOf p) T t) T by unfold sinksOf; rw [if_pos hf, HTn.out])
  obtain ⟨j0, hj0, jz0, jz1, jz2⟩ := info_parts int_info
  clear hf hT
  unfold planV
  go_enter Try.func73, Try.ntmps73
  go_wp2
  go_loopw [3, 4] (fun vl i wr => ∃ k : Nat, k ≤ T ∧ i = .int .i64 k ∧ Ow natE 3 wr (w.heap.size + 1) vl (endsL (fun t => behindL (esOf p) T t) k) ∧ BoxAt w.heap.size p ve wr ∧ Below w.heap.size w wr) (fun _ i _ => T - (intOf i).toNat)
  case atStart => exact ⟨0, Nat.zero_le _, rfl, O0, D0, hb0⟩
  case round =>
    clear O0 D0 hb0
    obtain ⟨k, hk, rfl, ho, D, hb⟩ := hrel
    obtain ⟨x0, x1, x2, x3, x4, xs⟩ := D.cells
    go_wp2_with fail
    clear x0 x1 x2 x3 x4 xs
    refine (specPlanFault_any p ve _ hl ((h.below hb).more hb.size)).mono ?_
    rintro e w1 ⟨rfl, hb1⟩
    have ho := ho.below hb1
    have D := D.below hb1
    have hb := bnext hb hb1
    obtain ⟨x0, x1, x2, x3, x4, xs⟩ := D.cells
    by_cases hlt : k < T
    · have hltI : (k : Int) < p.tasks := by rw [HT.out]; omega
      go_wp2_with fail
      clear x0 x1 x2 x3 x4 xs
      refine (specBehind_any p ve k _ G.out.1 G.out.2.1 G.out.2.2.1 ((h.below hb).more hb.size)).mono ?_
      rintro e w2 ⟨v2, rfl, o2, hb2⟩
      rw [HTn.out] at o2
      have ho := ho.below hb2
      have D := D.below hb2
      have hb := bnext hb hb2
      have hun := Lib.hid (endsL_succ (fun t => behindL (esOf p) T t) k)
      have Hl := Lib.hid (endsL_len (fun t => behindL (esOf p) T t) k)
      have hDl := D.lt
      generalize hL : behindL (esOf p) T k = L at *
      clear hL
      obtain ⟨A2, c2, rfl, -⟩ := id (Rd.of_own o2)
      cases L with
      | nil =>
        have S := Lib.hid (show endsL (fun t => behindL (esOf p) T t) (k + 1) = endsL (fun t => behindL (esOf p) T t) k ++ [k] by rw [hun.out]; simp)
        have ha : Hid (∀ w : World, Below w.heap.size w (w.alloc (.cells #[.int .i64 (k : Int)] 3))) := fun w => (Below.refl _ _).alloc (Nat.le_refl _) _
        go_wp2_with (at_builtin; refine wpList_push_all _ natE (by decide) rfl (.tmp 22) (.tmp 24) rfl Try.underlying50 hj0 jz0 jz1 jz2 rfl (l := endsL (fun t => behindL (esOf p) T t) k) rfl (ho.below (ha.out _)) rfl (Rd.one natE _ _ k rfl rfl 1 (Nat.le_refl _) (Nat.lt_succ_self _)) (by have := Hl.out; omega) (by simp) (by decide) (by simp; omega) ?_; intro v5 w5 o5 g5 _)
        have D5 := (D.below (ha.out _)).far g5 (fun e => by have := ho.within _ e.symm; omega)
        have hb' := bnext hb (ha.out _)
        have W5 := hb'.grown g5 hb'.size (fun g hg => by have := ho.within _ hg; omega)
        exact ⟨⟨k + 1, by omega, by go_num, by rw [S.out]; exact o5, D5, W5⟩, by simp [intOf]; omega⟩
      | cons a L =>
        have S := Lib.hid (show endsL (fun t => behindL (esOf p) T t) (k + 1) = endsL (fun t => behindL (esOf p) T t) k by rw [hun.out]; simp)
        have hcb : (((a :: L).length : Int) == 0) = false := beq_eq_false_iff_ne.2 (by simp only [List.length_cons]; omega)
        generalize (a :: L).length = m at *
        go_wp2
        exact ⟨⟨k + 1, by omega, by go_num, by rw [S.out]; exact ho, D, hb⟩, by simp [intOf]; omega⟩
    · have hltI : ¬ (k : Int) < p.tasks := by rw [HT.out]; omega
      have hk' : k = T := by omega
      subst hk'
      go_wp2
      go_ret
      exact ⟨_, rfl, by rw [H.out]; exact ho.more (by omega), hb⟩

theorem natE_intE (l : List Nat) : l.flatMap natE.cells = (l.map fun (x : Nat) => (x : Int)).flatMap intE.cells := by
  induction l with
  | nil => rfl
  | cons a l ih => rw [List.flatMap_cons, ih]; rfl
theorem Ow.toInt {w : World} {base : Nat} {v : Value} {l : List Nat} (h : Ow natE 3 w base v l) : Ow intE 3 w base v (l.map fun (x : Nat) => (x : Int)) := by
  unfold Ow at *
  rw [← natE_intE, List.length_map]
  exact h
noncomputable def sourcesI (p : Plan) : List Int := (sourcesOf p).map fun (x : Nat) => (x : Int)
noncomputable def sinksI (p : Plan) : List Int := (sinksOf p).map fun (x : Nat) => (x : Int)
theorem implSourcesI_any (p : Plan) (ve : Value) (w : World) (hl : p.edges.length ≤ 2000000) (h : Rd edgeE w w.heap.size ve p.edges) :
    Calls Try.prog 72 #[planV p ve] w fun e w' => ∃ v, e = .returned v ∧ Ow intE 3 w' w.heap.size v (sourcesI p) ∧ Below w.heap.size w w' :=
  (implSources_any p ve w hl h).mono fun _ _ ⟨v, he, ho, hb⟩ => ⟨v, he, ho.toInt, hb⟩
theorem implSinksI_any (p : Plan) (ve : Value) (w : World) (hl : p.edges.length ≤ 2000000) (h : Rd edgeE w w.heap.size ve p.edges) :
    Calls Try.prog 74 #[planV p ve] w fun e w' => ∃ v, e = .returned v ∧ Ow intE 3 w' w.heap.size v (sinksI p) ∧ Below w.heap.size w w' :=
  (implSinks_any p ve w hl h).mono fun _ _ ⟨v, he, ho, hb⟩ => ⟨v, he, ho.toInt, hb⟩
theorem specSourcesI_any (p : Plan) (ve : Value) (w : World) (hl : p.edges.length ≤ 2000000) (h : Rd edgeE w w.heap.size ve p.edges) :
    Calls Try.prog 75 #[planV p ve] w fun e w' => ∃ v, e = .returned v ∧ Ow intE 3 w' w.heap.size v (sourcesI p) ∧ Below w.heap.size w w' :=
  (specSources_any p ve w hl h).mono fun _ _ ⟨v, he, ho, hb⟩ => ⟨v, he, ho.toInt, hb⟩
theorem specSinksI_any (p : Plan) (ve : Value) (w : World) (hl : p.edges.length ≤ 2000000) (h : Rd edgeE w w.heap.size ve p.edges) :
    Calls Try.prog 73 #[planV p ve] w fun e w' => ∃ v, e = .returned v ∧ Ow intE 3 w' w.heap.size v (sinksI p) ∧ Below w.heap.size w w' :=
  (specSinks_any p ve w hl h).mono fun _ _ ⟨v, he, ho, hb⟩ => ⟨v, he, ho.toInt, hb⟩
theorem sourcesI_len (p : Plan) : (sourcesI p).length ≤ 2000000 := by
  have := sourcesOf_len p
  simp only [sourcesI, List.length_map]
  omega
theorem sinksI_len (p : Plan) : (sinksI p).length ≤ 2000000 := by
  have := sinksOf_len p
  simp only [sinksI, List.length_map]
  omega
end Go.Proofs.Ytoccmpijfggmkaa
