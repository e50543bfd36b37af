/-
  The program's 'waits': what can be reached, as sets of bits.
-/
import Derived.Test.YtoccmpijfggmkaaPl
namespace Go.Proofs.Ytoccmpijfggmkaa
open Go.RowKit
set_option maxRecDepth 100000
set_option maxHeartbeats 1000000

theorem int_info : (Try.prog.info? 3).map (fun i => (i.zero, i.size, i.bytes)) = some (some (.int .i64 0), 1, 8) := by kernel_rfl

theorem waits_any (p : Plan) (ve : Value) (w : World) (hm : manyOk p = true) (he : edgesIn p) (h : Rd edgeE w w.heap.size ve p.edges) :
    Calls Try.prog 139 #[planV p ve] w fun e w' => ∃ v, e = .returned v ∧ Ow natE 3 w' w.heap.size v (Pg.wrounds (esOf p) p.tasks.toNat (List.replicate p.tasks.toNat 0)) ∧ Below w.heap.size w w' := by
  obtain ⟨A, c, rfl, -⟩ := id h
  obtain ⟨t1, t2⟩ := manyOk_tasks hm
  have hlen := manyOk_edges hm
  obtain ⟨T, hT⟩ := Int.eq_ofNat_of_zero_le (show 0 ≤ p.tasks by omega)
  have HT := Lib.hid hT
  have hT12 : T ≤ 12 := by omega
  obtain ⟨i0, hi0, hz0, hz1, hz2⟩ := info_parts int_info
  have hmk : ∀ w : World, (Instr.makeSlice 50 (.int .i64 p.tasks) (.int .i64 p.tasks)).run Try.prog w = .ok (.slice (some ⟨w.heap.size, 0, none⟩) T T) (w.alloc (.cells (madeCells #[.int .i64 0] (T * 1)) 3)) := by
    intro w
    have := run_make (P := Try.prog) w 50 3 i0 _ Try.underlying50 hi0 hz0 .i64 .i64 T T (by omega) (by omega) (by rw [hz2]; omega) (by omega)
    rw [hz1] at this
    rw [hT]
    simpa [Value.cells] using this
  clear hT
  unfold planV
  go_enter Try.func139, Try.ntmps139
  go_wp2
  go_loopw [11] (fun i wr => ∃ k : Nat, k ≤ T ∧ i = .int .i64 k ∧ Ow natE 3 wr (w.heap.size + 1) (.slice (some ⟨w.heap.size + 1, 0, none⟩) T T) (Pg.wrounds (esOf p) k (List.replicate T 0)) ∧ Below (planBox 47 p (.slice A p.edges.length c) w).heap.size (planBox 47 p (.slice A p.edges.length c) w) wr) (fun i _ => T - (intOf i).toNat)
  case atStart =>
    refine ⟨0, Nat.zero_le _, rfl, ?_, (Below.refl _ _).alloc (Nat.le_refl _) _⟩
    have := Ow.made natE 3 (planBox 47 p (.slice A p.edges.length c) w) 0 T (by decide) (by simp [maxLen]; omega) (z := #[.int .i64 0]) rfl (m := T) (by simp [natE])
    rw [planBox_size] at this
    exact this
  case round =>
    obtain ⟨k, hk, rfl, hown, hb⟩ := hrel
    obtain ⟨x0, x1, x2, x3, x4, hs, hbw⟩ := planBox_cells hb
    by_cases hlt : k < T
    · have hltI : (k : Int) < p.tasks := by rw [HT.out]; omega
      obtain ⟨wo, rfl⟩ : ∃ wo : World, wo = wr := ⟨_, rfl⟩
      go_wp2
      go_loopw [16] (fun i wr => ∃ j : Nat, j ≤ p.edges.length ∧ i = .int .i64 j ∧ Ow natE 3 wr (w.heap.size + 1) (.slice (some ⟨w.heap.size + 1, 0, none⟩) T T) (Pg.wround (esL (p.edges.take j)) (Pg.wrounds (esOf p) k (List.replicate T 0))) ∧ Below (planBox 47 p (.slice A p.edges.length c) w).heap.size (planBox 47 p (.slice A p.edges.length c) w) wr) (fun i _ => p.edges.length - (intOf i).toNat)
      case atStart => exact ⟨0, Nat.zero_le _, rfl, hown, hb⟩
      case round =>
        clear hown hb x0 x1 x2 x3 x4 hs hbw
        obtain ⟨j, hj, rfl, hown, hb⟩ := hrel
        obtain ⟨x0, x1, x2, x3, x4, hs, hbw⟩ := planBox_cells hb
        by_cases hjt : j < p.edges.length
        · obtain ⟨b, o, rfl, hbb, c0, c1⟩ := (h.below hbw).edge hjt
          obtain ⟨f1, f2, f3, f4⟩ := edgesIn_get he hjt
          rw [HT.out] at f2 f4
          have ht := Lib.hid (show esL (p.edges.take (j + 1)) = esL (p.edges.take j) ++ [(p.edges[j].fr.toNat, p.edges[j].to.toNat)] by unfold esL; rw [take_snoc _ j hjt, List.map_append]; rfl)
          generalize p.edges[j].fr = fx at *
          generalize p.edges[j].to = tx at *
          obtain ⟨a, rfl⟩ := Int.eq_ofNat_of_zero_le f1
          obtain ⟨d, rfl⟩ := Int.eq_ofNat_of_zero_le f3
          have hol : (Pg.wround (esL (p.edges.take j)) (Pg.wrounds (esOf p) k (List.replicate T 0))).length = T := by rw [Pg.wround_length, Pg.wrounds_length, List.length_replicate]
          have hnext : Hid (Pg.wround (esL (p.edges.take (j + 1))) (Pg.wrounds (esOf p) k (List.replicate T 0)) = Pg.wstep (Pg.wround (esL (p.edges.take j)) (Pg.wrounds (esOf p) k (List.replicate T 0))) (a, d)) := by
            show Pg.wround _ _ = _
            rw [ht.out]
            simp only [Int.toNat_natCast]
            unfold Pg.wround
            rw [List.foldl_append]
            rfl
          have hlt2 : ∀ x ∈ Pg.wround (esL (p.edges.take j)) (Pg.wrounds (esOf p) k (List.replicate T 0)), x < 2 ^ T := by
            refine Pg.wround_lt T _ _ ?_ (Pg.wrounds_lt T _ _ ?_ ?_ k)
            · intro e he'
              simp only [esL, List.mem_map] at he'
              obtain ⟨y, hy, rfl⟩ := he'
              have := (esOf_lt he).2 (y.fr.toNat, y.to.toNat) (by simp only [esOf, esL, List.mem_map]; exact ⟨y, List.mem_of_mem_take hy, rfl⟩)
              rw [HT.out] at this
              simpa using this
            · have := (esOf_lt he).2
              rw [HT.out] at this
              simpa using this
            · intro x hx
              have := List.eq_of_mem_replicate hx
              subst this
              exact Nat.two_pow_pos T
          generalize hO : Pg.wround (esL (p.edges.take j)) (Pg.wrounds (esOf p) k (List.replicate T 0)) = O at *
          have HO := Lib.hid hO
          clear hO ht
          have hol' := Lib.hid hol
          have ha : a < O.length := by omega
          have hd : d < O.length := by omega
          clear hol
          have hgl := hown.blk.2
          have n0 : (wr.alloc (.cells #[.int .i64 (a : Int), .int .i64 (d : Int)] 91)).cell? ⟨wr.heap.size, 0, none⟩ = some (.int .i64 (a : Int)) := by go_simp
          have n1 : (wr.alloc (.cells #[.int .i64 (a : Int), .int .i64 (d : Int)] 91)).cell? ⟨wr.heap.size, 1, none⟩ = some (.int .i64 (d : Int)) := by go_simp
          have hown2 := Ow.below hown ((Below.refl _ _).alloc (Nat.le_refl _) (.cells #[.int .i64 (a : Int), .int .i64 (d : Int)] 91))
          have hb2 := hb.alloc hb.size (.cells #[.int .i64 (a : Int), .int .i64 (d : Int)] 91)
          go_wp2
          generalize wr.alloc (.cells #[.int .i64 (a : Int), .int .i64 (d : Int)] 91) = W2 at *
          have hcf := hown2.free
          have ca := hown2.nat ha
          have cd := hown2.nat hd
          go_still_tail 16, (by kernel_rfl)
          go_wp2
          have hda : O[d] < 2 ^ T := hlt2 _ (List.getElem_mem hd)
          have haa : O[a] < 2 ^ T := hlt2 _ (List.getElem_mem ha)
          have hpT : 2 ^ T ≤ 2 ^ 12 := Nat.pow_le_pow_right (by omega) hT12
          have hpd : 1 <<< d < 2 ^ 12 := by rw [Nat.shiftLeft_eq, Nat.one_mul]; exact Nat.pow_lt_pow_of_lt (by omega) (by omega)
          have hor : 1 <<< d ||| O[d] < 2 ^ 12 := Nat.or_lt_two_pow hpd (Nat.lt_of_lt_of_le hda hpT)
          have hsm : ∀ {x : Nat}, x < 2 ^ 12 → x < 9223372036854775808 := fun h => Nat.lt_of_lt_of_le h (by decide)
          rw [shl_one d (by omega), or_i64 (1 <<< d) O[d] (hsm hpd) (hsm (Nat.lt_of_lt_of_le hda hpT)), or_i64 O[a] (1 <<< d ||| O[d]) (hsm (Nat.lt_of_lt_of_le haa hpT)) (hsm hor)]
          clear hpd hor hsm hda haa hpT
          have hput := Ow.put hown2 (n := T) hol'.out a (by omega) (O[a] ||| (1 <<< d ||| O[d]))
          have hst : O.set a (O[a] ||| (1 <<< d ||| O[d])) = Pg.wstep O (a, d) := by
            simp [Pg.wstep, List.getD_eq_getElem?_getD, ha, hd]
          rw [hst, ← hnext.out] at hput
          simp only [natE, Nat.mul_one] at hput
          refine ⟨⟨j + 1, by omega, by go_num, hput.1, ((hb2.grown hput.2 hb2.size (fun g hg => ?_))).drew⟩, by simp [intOf]; omega⟩
          rw [planBox_size]
          simp at hg
          omega
        · have hj' : j = p.edges.length := by omega
          subst hj'
          rw [List.take_length] at hown
          go_wp2
          exact ⟨⟨k + 1, by omega, by go_num, hown, hb⟩, by simp [intOf]; omega⟩
    · have hltI : ¬ (k : Int) < p.tasks := by rw [HT.out]; omega
      go_wp2
      go_ret
      refine ⟨_, rfl, ?_, hbw⟩
      have : k = T := by omega
      subst this
      rw [HT.out]
      exact hown.more (by omega)
end Go.Proofs.Ytoccmpijfggmkaa
