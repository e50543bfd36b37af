/-
  PlanFault of the program: the loops.
-/
import Derived.Test.YtoccmpijfggmkaaPi
namespace Go.Proofs.Ytoccmpijfggmkaa
open Go.RowKit
set_option maxRecDepth 100000
set_option maxHeartbeats 2000000

theorem implPlanFault_ok (p : Plan) (ve : Value) (w : World) (h : Rd edgeE w w.heap.size ve p.edges) (hm : manyOk p = true) :
    Calls Try.prog 119 #[planV p ve] w fun e w' => e = .returned (.int .i64 (planFault p)) ∧ Below w.heap.size w w' := by
  have Hm := Lib.hid hm
  obtain ⟨t1, t2⟩ := manyOk_tasks hm
  have hlen := manyOk_edges hm
  have hlen2 : p.edges.length ≤ 2000000 := by omega
  have hlI : ¬ (30 : Int) < (p.edges.length : Int) := by omega
  have hlB : decide ((30 : Int) < (p.edges.length : Int)) = false := by simpa using hlI
  obtain ⟨A, c, rfl, -⟩ := id h
  have hcap := h.cap
  unfold planV
  simp only [manyOk, Bool.and_eq_true] at hm
  obtain ⟨⟨⟨⟨h1, -⟩, h3⟩, h4⟩, h5⟩ := hm
  go_enter Try.func119, Try.ntmps119
  go_wp2_with (go_at_call 114; refine (within_any _ _ _ _).mono ?_; rintro e w' ⟨rfl, rfl⟩)
  go_loopw [40] (fun i wr => ∃ k : Nat, k ≤ p.edges.length ∧ i = .int .i64 k ∧ Hid (∀ j (hj : j < p.edges.length), j < k → edgeIn p.tasks p.edges[j] = true) ∧ Below (planBox 47 p (.slice A p.edges.length c) w).heap.size (planBox 47 p (.slice A p.edges.length c) w) wr) (fun i _ => p.edges.length - (intOf i).toNat)
  case atStart => exact ⟨0, Nat.zero_le _, rfl, fun j hj h0 => absurd h0 (by omega), Below.refl _ _⟩
  case round =>
    obtain ⟨k, hk, rfl, hok, hb⟩ := hrel
    obtain ⟨x0, x1, x2, x3, x4, hs, hbw⟩ := planBox_cells hb
    have hs1 : w.heap.size < wr.heap.size := by omega
    by_cases hlt : k < p.edges.length
    · obtain ⟨b, o, rfl, hbb, c0, c1⟩ := (h.below hbw).edge hlt
      have hba := hb.alloc hb.size (.cells #[.int .i64 p.edges[k].fr, .int .i64 p.edges[k].to] 91)
      have hbwa := hbw.alloc hbw.size (.cells #[.int .i64 p.edges[k].fr, .int .i64 p.edges[k].to] 91)
      have bad : edgeIn p.tasks p.edges[k] = false → Hid (planFault p = 2) := fun hf => planFault_edge Hm.out (fun hin => by
        rw [hin _ (List.getElem_mem hlt)] at hf; cases hf)
      cases g1 : inB p.edges[k].fr 0 (p.tasks - 1)
      · have H := bad (by simp [edgeIn, g1])
        clear bad
        go_wp2_with (go_at_call 114; refine (within_any _ _ _ _).mono ?_; rintro e w' ⟨rfl, rfl⟩)
        go_ret
        exact ⟨ret_int H.out.symm, hbwa⟩
      cases g2 : inB p.edges[k].to 0 (p.tasks - 1)
      · have H := bad (by simp [edgeIn, g2])
        clear bad
        go_wp2_with (go_at_call 114; refine (within_any _ _ _ _).mono ?_; rintro e w' ⟨rfl, rfl⟩)
        go_ret
        exact ⟨ret_int H.out.symm, hbwa⟩
      · have S : Hid (∀ j (hj : j < p.edges.length), j < k + 1 → edgeIn p.tasks p.edges[j] = true) := by
          intro j hj hjk
          by_cases e : j = k
          · subst e; simp [edgeIn, g1, g2]
          · exact hok.out j hj (by omega)
        clear bad
        go_wp2_with (go_at_call 114; refine (within_any _ _ _ _).mono ?_; rintro e w' ⟨rfl, rfl⟩)
        exact ⟨⟨k + 1, by omega, by go_num, S, hba⟩, by simp [intOf]; omega⟩
    · have hin : Hid (edgesIn p) := fun e he => by
        obtain ⟨j, hj, rfl⟩ := List.getElem_of_mem he
        exact hok.out j hj (by omega)
      clear hok hk
      go_wp2
      go_loopw [64] (fun i wr => ∃ k : Nat, k ≤ p.edges.length ∧ i = .int .i64 k ∧ Hid ((p.edges.take k).Nodup) ∧ Below (planBox 47 p (.slice A p.edges.length c) w).heap.size (planBox 47 p (.slice A p.edges.length c) w) wr) (fun i _ => p.edges.length - (intOf i).toNat)
      case atStart => exact ⟨0, Nat.zero_le _, rfl, by show (p.edges.take 0).Nodup; simp, hb⟩
      case round =>
        clear hb x0 x1 x2 x3 x4 hs hbw hs1
        obtain ⟨k, hk, rfl, hok, hb⟩ := hrel
        obtain ⟨x0, x1, x2, x3, x4, hs, hbw⟩ := planBox_cells hb
        have hs1 : w.heap.size < wr.heap.size := by omega
        have hkc : k ≤ c := by omega
        by_cases hlt : k < p.edges.length
        · obtain ⟨b, o, rfl, hbb, c0, c1⟩ := (h.below hbw).edge hlt
          have hba := hb.alloc hb.size (.cells #[.int .i64 p.edges[k].fr, .int .i64 p.edges[k].to] 91)
          have hbwa := hbw.alloc hbw.size (.cells #[.int .i64 p.edges[k].fr, .int .i64 p.edges[k].to] 91)
          have n0 : (wr.alloc (.cells #[.int .i64 p.edges[k].fr, .int .i64 p.edges[k].to] 91)).cell? ⟨wr.heap.size, 0, none⟩ = some (.int .i64 p.edges[k].fr) := by go_simp
          have n1 : (wr.alloc (.cells #[.int .i64 p.edges[k].fr, .int .i64 p.edges[k].to] 91)).cell? ⟨wr.heap.size, 1, none⟩ = some (.int .i64 p.edges[k].to) := by go_simp
          have x4' : (wr.alloc (.cells #[.int .i64 p.edges[k].fr, .int .i64 p.edges[k].to] 91)).cell? ⟨w.heap.size, 4, none⟩ = some (.slice (some ⟨b, o, none⟩) p.edges.length c) := by
            rw [World.cell?_alloc_lt _ _ _ (by simp; omega)]; exact x4
          have z1 : wr.heap.size < (wr.alloc (.cells #[.int .i64 p.edges[k].fr, .int .i64 p.edges[k].to] 91)).heap.size := by simp
          have z2 : w.heap.size < (wr.alloc (.cells #[.int .i64 p.edges[k].fr, .int .i64 p.edges[k].to] 91)).heap.size := by simp; omega
          have hrd := (Rd.take (k := k) (c' := c) (h.below hbw) (by omega) hkc)
          have hbase : Below w.heap.size w (wr.alloc (.cells #[.int .i64 p.edges[k].fr, .int .i64 p.edges[k].to] 91)) := hbwa
          have hrd2 : Rd edgeE (wr.alloc (.cells #[.int .i64 p.edges[k].fr, .int .i64 p.edges[k].to] 91)) w.heap.size (.slice (some ⟨b, o, none⟩) k c) (p.edges.take k) := Rd.take (h.below hbase) (by omega) c hkc
          have hlt2 : (p.edges.take k).length ≤ 2000000 := by simp; omega
          clear hrd
          by_cases hmem : p.edges[k] ∈ p.edges.take k
          · have H : Hid (planFault p = 3) := planFault_twice Hm.out hin.out (fun hnd => by
              have h1 : (p.edges.take (k + 1)).Nodup := hnd.sublist (List.take_sublist _ _)
              rw [take_snoc _ k hlt] at h1
              exact (nodup_snoc.1 h1).2 hmem)
            have hmb : decide (p.edges[k] ∈ p.edges.take k) = true := by simpa using hmem
            clear hmem
            go_wp2
            generalize wr.alloc (.cells #[.int .i64 p.edges[k].fr, .int .i64 p.edges[k].to] 91) = W2 at *
            have hlc := later_cell W2
            refine wp_region_pure (by kernel_rfl) (by kernel_rfl) ?_
            repeat (go_big_quiet_step ((go_at_call 147; rename_i x; have h1 := containsEdge_any _ (p.edges.take k) p.edges[k] x.1 hlt2 ((hrd2.below (x.2.mono hbase.size)).more (Nat.le_trans hbase.size x.2.size)); rw [hmb] at h1; exact pure_of h1)))
            refine wpQuiet_nil ?_
            rintro _ ⟨⟨w1, hb1⟩, rfl⟩
            clear hlc
            go_wp2
            go_ret
            exact ⟨ret_int H.out.symm, bnext hbase hb1⟩
          · have S : Hid ((p.edges.take (k + 1)).Nodup) := by
              show (p.edges.take (k + 1)).Nodup
              rw [take_snoc _ k hlt]
              exact nodup_snoc.2 ⟨hok.out, hmem⟩
            have hmb : decide (p.edges[k] ∈ p.edges.take k) = false := by simpa using hmem
            clear hmem
            go_wp2
            generalize wr.alloc (.cells #[.int .i64 p.edges[k].fr, .int .i64 p.edges[k].to] 91) = W2 at *
            have hlc := later_cell W2
            refine wp_region_pure (by kernel_rfl) (by kernel_rfl) ?_
            repeat (go_big_quiet_step ((go_at_call 147; rename_i x; have h1 := containsEdge_any _ (p.edges.take k) p.edges[k] x.1 hlt2 ((hrd2.below (x.2.mono hbase.size)).more (Nat.le_trans hbase.size x.2.size)); rw [hmb] at h1; exact pure_of h1)))
            refine wpQuiet_nil ?_
            rintro _ ⟨⟨w1, hb1⟩, rfl⟩
            clear hlc
            go_wp2
            exact ⟨⟨k + 1, by omega, by go_num, S, hba.trans (hb1.mono hba.size)⟩, by simp [intOf]; omega⟩
        · have hnd : Hid p.edges.Nodup := by
            have h1 := hok.out
            rw [List.take_of_length_le (by omega)] at h1
            exact h1
          clear hok hk hkc
          go_wp2_with fail
          refine (waits_any p (.slice A p.edges.length c) _ Hm.out hin.out ((h.below hbw).more hbw.size)).mono ?_
          rintro e w1 ⟨v1, rfl, o1, hb1⟩
          have hbw1 := bnext hbw hb1
          obtain ⟨T, hT⟩ := Int.eq_ofNat_of_zero_le (show 0 ≤ p.tasks by omega)
          have HT := Lib.hid hT
          have hTT : p.tasks.toNat = T := by omega
          rw [hTT] at o1
          have hT1 : 1 ≤ T := by omega
          have hT2 : T ≤ 12 := by omega
          have hiff := Pg.wrounds_iff (esOf p) T (by rw [← hTT]; exact (esOf_lt hin.out).1) (by rw [← hTT]; exact (esOf_lt hin.out).2)
          have hOl : (Pg.wrounds (esOf p) T (List.replicate T 0)).length = T := by rw [Pg.wrounds_length, List.length_replicate]
          have hcy := Lib.hid (show cyclic p ↔ ∃ t, t < T ∧ Pg.Reach (esOf p) t t by unfold cyclic; rw [hTT])
          have hsm : ∀ x ∈ Pg.wrounds (esOf p) T (List.replicate T 0), x < 2 ^ T := Pg.wrounds_lt T _ _ (by rw [← hTT]; exact (esOf_lt hin.out).2) (fun x hx => by
            have := List.eq_of_mem_replicate hx
            subst this
            exact Nat.two_pow_pos T) T
          generalize Pg.wrounds (esOf p) T (List.replicate T 0) = O at *
          have Hiff := Lib.hid hiff
          have HOl := Lib.hid hOl
          clear hiff hT hTT
          rcases o1.form with ⟨_, e0⟩ | ⟨g, cap, rfl, _, hgl, _, _, _, _⟩
          · exfalso
            rw [e0] at hOl
            simp at hOl
            omega
          rw [hOl] at o1
          rw [hOl]
          clear hOl
          go_wp2
          go_loop [79] (fun i => ∃ k : Nat, k ≤ T ∧ i = .int .i64 k ∧ Hid (∀ j, j < k → (O.getD j 0).testBit j = false)) (fun i => T - (intOf i).toNat)
          case atStart => exact ⟨0, Nat.zero_le _, rfl, fun j hj => absurd hj (by omega)⟩
          case round =>
            obtain ⟨k, hk, rfl, hok⟩ := hrel
            by_cases hlt2 : k < T
            · have ck := o1.nat (k := k) (by rw [HOl.out]; exact hlt2)
              have hkO : k < O.length := by rw [HOl.out]; exact hlt2
              have hx : O[k] < 9223372036854775808 := Nat.lt_of_lt_of_le (hsm _ (List.getElem_mem hkO)) (Nat.le_trans (Nat.pow_le_pow_right (by omega) hT2) (by decide))
              have hbt := bit_test O[k] k hx
              have hg : Hid (O.getD k 0 = O[k]) := by unfold Hid; rw [List.getD_eq_getElem?_getD, List.getElem?_eq_getElem hkO]; rfl
              cases hb2 : O[k].testBit k
              · rw [hb2] at hbt
                have S : Hid (∀ j, j < k + 1 → (O.getD j 0).testBit j = false) := by
                  intro j hj
                  by_cases e : j = k
                  · subst e; rw [hg.out]; exact hb2
                  · exact hok.out j (by omega)
                go_wp2
                exact ⟨⟨k + 1, by omega, by go_num, S⟩, by simp [intOf]; omega⟩
              · rw [hb2] at hbt
                have H : Hid (planFault p = 4) := planFault_cycle Hm.out hin.out hnd.out (hcy.out.2 ⟨k, hlt2, (Hiff.out k k).1 (by rw [hg.out]; exact hb2)⟩)
                go_wp2
                go_ret
                exact ⟨ret_int H.out.symm, hbw1⟩
            · have H : Hid (planFault p = 0) := planFault_zero.2 ⟨Hm.out, hin.out, hnd.out, fun hc => by
                obtain ⟨t, ht, hr⟩ := hcy.out.1 hc
                have h1 := (Hiff.out t t).2 hr
                rw [hok.out t (by omega)] at h1
                cases h1⟩
              go_wp2
              go_ret
              exact ⟨ret_int H.out.symm, hbw1⟩

theorem implPlanFault_any (p : Plan) (ve : Value) (w : World) (hl : p.edges.length ≤ 2000000) (h : Rd edgeE w w.heap.size ve p.edges) :
    Calls Try.prog 119 #[planV p ve] w fun e w' => e = .returned (.int .i64 (planFault p)) ∧ Below w.heap.size w w' := by
  cases hm : manyOk p
  · exact implPlanFault_many p ve w hl h hm
  · exact implPlanFault_ok p ve w h hm
end Go.Proofs.Ytoccmpijfggmkaa
