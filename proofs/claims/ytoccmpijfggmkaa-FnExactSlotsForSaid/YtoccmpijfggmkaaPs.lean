/-
  PlanFault of the reference.
-/
import Derived.Test.YtoccmpijfggmkaaFr
import Derived.Test.YtoccmpijfggmkaaPi
import Derived.Deep.RegionWith
namespace Go.Proofs.Ytoccmpijfggmkaa
open Go.RowKit
set_option maxRecDepth 100000
set_option maxHeartbeats 2000000

theorem l06Many_any (p : Plan) (ve : Value) (w : World) (hl : p.edges.length ≤ 2000000) (h : Rd edgeE w w.heap.size ve p.edges) :
    Calls Try.prog 145 #[planV p ve] w fun e w' => e = .returned (.bool (!manyOk p)) ∧ Below w.heap.size w w' := by
  obtain ⟨A, c, rfl, -⟩ := id h
  unfold planV
  cases h1 : inB p.tasks 1 12
  · have H := Lib.hid (show (!manyOk p) = true by simp [manyOk, h1])
    go_enter Try.func145, Try.ntmps145
    go_wp2_with (go_at_call 113; refine (l01In_any _ _ _ _).mono ?_; rintro e w' ⟨rfl, rfl⟩)
    go_ret
    exact ⟨ret_bool H.out.symm, (Below.refl _ _).alloc (Nat.le_refl _) _⟩
  by_cases h2 : 30 < p.edges.length
  · have H := Lib.hid (show (!manyOk p) = true by simp [manyOk, show ¬ p.edges.length ≤ 30 by omega])
    have h2' : decide ((30 : Int) < (p.edges.length : Int)) = true := by simp; omega
    have h2'' : (30 : Int) < (p.edges.length : Int) := by omega
    go_enter Try.func145, Try.ntmps145
    go_wp2_with (go_at_call 113; refine (l01In_any _ _ _ _).mono ?_; rintro e w' ⟨rfl, rfl⟩)
    go_ret
    exact ⟨ret_bool H.out.symm, (Below.refl _ _).alloc (Nat.le_refl _) _⟩
  have h2' : decide ((30 : Int) < (p.edges.length : Int)) = false := by simp; omega
  have h2'' : ¬ (30 : Int) < (p.edges.length : Int) := by omega
  cases h3 : inB p.prio 0 9
  · have H := Lib.hid (show (!manyOk p) = true by simp [manyOk, h3])
    go_enter Try.func145, Try.ntmps145
    go_wp2_with (go_at_call 113; refine (l01In_any _ _ _ _).mono ?_; rintro e w' ⟨rfl, rfl⟩)
    go_ret
    exact ⟨ret_bool H.out.symm, (Below.refl _ _).alloc (Nat.le_refl _) _⟩
  cases h4 : inB p.most 1 5
  · have H := Lib.hid (show (!manyOk p) = true by simp [manyOk, h4])
    go_enter Try.func145, Try.ntmps145
    go_wp2_with (go_at_call 113; refine (l01In_any _ _ _ _).mono ?_; rintro e w' ⟨rfl, rfl⟩)
    go_ret
    exact ⟨ret_bool H.out.symm, (Below.refl _ _).alloc (Nat.le_refl _) _⟩
  have H : Hid ((!inB p.wait 1 20) = !manyOk p) := by
    show (!inB p.wait 1 20) = !manyOk p
    simp [manyOk, h1, h3, h4, show p.edges.length ≤ 30 by omega]
  go_enter Try.func145, Try.ntmps145
  go_wp2_with (go_at_call 113; refine (l01In_any _ _ _ _).mono ?_; rintro e w' ⟨rfl, rfl⟩)
  go_ret
  exact ⟨ret_bool H.out, (Below.refl _ _).alloc (Nat.le_refl _) _⟩

theorem specPlanFault_any (p : Plan) (ve : Value) (w : World) (hl : p.edges.length ≤ 2000000) (h : Rd edgeE w w.heap.size ve p.edges) :
    Calls Try.prog 116 #[planV p ve] w fun e w' => e = .returned (.int .i64 (planFault p)) ∧ Below w.heap.size w w' := by
  obtain ⟨A, c, rfl, -⟩ := id h
  have hb0 := planBox_below 47 p (.slice A p.edges.length c) w
  cases hm : manyOk p
  · have H := Lib.hid (planFault_many hm)
    unfold planV
    go_enter Try.func116, Try.ntmps116
    go_wp2_with fail
    refine (l06Many_any p (.slice A p.edges.length c) _ hl ((h.below hb0).more hb0.size)).mono ?_
    rintro e w1 ⟨rfl, hb1⟩
    rw [hm]
    go_wp2
    go_ret
    exact ⟨ret_int H.out.symm, bnext hb0 hb1⟩
  · have Hm := Lib.hid hm
    obtain ⟨t1, t2⟩ := manyOk_tasks hm
    have hlen := manyOk_edges hm
    unfold planV
    go_enter Try.func116, Try.ntmps116
    go_wp2_with fail
    refine (l06Many_any p (.slice A p.edges.length c) _ hl ((h.below hb0).more hb0.size)).mono ?_
    rintro e w1 ⟨rfl, hb1⟩
    rw [hm]
    clear hm
    go_wp2
    go_loopw [3] (fun i wr => ∃ k : Nat, k ≤ p.edges.length ∧ i = .int .i64 k ∧ Hid (∀ j (hj : j < p.edges.length), j < k → edgeIn p.tasks p.edges[j] = true) ∧ Below (planBox 47 p (.slice A p.edges.length c) w).heap.size (planBox 47 p (.slice A p.edges.length c) w) wr) (fun i _ => p.edges.length - (intOf i).toNat)
    case atStart => exact ⟨0, Nat.zero_le _, rfl, fun j hj h0 => absurd h0 (by omega), hb1⟩
    case round =>
      obtain ⟨k, hk, rfl, hok, hb⟩ := hrel
      obtain ⟨x0, x1, x2, x3, x4, hs, hbw⟩ := planBox_cells hb
      by_cases hlt : k < p.edges.length
      · obtain ⟨b, o, rfl, hbb, c0, c1⟩ := (h.below hbw).edge hlt
        have hltI : (k : Int) < (p.edges.length : Int) := by omega
        have hlc := later_cell wr
        have hs1 : w.heap.size < wr.heap.size := by omega
        have hbb1 : b < wr.heap.size := by omega
        have e1 : IntKind.i64.wrap (p.tasks - 1) = p.tasks - 1 := IntWalk.i64_in _ (by omega)
        have bad : edgeIn p.tasks p.edges[k] = false → Hid (planFault p = 2) := fun hf => planFault_edge Hm.out (fun hin => by
          rw [hin _ (List.getElem_mem hlt)] at hf; cases hf)
        cases g1 : inB p.edges[k].fr 0 (p.tasks - 1)
        · have H := bad (by simp [edgeIn, g1])
          clear bad
          go_wp2
          refine wp_region_pure (by kernel_rfl) (by kernel_rfl) ?_
          repeat (go_big_quiet_step ((go_at_call 113; exact pure_same (fun u => l01In_any _ _ _ u.1))))
          refine wpQuiet_nil ?_
          rintro _ ⟨⟨w2, hb2⟩, rfl⟩
          clear hlc
          go_wp2
          go_ret
          exact ⟨ret_int H.out.symm, bnext hbw hb2⟩
        cases g2 : inB p.edges[k].to 0 (p.tasks - 1)
        · have H := bad (by simp [edgeIn, g2])
          clear bad
          go_wp2
          refine wp_region_pure (by kernel_rfl) (by kernel_rfl) ?_
          repeat (go_big_quiet_step ((go_at_call 113; exact pure_same (fun u => l01In_any _ _ _ u.1))))
          refine wpQuiet_nil ?_
          rintro _ ⟨⟨w2, hb2⟩, rfl⟩
          clear hlc
          go_wp2
          go_ret
          exact ⟨ret_int H.out.symm, bnext hbw hb2⟩
        · have S : Hid (∀ j (hj : j < p.edges.length), j < k + 1 → edgeIn p.tasks p.edges[j] = true) := by
            intro j hj hjk
            by_cases e : j = k
            · subst e; simp [edgeIn, g1, g2]
            · exact hok.out j hj (by omega)
          clear bad
          go_wp2
          refine wp_region_pure (by kernel_rfl) (by kernel_rfl) ?_
          repeat (go_big_quiet_step ((go_at_call 113; exact pure_same (fun u => l01In_any _ _ _ u.1))))
          refine wpQuiet_nil ?_
          rintro _ ⟨⟨w2, hb2⟩, rfl⟩
          clear hlc
          go_wp2
          exact ⟨⟨k + 1, by omega, by go_num, S, hb.trans (hb2.mono hb.size)⟩, by simp [intOf]; omega⟩
      · have hin : Hid (edgesIn p) := fun e he => by
          obtain ⟨j, hj, rfl⟩ := List.getElem_of_mem he
          exact hok.out j hj (by omega)
        have hltI : ¬ (k : Int) < (p.edges.length : Int) := by omega
        have hs1 : w.heap.size < wr.heap.size := by omega
        clear hok hk hb1
        go_wp2
        clear hlt hltI
        go_loopw [4] (fun i wr => ∃ k : Nat, k ≤ p.edges.length ∧ i = .int .i64 k ∧ Hid ((p.edges.take k).Nodup) ∧ Below (planBox 47 p (.slice A p.edges.length c) w).heap.size (planBox 47 p (.slice A p.edges.length c) w) wr) (fun i _ => p.edges.length - (intOf i).toNat)
        case atStart => exact ⟨0, Nat.zero_le _, rfl, by show (p.edges.take 0).Nodup; simp, hb⟩
        case round =>
          clear hb x0 x1 x2 x3 x4 hs hbw hs1
          obtain ⟨k, hk, rfl, hok, hb⟩ := hrel
          obtain ⟨x0, x1, x2, x3, x4, hs, hbw⟩ := planBox_cells hb
          by_cases hlt : k < p.edges.length
          · have hltI : (k : Int) < (p.edges.length : Int) := by omega
            obtain ⟨b, o, rfl, -, -, -⟩ := (h.below hbw).edge hlt
            obtain ⟨wo, rfl⟩ : ∃ wo : World, wo = wr := ⟨_, rfl⟩
            go_wp2
            go_loopw [5] (fun i wr => ∃ m : Nat, m ≤ k ∧ i = .int .i64 m ∧ Hid (∀ j (hj : j < p.edges.length), j < m → ¬ p.edges[k] = p.edges[j]) ∧ Below (planBox 47 p (.slice (some ⟨b, o, none⟩) p.edges.length c) w).heap.size (planBox 47 p (.slice (some ⟨b, o, none⟩) p.edges.length c) w) wr) (fun i _ => k - (intOf i).toNat)
            case atStart => exact ⟨0, Nat.zero_le _, rfl, fun j hj h0 => absurd h0 (by omega), hb⟩
            case round =>
              clear hb x0 x1 x2 x3 x4 hs hbw
              obtain ⟨m, hm, rfl, hno, hb⟩ := hrel
              obtain ⟨x0, x1, x2, x3, x4, hs, hbw⟩ := planBox_cells hb
              by_cases hmk : m < k
              · have hmI : (m : Int) < (k : Int) := by omega
                have hml : m < p.edges.length := by omega
                have hmlI : (m : Int) < (p.edges.length : Int) := by omega
                obtain ⟨b1, o1, he1, -, c0, c1⟩ := (h.below hbw).edge hlt
                obtain ⟨b2, o2, he2, -, d0, d1⟩ := (h.below hbw).edge hml
                simp only [Option.some.injEq, Addr.mk.injEq, and_true] at he1 he2
                obtain ⟨rfl, rfl⟩ := he1
                obtain ⟨rfl, rfl⟩ := he2
                by_cases hx : p.edges[k] = p.edges[m]
                · have H : Hid (planFault p = 3) := planFault_twice Hm.out hin.out (fun hnd => by
                    have h1 : (p.edges.take (k + 1)).Nodup := hnd.sublist (List.take_sublist _ _)
                    rw [take_snoc _ k hlt] at h1
                    refine (nodup_snoc.1 h1).2 ?_
                    rw [hx]
                    have : (p.edges.take k)[m]'(by simp; omega) = p.edges[m] := List.getElem_take
                    rw [← this]
                    exact List.getElem_mem _)
                  have e0 : p.edges[m].fr = p.edges[k].fr := by rw [hx]
                  have e1 : p.edges[m].to = p.edges[k].to := by rw [hx]
                  rw [e0] at d0
                  rw [e1] at d1
                  clear hx e0 e1
                  go_wp2
                  go_quiet (fail)
                  go_wp2
                  go_ret
                  exact ⟨ret_int H.out.symm, bdrewN hbw _⟩
                · have S : Hid (∀ j (hj : j < p.edges.length), j < m + 1 → ¬ p.edges[k] = p.edges[j]) := by
                    intro j hj hjm
                    by_cases e : j = m
                    · subst e; exact hx
                    · exact hno.out j hj (by omega)
                  have hx' : ¬ (p.edges[k].fr = p.edges[m].fr ∧ p.edges[k].to = p.edges[m].to) := fun ⟨e0, e1⟩ => hx (by cases hlk : p.edges[k]; cases hlm : p.edges[m]; simp_all)
                  clear hx
                  by_cases e0 : p.edges[k].fr = p.edges[m].fr
                  · have e1 : ¬ p.edges[k].to = p.edges[m].to := fun e => hx' ⟨e0, e⟩
                    have e1' : (p.edges[k].to == p.edges[m].to) = false := beq_eq_false_iff_ne.2 e1
                    rw [← e0] at d0
                    clear hx' e0
                    go_wp2
                    go_quiet (fail)
                    go_wp2
                    exact ⟨⟨m + 1, by omega, by go_num, S, bdrewN hb _⟩, by simp [intOf]; omega⟩
                  · have e0' : (p.edges[k].fr == p.edges[m].fr) = false := beq_eq_false_iff_ne.2 e0
                    clear hx'
                    go_wp2
                    go_quiet (fail)
                    go_wp2
                    exact ⟨⟨m + 1, by omega, by go_num, S, bdrewN hb _⟩, by simp [intOf]; omega⟩
              · have hmI : ¬ (m : Int) < (k : Int) := by omega
                have S : Hid ((p.edges.take (k + 1)).Nodup) := by
                  show (p.edges.take (k + 1)).Nodup
                  rw [take_snoc _ k hlt]
                  refine nodup_snoc.2 ⟨hok.out, fun hmem => ?_⟩
                  obtain ⟨j, hj, hje⟩ := List.getElem_of_mem hmem
                  rw [List.getElem_take] at hje
                  simp at hj
                  exact hno.out j (by omega) (by omega) hje.symm
                go_wp2
                exact ⟨⟨k + 1, by omega, by go_num, S, hb⟩, by simp [intOf]; omega⟩
          · have hltI : ¬ (k : Int) < (p.edges.length : Int) := by omega
            have hnd : Hid p.edges.Nodup := by
              have h1 := hok.out
              rw [List.take_of_length_le (by omega)] at h1
              exact h1
            clear hok hk
            go_wp2
            clear hlt hltI
            go_loopw [6] (fun i wr => ∃ k : Nat, (k : Int) ≤ p.tasks ∧ i = .int .i64 k ∧ Hid (∀ j, j < k → ¬ Pg.Reach (esOf p) j j) ∧ Below (planBox 47 p (.slice A p.edges.length c) w).heap.size (planBox 47 p (.slice A p.edges.length c) w) wr) (fun i _ => p.tasks.toNat - (intOf i).toNat)
            case atStart => exact ⟨0, by omega, rfl, fun j hj => absurd hj (by omega), hb⟩
            case round =>
              clear hb x0 x1 x2 x3 x4 hs hbw
              obtain ⟨k, hk, rfl, hok, hb⟩ := hrel
              obtain ⟨x0, x1, x2, x3, x4, hs, hbw⟩ := planBox_cells hb
              by_cases hlt : (k : Int) < p.tasks
              · go_wp2_with fail
                refine (from_any p (.slice A p.edges.length c) k _ Hm.out hin.out hlt ((h.below hbw).more hbw.size)).mono ?_
                rintro e w2 ⟨v, O, rfl, o1, hb2, hOl, hiff⟩
                have hkO : k < O.length := by omega
                have hlen0 := Lib.hid hOl
                rcases o1.form with ⟨_, e0⟩ | ⟨g, cap, rfl, _, hgl, _, _, _, _⟩
                · exfalso
                  subst e0
                  simp at hkO
                have ck := o1.bool hkO
                have hg : Hid (O.getD k false = O[k]) := by unfold Hid; rw [List.getD_eq_getElem?_getD, List.getElem?_eq_getElem hkO]; rfl
                have Hiff := Lib.hid hiff
                have hkOI : (k : Int) < (O.length : Int) := by omega
                clear hOl hiff
                cases hO : O[k]
                · rw [hO] at ck
                  have S : Hid (∀ j, j < k + 1 → ¬ Pg.Reach (esOf p) j j) := by
                    intro j hj
                    by_cases e : j = k
                    · subst e
                      intro hr
                      have := (Hiff.out j).2 hr
                      rw [hg.out, hO] at this
                      cases this
                    · exact hok.out j (by omega)
                  clear hO
                  go_wp2
                  exact ⟨⟨k + 1, by omega, by go_num, S, hb.trans (hb2.mono hb.size)⟩, by simp [intOf]; omega⟩
                · rw [hO] at ck
                  have H : Hid (planFault p = 4) := planFault_cycle Hm.out hin.out hnd.out ⟨k, by omega, (Hiff.out k).1 (by rw [hg.out, hO])⟩
                  clear hO
                  go_wp2
                  go_ret
                  exact ⟨ret_int H.out.symm, bnext hbw hb2⟩
              · have H : Hid (planFault p = 0) := planFault_zero.2 ⟨Hm.out, hin.out, hnd.out, fun ⟨t, ht, hr⟩ => hok.out t (by omega) hr⟩
                go_wp2
                go_ret
                exact ⟨ret_int H.out.symm, hbw⟩
end Go.Proofs.Ytoccmpijfggmkaa
