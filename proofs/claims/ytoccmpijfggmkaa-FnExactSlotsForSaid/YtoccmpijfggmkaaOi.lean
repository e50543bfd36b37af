/-
  OrderOf of the program.
-/
import Derived.Test.YtoccmpijfggmkaaSt
namespace Go.Proofs.Ytoccmpijfggmkaa
open Go.RowKit
set_option maxRecDepth 100000
set_option maxHeartbeats 2000000

open Classical in
noncomputable def orderOf (p : Plan) : List Nat := if planFault p = 0 then orderL (esOf p) p.tasks.toNat p.tasks.toNat else []
/-- the length in a slot -/
def slen : Value → Nat | .slice _ n _ => n | _ => 0

theorem mayCome_before {es : List (Nat × Nat)} {T : Nat} {out : List Nat} {t : Nat} (h1 : ∀ e ∈ es, e.1 < T) : mayCome es out t = (!decide (t ∈ out) && decide (∀ x ∈ beforeL es T t, x ∈ out)) := by
  rw [Bool.eq_iff_iff, mayCome_iff, Bool.and_eq_true, Bool.not_eq_true', decide_eq_false_iff_not, decide_eq_true_iff]
  have hm : ∀ x, x ∈ beforeL es T t ↔ x < T ∧ (x, t) ∈ es := fun x => by simp [beforeL]
  constructor
  · rintro ⟨a, b⟩
    exact ⟨a, fun x hx => b x ((hm x).1 hx).2⟩
  · rintro ⟨a, b⟩
    exact ⟨a, fun s hs => b s ((hm s).2 ⟨h1 _ hs, hs⟩)⟩

theorem plan_ac {p : Plan} (hf : planFault p = 0) : ∀ t, t < p.tasks.toNat → ¬ Pg.Reach (esOf p) t t := fun t ht hr => (planFault_zero.1 hf).2.2.2 ⟨t, ht, hr⟩

theorem implOrder_any (p : Plan) (ve : Value) (w : World) (hl : p.edges.length ≤ 2000000) (h : Rd edgeE w w.heap.size ve p.edges) :
    Calls Try.prog 143 #[planV p ve] w fun e w' => ∃ v, e = .returned v ∧ Ow natE 3 w' w.heap.size v (orderOf p) ∧ Below w.heap.size w w' := by
  have hb0 := planBox_below 47 p ve w
  have D0 := BoxAt.new 47 p ve w
  have hw0 := planBox_size 47 p ve w
  have Hw0 := Lib.hid hw0
  clear hw0
  by_cases hf : planFault p = 0
  case neg =>
    have hfb : (planFault p != 0) = true := by simp [hf]
    have H := Lib.hid (show orderOf p = [] by unfold orderOf; rw [if_neg hf])
    clear hf
    unfold planV
    go_enter Try.func143, Try.ntmps143
    go_wp2_with fail
    refine (implPlanFault_any p ve _ hl ((h.below hb0).more hb0.size)).mono ?_
    rintro e w1 ⟨rfl, hb1⟩
    go_wp2
    go_ret
    exact ⟨_, rfl, by rw [H.out]; exact Ow.nil _ _ _ _, bnext hb0 hb1⟩
  have hfb : (planFault p != 0) = false := by simp [hf]
  have G := Lib.hid (planFault_zero.1 hf)
  have HF := Lib.hid hf
  have hac := Lib.hid (plan_ac hf)
  obtain ⟨t1, t2⟩ := manyOk_tasks G.out.1
  obtain ⟨T, hT⟩ := Int.eq_ofNat_of_zero_le (show 0 ≤ p.tasks by omega)
  have HT := Lib.hid hT
  have HTn := Lib.hid (show p.tasks.toNat = T by omega)
  have hT12 : T ≤ 12 := by omega
  have H := Lib.hid (show orderOf p = orderL (esOf p) T T by unfold orderOf; rw [if_pos hf, HTn.out])
  have he1 := Lib.hid (show ∀ e ∈ esOf p, e.1 < T by have := (esOf_lt G.out.2.1).1; rw [HTn.out] at this; exact this)
  have hac' := Lib.hid (show ∀ t, t < T → ¬ Pg.Reach (esOf p) t t by have := hac.out; rw [HTn.out] at this; exact this)
  clear hf hT hac
  obtain ⟨j0, hj0, jz0, jz1, jz2⟩ := info_parts int_info
  unfold planV
  go_enter Try.func143, Try.ntmps143
  go_wp2_with fail
  refine (implPlanFault_any p ve _ hl ((h.below hb0).more hb0.size)).mono ?_
  rintro e w1 ⟨rfl, hb1⟩
  have D := D0.below hb1
  have hb := bnext hb0 hb1
  go_wp2
  clear D0 hb1
  go_loopw [3] (fun vl wr => ∃ n : Nat, n ≤ T ∧ Ow natE 3 wr (w.heap.size + 1) vl (orderL (esOf p) T n) ∧ BoxAt w.heap.size p ve wr ∧ Below w.heap.size w wr) (fun vl _ => T - slen vl)
  case atStart => exact ⟨0, Nat.zero_le _, Ow.nil _ _ _ _, D, hb⟩
  case round =>
    clear D hb
    obtain ⟨n, hn, ho, D, hb⟩ := hrel
    have hinv := Lib.hid (orderL_inv he1.out hac'.out n hn)
    obtain ⟨A, c, rfl, -⟩ := id (Rd.of_own ho)
    have hlen : (orderL (esOf p) T n).length = n := hinv.out.len
    rw [hlen] at ho ⊢
    obtain ⟨x0, x1, x2, x3, x4, xs⟩ := D.cells
    have hlen2 : (orderL (esOf p) T n).length ≤ 2000000 := by omega
    have HL := Lib.hid hlen
    have HL2 := Lib.hid hlen2
    clear hlen hlen2
    by_cases hlt : n < T
    · have hltI : (n : Int) < p.tasks := by rw [HT.out]; omega
      obtain ⟨wo, rfl⟩ : ∃ wo : World, wo = wr := ⟨_, rfl⟩
      go_wp2
      clear x0 x1 x2 x3 x4 xs
      go_loopw [3, 4] (fun vl i wr => ∃ k : Nat, k ≤ T ∧ vl = .slice A n c ∧ i = .int .i64 k ∧ Hid (∀ s, s < k → mayCome (esOf p) (orderL (esOf p) T n) s = false) ∧ Ow natE 3 wr (w.heap.size + 1) (.slice A n c) (orderL (esOf p) T n) ∧ BoxAt w.heap.size p ve wr ∧ Below w.heap.size w wr) (fun _ i _ => T - (intOf i).toNat)
      case atStart => exact ⟨0, Nat.zero_le _, rfl, rfl, fun s hs => absurd hs (by omega), ho, D, hb⟩
      case round =>
        clear ho D hb
        obtain ⟨k, hk, rfl, rfl, hno, ho, D, hb⟩ := hrel
        obtain ⟨x0, x1, x2, x3, x4, xs⟩ := D.cells
        by_cases hkt : k < T
        · have hktI : (k : Int) < p.tasks := by rw [HT.out]; omega
          have hmc := Lib.hid (mayCome_before (out := orderL (esOf p) T n) (t := k) he1.out)
          have hnext : mayCome (esOf p) (orderL (esOf p) T n) k = false → Hid (∀ s, s < k + 1 → mayCome (esOf p) (orderL (esOf p) T n) s = false) := fun hm s hs => by
            by_cases e : s = k
            · subst e; exact hm
            · exact hno.out s (by omega)
          cases hin : decide (k ∈ orderL (esOf p) T n)
          · have Hin := Lib.hid hin
            clear hin
            go_wp2_with fail
            refine (containsInt_any (.slice A n c) (orderL (esOf p) T n) k _ _ HL2.out (Rd.of_own ho)).mono ?_
            rintro e w2 ⟨rfl, rfl⟩
            rw [Hin.out]
            go_wp2_with fail
            refine (implBefore_any p ve k _ HF.out ((h.below hb).more hb.size)).mono ?_
            rintro e w3 ⟨v3, rfl, o3, b3⟩
            rw [HTn.out] at o3
            have ho := ho.below b3
            have D := D.below b3
            have hb := bnext hb b3
            clear x0 x1 x2 x3 x4 xs
            go_wp2_with fail
            refine (allIn_any v3 (beforeL (esOf p) T k) (.slice A n c) (orderL (esOf p) T n) _ HL2.out (by have := beforeL_len (esOf p) T k; omega) (Rd.of_own o3) (Rd.of_own ho)).mono ?_
            rintro e w4 ⟨rfl, b4⟩
            have ho := ho.below b4
            have D := D.below b4
            have hb := bnext hb b4
            cases hall : decide (∀ x ∈ beforeL (esOf p) T k, x ∈ orderL (esOf p) T n)
            · have S := hnext (by rw [hmc.out, hall]; simp)
              clear hnext
              go_wp2
              exact ⟨⟨k + 1, by omega, rfl, by go_num, S, ho, D, hb⟩, by simp [intOf]; omega⟩
            · have S := Lib.hid (orderL_succ (pickT_first hkt (show mayCome (esOf p) (orderL (esOf p) T n) k = true by rw [hmc.out, hall, Hin.out]; rfl) hno.out))
              have ha : Hid (∀ w : World, Below w.heap.size w (w.alloc (.cells #[.int .i64 (k : Int)] 3))) := fun w => (Below.refl _ _).alloc (Nat.le_refl _) _
              clear hnext
              go_wp2_with (at_builtin; refine wpList_push_all _ natE (by decide) rfl (.tmp 30) (.tmp 32) rfl Try.underlying50 hj0 jz0 jz1 jz2 rfl (l := orderL (esOf p) T n) rfl (ho.below (ha.out w4)) rfl (Rd.one natE _ _ k rfl rfl 1 (Nat.le_refl _) (Nat.lt_succ_self _)) (by have := HL2.out; omega) (by simp) (by decide) (by have := D.lt; simp; omega) ?_; intro v5 w5 o5 g5 _; obtain ⟨A5, c5, rfl, -⟩ := id (Rd.of_own o5))
              have D5 := (D.below (ha.out w4)).far g5 (fun e => by have := ho.within _ e.symm; omega)
              have hb' := bnext hb (ha.out w4)
              have W5 := hb'.grown g5 hb'.size (fun g hg => by have := ho.within _ hg; omega)
              have hlen5 : (orderL (esOf p) T n ++ [k]).length = n + 1 := by rw [List.length_append, HL.out]; rfl
              refine ⟨⟨n + 1, by omega, ?_, D5, W5⟩, ?_⟩
              · rw [S.out]
                simpa using o5
              · simp only [slen]
                have := HL.out
                first | omega | (simp; omega)
          · have Hin := Lib.hid hin
            have S := hnext (by rw [hmc.out, hin]; rfl)
            clear hin hnext
            go_wp2_with fail
            refine (containsInt_any (.slice A n c) (orderL (esOf p) T n) k _ _ HL2.out (Rd.of_own ho)).mono ?_
            rintro e w2 ⟨rfl, rfl⟩
            rw [Hin.out]
            go_wp2
            exact ⟨⟨k + 1, by omega, rfl, by go_num, S, ho, D, hb⟩, by simp [intOf]; omega⟩
        · exfalso
          obtain ⟨t, _, ht, hm⟩ := pick_some he1.out hac'.out (exists_out (T := T) (o := orderL (esOf p) T n) (by rw [HL.out]; exact hlt))
          rw [hno.out t (by omega)] at hm
          cases hm
    · have hltI : ¬ (n : Int) < p.tasks := by rw [HT.out]; omega
      have hn' : n = T := by omega
      subst hn'
      go_wp2
      go_ret
      refine ⟨_, rfl, ?_, hb⟩
      rw [H.out]
      exact ho.more (by omega)
end Go.Proofs.Ytoccmpijfggmkaa
