/-
  The next task that may be taken, of both. Written by program (nx.py).
-/
import Derived.Test.YtoccmpijfggmkaaSd
import Derived.Test.YtoccmpijfggmkaaSt
import Derived.Test.YtoccmpijfggmkaaLe
namespace Go.Proofs.Ytoccmpijfggmkaa
open Go.RowKit
set_option maxRecDepth 100000
set_option maxHeartbeats 2000000

def nextZ : Option Nat → Int
  | none => -1
  | some t => (t : Int)
theorem all_succ {B : List Nat} {f : Nat → Bool} {j : Nat} (hj : j < B.length) : (B.take (j + 1)).all f = ((B.take j).all f && f B[j]) := by
  rw [take_snoc B j hj, List.all_append]
  simp

theorem implNext_any (p : Plan) (ve v : Value) (E : List Int) (now : Int) (w : World) (hf : planFault p = 0) (hE : E.length = p.tasks.toNat) (h : Rd edgeE w w.heap.size ve p.edges) (h2 : Rd intE w w.heap.size v E) :
    Calls Try.prog 125 #[planV p ve, v, .int .i64 now] w fun e w' => e = .returned (.int .i64 (nextZ (nextT (esOf p) p.tasks.toNat E now))) ∧ Below w.heap.size w w' := by
  obtain ⟨A, c, rfl, -⟩ := id h2
  have hb0 := planBox_below 47 p ve w
  have D0 := BoxAt.new 47 p ve w
  have G := Lib.hid (planFault_zero.1 hf)
  obtain ⟨t1, t2⟩ := manyOk_tasks G.out.1
  obtain ⟨T, hT⟩ := Int.eq_ofNat_of_zero_le (show 0 ≤ p.tasks by omega)
  have HT := Lib.hid hT
  have HTn := Lib.hid (show p.tasks.toNat = T by omega)
  have hT12 : T ≤ 12 := by omega
  have HE := Lib.hid (show E.length = T by omega)
  have HF := Lib.hid hf
  rw [HTn.out]
  clear hf hE hT
  unfold planV
  go_enter Try.func125, Try.ntmps125
  go_wp2
  go_loopw [7] (fun i wr => ∃ k : Nat, k ≤ T ∧ i = .int .i64 k ∧ Hid (∀ s, s < k → mayStart (esOf p) T E now s = false) ∧ BoxAt w.heap.size p ve wr ∧ Below w.heap.size w wr) (fun i _ => T - (intOf i).toNat)
  case atStart => exact ⟨0, Nat.zero_le _, rfl, fun s hs => absurd hs (by omega), D0, hb0⟩
  case round =>
    clear D0 hb0
    obtain ⟨k, hk, rfl, hno, D, hb⟩ := hrel
    obtain ⟨x0, x1, x2, x3, x4, xs⟩ := D.cells
    by_cases hlt : k < T
    · have hltI : (k : Int) < p.tasks := by rw [HT.out]; omega
      have hkE : k < E.length := by rw [HE.out]; exact hlt
      have hkEI : (k : Int) < (E.length : Int) := by omega
      obtain ⟨b2, o2, rfl, hbb2, d0⟩ := (h2.below hb).int hkE
      have Hgd := Lib.hid (getD_at hkE (0 : Int))
      have hmay : Hid (mayStart (esOf p) T E now k = (decide (E[k] < 0) && (beforeL (esOf p) T k).all (beforeOk E now))) := by unfold Hid mayStart; rw [Hgd.out]
      have S0 : mayStart (esOf p) T E now k = false → Hid (∀ s, s < k + 1 → mayStart (esOf p) T E now s = false) := fun h s hs => by
        by_cases e : s = k
        · subst e; exact h
        · exact hno.out s (by omega)
      by_cases hneg : E[k] < 0
      case neg =>
        have S := S0 (by rw [hmay.out]; simp [hneg])
        clear S0 Hgd hmay
        have hge : (0 : Int) ≤ E[k] := by omega
        go_wp2
        exact ⟨⟨k + 1, by omega, by go_num, S, D, hb⟩, by simp [intOf]; omega⟩
      have S1 := Lib.hid S0
      clear S0 Hgd
      have hge : ¬ (0 : Int) ≤ E[k] := by omega
      have HN := Lib.hid hneg
      clear hneg
      go_wp2_with fail
      clear x0 x1 x2 x3 x4 xs
      refine (implBefore_any p ve k _ HF.out ((h.below hb).more hb.size)).mono ?_
      rintro e w3 ⟨v3, rfl, o3, b3⟩
      have D := D.below b3
      have hb := bnext hb b3
      rw [HTn.out] at o3
      have hbl := beforeL_len (esOf p) T k
      have hbm : Hid (∀ x ∈ beforeL (esOf p) T k, x < T) := fun x hx => by simp [beforeL] at hx; exact hx.1
      have hmay2 : Hid (mayStart (esOf p) T E now k = (beforeL (esOf p) T k).all (beforeOk E now)) := by unfold Hid; rw [hmay.out]; simp [HN.out]
      clear hmay
      generalize beforeL (esOf p) T k = B at *
      obtain ⟨A3, c3, rfl, -⟩ := id (Rd.of_own o3)
      clear b3 d0
      have hbb3 := Nat.lt_of_lt_of_le hbb2 hb.size
      go_wp2
      go_loop [8, 26] (fun fr i => ∃ (j : Nat) (r : Bool), j ≤ B.length ∧ i = .int .i64 j ∧ fr = .bool r ∧ Hid (r = (B.take j).all (beforeOk E now))) (fun _ i => B.length - (intOf i).toNat)
      case atStart => exact ⟨0, true, Nat.zero_le _, rfl, rfl, by simp [Hid]⟩
      case round =>
        obtain ⟨j, r, hj, rfl, rfl, hr⟩ := hrel
        by_cases hjt : j < B.length
        · have hjI : (j : Int) < (B.length : Int) := by omega
          have hS := Lib.hid (all_succ (f := beforeOk E now) hjt)
          obtain ⟨g3, rfl, hg3, hg3'⟩ := o3.some_ (by omega)
          have cb := o3.nat hjt
          have hxT : B[j] < T := hbm.out _ (List.getElem_mem hjt)
          have hxE : B[j] < E.length := by rw [HE.out]; exact hxT
          have hxI : (B[j] : Int) < (E.length : Int) := by omega
          obtain ⟨b5, o5, he5, hbb5, d5⟩ := (h2.below hb).int hxE
          simp only [Option.some.injEq, Addr.mk.injEq, and_true] at he5
          obtain ⟨rfl, rfl⟩ := he5
          have hbo : Hid (beforeOk E now B[j] = (decide (0 ≤ E[B[j]]) && decide (E[B[j]] ≤ now))) := by unfold Hid beforeOk; rw [getD_at hxE]
          cases r
          · have S := Lib.hid (show false = (B.take (j + 1)).all (beforeOk E now) by rw [hS.out, ← hr.out]; rfl)
            clear hbo
            go_wp2
            exact ⟨⟨j + 1, false, by omega, by go_num, rfl, S⟩, by simp [intOf]; omega⟩
          by_cases u1 : (0 : Int) ≤ E[B[j]]
          case neg =>
            have S := Lib.hid (show false = (B.take (j + 1)).all (beforeOk E now) by rw [hS.out, hbo.out]; simp [u1])
            have ud : decide ((0 : Int) ≤ E[B[j]]) = false := by simpa using u1
            clear hbo u1
            go_wp2
            exact ⟨⟨j + 1, false, by omega, by go_num, rfl, S⟩, by simp [intOf]; omega⟩
          have ud : decide ((0 : Int) ≤ E[B[j]]) = true := by simpa using u1
          by_cases u2 : E[B[j]] ≤ now
          case neg =>
            have S := Lib.hid (show false = (B.take (j + 1)).all (beforeOk E now) by rw [hS.out, hbo.out]; simp [u2])
            have ue : decide (E[B[j]] ≤ now) = false := by simpa using u2
            clear hbo u2 u1
            go_wp2
            exact ⟨⟨j + 1, false, by omega, by go_num, rfl, S⟩, by simp [intOf]; omega⟩
          have S := Lib.hid (show true = (B.take (j + 1)).all (beforeOk E now) by rw [hS.out, hbo.out, ← hr.out]; simp [u1, u2])
          have ue : decide (E[B[j]] ≤ now) = true := by simpa using u2
          clear hbo u2 u1
          go_wp2
          exact ⟨⟨j + 1, true, by omega, by go_num, rfl, S⟩, by simp [intOf]; omega⟩
        · have hjI : ¬ (j : Int) < (B.length : Int) := by omega
          have hj' : j = B.length := by omega
          have hR := Lib.hid (show r = mayStart (esOf p) T E now k by rw [hmay2.out, hr.out, hj', List.take_length])
          clear hj'
          cases r
          · have S := S1.out hR.out.symm
            go_wp2
            exact ⟨⟨k + 1, by omega, by go_num, S, D, hb⟩, by simp [intOf]; omega⟩
          · have H := Lib.hid (nextT_first hlt hR.out.symm hno.out)
            go_wp2
            go_ret
            exact ⟨ret_int (by rw [H.out]; rfl), hb⟩
    · have hltI : ¬ (k : Int) < p.tasks := by rw [HT.out]; omega
      have H := Lib.hid (nextT_none (es := esOf p) (T := T) (ends := E) (now := now) fun s hs => hno.out s (by omega))
      go_wp2
      go_ret
      exact ⟨ret_int (by rw [H.out]; rfl), hb⟩

theorem specNext_any (p : Plan) (ve v : Value) (E : List Int) (now : Int) (w : World) (hf : planFault p = 0) (hE : E.length = p.tasks.toNat) (h : Rd edgeE w w.heap.size ve p.edges) (h2 : Rd intE w w.heap.size v E) :
    Calls Try.prog 126 #[planV p ve, v, .int .i64 now] w fun e w' => e = .returned (.int .i64 (nextZ (nextT (esOf p) p.tasks.toNat E now))) ∧ Below w.heap.size w w' := by
  obtain ⟨A, c, rfl, -⟩ := id h2
  have hb0 := planBox_below 47 p ve w
  have D0 := BoxAt.new 47 p ve w
  have G := Lib.hid (planFault_zero.1 hf)
  obtain ⟨t1, t2⟩ := manyOk_tasks G.out.1
  obtain ⟨T, hT⟩ := Int.eq_ofNat_of_zero_le (show 0 ≤ p.tasks by omega)
  have HT := Lib.hid hT
  have HTn := Lib.hid (show p.tasks.toNat = T by omega)
  have hT12 : T ≤ 12 := by omega
  have HE := Lib.hid (show E.length = T by omega)
  have HF := Lib.hid hf
  rw [HTn.out]
  clear hf hE hT
  unfold planV
  go_enter Try.func126, Try.ntmps126
  go_wp2
  go_loopw [7] (fun i wr => ∃ k : Nat, k ≤ T ∧ i = .int .i64 k ∧ Hid (∀ s, s < k → mayStart (esOf p) T E now s = false) ∧ BoxAt w.heap.size p ve wr ∧ Below w.heap.size w wr) (fun i _ => T - (intOf i).toNat)
  case atStart => exact ⟨0, Nat.zero_le _, rfl, fun s hs => absurd hs (by omega), D0, hb0⟩
  case round =>
    clear D0 hb0
    obtain ⟨k, hk, rfl, hno, D, hb⟩ := hrel
    obtain ⟨x0, x1, x2, x3, x4, xs⟩ := D.cells
    by_cases hlt : k < T
    · have hltI : (k : Int) < p.tasks := by rw [HT.out]; omega
      have hkE : k < E.length := by rw [HE.out]; exact hlt
      have hkEI : (k : Int) < (E.length : Int) := by omega
      obtain ⟨b2, o2, rfl, hbb2, d0⟩ := (h2.below hb).int hkE
      have Hgd := Lib.hid (getD_at hkE (0 : Int))
      have hmay : Hid (mayStart (esOf p) T E now k = (decide (E[k] < 0) && (beforeL (esOf p) T k).all (beforeOk E now))) := by unfold Hid mayStart; rw [Hgd.out]
      have S0 : mayStart (esOf p) T E now k = false → Hid (∀ s, s < k + 1 → mayStart (esOf p) T E now s = false) := fun h s hs => by
        by_cases e : s = k
        · subst e; exact h
        · exact hno.out s (by omega)
      by_cases hneg : E[k] < 0
      case neg =>
        have S := S0 (by rw [hmay.out]; simp [hneg])
        clear S0 Hgd hmay
        have hdn : decide (E[k] < 0) = false := by simpa using hneg
        clear hneg
        go_wp2_with fail
        clear x0 x1 x2 x3 x4 xs
        refine (specBefore_any p ve k _ G.out.1 G.out.2.1 G.out.2.2.1 ((h.below hb).more hb.size)).mono ?_
        rintro e w3 ⟨v3, rfl, o3, b3⟩
        have D := D.below b3
        have hb := bnext hb b3
        rw [HTn.out] at o3
        have hbl := beforeL_len (esOf p) T k
        generalize beforeL (esOf p) T k = B at *
        obtain ⟨A3, c3, rfl, -⟩ := id (Rd.of_own o3)
        clear b3 d0
        go_wp2
        go_loop [8, 10] (fun fr i => ∃ j : Nat, j ≤ B.length ∧ i = .int .i64 j ∧ fr = .bool false) (fun _ i => B.length - (intOf i).toNat)
        case atStart => exact ⟨0, Nat.zero_le _, rfl, rfl⟩
        case round =>
          obtain ⟨j, hj, rfl, rfl⟩ := hrel
          by_cases hjt : j < B.length
          · have hjI : (j : Int) < (B.length : Int) := by omega
            go_wp2
            exact ⟨⟨j + 1, by omega, by go_num, rfl⟩, by simp [intOf]; omega⟩
          · have hjI : ¬ (j : Int) < (B.length : Int) := by omega
            go_wp2
            exact ⟨⟨k + 1, by omega, by go_num, S, D, hb⟩, by simp [intOf]; omega⟩
      have S1 := Lib.hid S0
      clear S0 Hgd
      have hdn : decide (E[k] < 0) = true := by simpa using hneg
      have HN := Lib.hid hneg
      clear hneg
      go_wp2_with fail
      clear x0 x1 x2 x3 x4 xs
      refine (specBefore_any p ve k _ G.out.1 G.out.2.1 G.out.2.2.1 ((h.below hb).more hb.size)).mono ?_
      rintro e w3 ⟨v3, rfl, o3, b3⟩
      have D := D.below b3
      have hb := bnext hb b3
      rw [HTn.out] at o3
      have hbl := beforeL_len (esOf p) T k
      have hbm : Hid (∀ x ∈ beforeL (esOf p) T k, x < T) := fun x hx => by simp [beforeL] at hx; exact hx.1
      have hmay2 : Hid (mayStart (esOf p) T E now k = (beforeL (esOf p) T k).all (beforeOk E now)) := by unfold Hid; rw [hmay.out]; simp [HN.out]
      clear hmay
      generalize beforeL (esOf p) T k = B at *
      obtain ⟨A3, c3, rfl, -⟩ := id (Rd.of_own o3)
      clear b3 d0
      have hbb3 := Nat.lt_of_lt_of_le hbb2 hb.size
      go_wp2
      go_loop [8, 10] (fun fr i => ∃ (j : Nat) (r : Bool), j ≤ B.length ∧ i = .int .i64 j ∧ fr = .bool r ∧ Hid (r = (B.take j).all (beforeOk E now))) (fun _ i => B.length - (intOf i).toNat)
      case atStart => exact ⟨0, true, Nat.zero_le _, rfl, rfl, by simp [Hid]⟩
      case round =>
        obtain ⟨j, r, hj, rfl, rfl, hr⟩ := hrel
        by_cases hjt : j < B.length
        · have hjI : (j : Int) < (B.length : Int) := by omega
          have hS := Lib.hid (all_succ (f := beforeOk E now) hjt)
          obtain ⟨g3, rfl, hg3, hg3'⟩ := o3.some_ (by omega)
          have cb := o3.nat hjt
          have hxT : B[j] < T := hbm.out _ (List.getElem_mem hjt)
          have hxE : B[j] < E.length := by rw [HE.out]; exact hxT
          have hxI : (B[j] : Int) < (E.length : Int) := by omega
          obtain ⟨b5, o5, he5, hbb5, d5⟩ := (h2.below hb).int hxE
          simp only [Option.some.injEq, Addr.mk.injEq, and_true] at he5
          obtain ⟨rfl, rfl⟩ := he5
          have hbo : Hid (beforeOk E now B[j] = (decide (0 ≤ E[B[j]]) && decide (E[B[j]] ≤ now))) := by unfold Hid beforeOk; rw [getD_at hxE]
          cases r
          · have S := Lib.hid (show false = (B.take (j + 1)).all (beforeOk E now) by rw [hS.out, ← hr.out]; rfl)
            clear hbo
            go_wp2
            exact ⟨⟨j + 1, false, by omega, by go_num, rfl, S⟩, by simp [intOf]; omega⟩
          by_cases u1 : (0 : Int) ≤ E[B[j]]
          case neg =>
            have S := Lib.hid (show false = (B.take (j + 1)).all (beforeOk E now) by rw [hS.out, hbo.out]; simp [u1])
            have ud : decide ((0 : Int) ≤ E[B[j]]) = false := by simpa using u1
            clear hbo u1
            go_wp2
            exact ⟨⟨j + 1, false, by omega, by go_num, rfl, S⟩, by simp [intOf]; omega⟩
          have ud : decide ((0 : Int) ≤ E[B[j]]) = true := by simpa using u1
          by_cases u2 : E[B[j]] ≤ now
          case neg =>
            have S := Lib.hid (show false = (B.take (j + 1)).all (beforeOk E now) by rw [hS.out, hbo.out]; simp [u2])
            have ue : decide (E[B[j]] ≤ now) = false := by simpa using u2
            clear hbo u2 u1
            go_wp2
            exact ⟨⟨j + 1, false, by omega, by go_num, rfl, S⟩, by simp [intOf]; omega⟩
          have S := Lib.hid (show true = (B.take (j + 1)).all (beforeOk E now) by rw [hS.out, hbo.out, ← hr.out]; simp [u1, u2])
          have ue : decide (E[B[j]] ≤ now) = true := by simpa using u2
          clear hbo u2 u1
          go_wp2
          exact ⟨⟨j + 1, true, by omega, by go_num, rfl, S⟩, by simp [intOf]; omega⟩
        · have hjI : ¬ (j : Int) < (B.length : Int) := by omega
          have hj' : j = B.length := by omega
          have hR := Lib.hid (show r = mayStart (esOf p) T E now k by rw [hmay2.out, hr.out, hj', List.take_length])
          clear hj'
          cases r
          · have S := S1.out hR.out.symm
            go_wp2
            exact ⟨⟨k + 1, by omega, by go_num, S, D, hb⟩, by simp [intOf]; omega⟩
          · have H := Lib.hid (nextT_first hlt hR.out.symm hno.out)
            go_wp2
            go_ret
            exact ⟨ret_int (by rw [H.out]; rfl), hb⟩
    · have hltI : ¬ (k : Int) < p.tasks := by rw [HT.out]; omega
      have H := Lib.hid (nextT_none (es := esOf p) (T := T) (ends := E) (now := now) fun s hs => hno.out s (by omega))
      go_wp2
      go_ret
      exact ⟨ret_int (by rw [H.out]; rfl), hb⟩

end Go.Proofs.Ytoccmpijfggmkaa
