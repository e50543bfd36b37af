/-
  EarliestOf of the reference.
-/
import Derived.Test.YtoccmpijfggmkaaEl
import Derived.Test.YtoccmpijfggmkaaOs
namespace Go.Proofs.Ytoccmpijfggmkaa
open Go.RowKit
set_option maxRecDepth 100000
set_option maxHeartbeats 3000000

theorem specEarliest_any (p : Plan) (ve v : Value) (l : List Int) (w : World) (hl : p.edges.length ≤ 2000000) (hl2 : l.length ≤ 2000000) (h : Rd edgeE w w.heap.size ve p.edges) (h2 : Rd intE w w.heap.size v l) :
    Calls Try.prog 93 #[planV p ve, v] w fun e w' => ∃ u, e = .returned u ∧ Ow intE 3 w' w.heap.size u (earliestOf p l) ∧ Below w.heap.size w w' := by
  obtain ⟨A, c, rfl, -⟩ := id h2
  have hb0 := planBox_below 47 p ve w
  have D0 := BoxAt.new 47 p ve w
  cases hf : weightsOk p l
  · have H := Lib.hid (show earliestOf p l = [] by simp [earliestOf, hf])
    have HF := Lib.hid hf
    clear hf
    unfold planV
    go_enter Try.func93, Try.ntmps93
    go_wp2_with fail
    refine (specWeightsOk_any p ve (.slice A l.length c) l _ hl hl2 ((h.below hb0).more hb0.size) ((h2.below hb0).more hb0.size)).mono ?_
    rintro e w1 ⟨rfl, hb1⟩
    rw [HF.out]
    have hb := bnext hb0 hb1
    go_wp2
    go_ret
    exact ⟨_, rfl, by rw [H.out]; exact (Ow.empty intE 3 w1 rfl).more hb.size, hb.alloc hb.size _⟩
  obtain ⟨g1, g2, g3⟩ := weightsOk_all hf
  have G := Lib.hid (planFault_zero.1 g1)
  have HF := Lib.hid hf
  have HP := Lib.hid g1
  have HW := Lib.hid g3
  obtain ⟨t1, t2⟩ := manyOk_tasks G.out.1
  obtain ⟨T, hT⟩ := Int.eq_ofNat_of_zero_le (show 0 ≤ p.tasks by omega)
  have HT := Lib.hid hT
  have HTn := Lib.hid (show p.tasks.toNat = T by omega)
  have hT12 : T ≤ 12 := by omega
  have HLl := Lib.hid (show l.length = T by omega)
  have H := Lib.hid (show earliestOf p l = earL (esOf p) T l (orderOf p) by unfold earliestOf; rw [if_pos hf, HTn.out])
  have hO := Lib.hid (orderOf_inv g1)
  obtain ⟨j0, hj0, jz0, jz1, jz2⟩ := info_parts int_info
  have hmk : ∀ w : World, (Instr.makeSlice 50 (.int .i64 p.tasks) (.int .i64 p.tasks)).run Try.prog w = .ok (.slice (some ⟨w.heap.size, 0, none⟩) T T) (w.alloc (.cells (madeCells #[.int .i64 0] (T * 1)) 3)) := by
    intro w
    have := run_make (P := Try.prog) w 50 3 j0 _ Try.underlying50 hj0 jz0 .i64 .i64 T T (by omega) (by omega) (by rw [jz2]; omega) (by omega)
    rw [jz1] at this
    rw [hT]
    simpa [Value.cells] using this
  clear hf g1 g2 g3 hT
  unfold planV
  go_enter Try.func93, Try.ntmps93
  go_wp2_with fail
  refine (specWeightsOk_any p ve (.slice A l.length c) l _ hl hl2 ((h.below hb0).more hb0.size) ((h2.below hb0).more hb0.size)).mono ?_
  rintro e w1 ⟨rfl, hb1⟩
  rw [HF.out]
  have D := D0.below hb1
  have hb := bnext hb0 hb1
  obtain ⟨x0, x1, x2, x3, x4, xs⟩ := D.cells
  go_wp2_with fail
  clear x0 x1 x2 x3 x4 hmk D0 hb0 hb1
  have O1 := Ow.made intE 3 w1 0 T (by decide) (by simp [maxLen]; omega) (z := #[.int .i64 0]) rfl (m := T) (by simp [intE])
  have ha := (Below.refl w1.heap.size w1).alloc (Nat.le_refl _) (.cells (madeCells #[.int .i64 0] T) 3)
  have hsz1 : (w1.alloc (.cells (madeCells #[.int .i64 0] T) 3)).heap.size = w1.heap.size + 1 := by simp
  have Hsz1 := Lib.hid hsz1
  have D := D.below ha
  have hb := bnext hb ha
  clear ha hsz1
  refine (specOrder_any p ve _ hl ((h.below hb).more hb.size)).mono ?_
  rintro e w2 ⟨v2, rfl, o2, hb2⟩
  have o2 := o2.more (base' := w1.heap.size + 1) (by rw [Hsz1.out]; omega)
  have O := O1.below hb2
  have D := D.below hb2
  have hb := bnext hb hb2
  have hX := xs
  clear O1 xs hb2
  have hlen : (orderOf p).length = T := by rw [hO.out.len, HTn.out]
  have hlt0 : Hid (∀ x ∈ orderOf p, x < T) := fun x hx => by have := hO.out.lt x hx; rw [HTn.out] at this; exact this
  generalize orderOf p = ord at *
  obtain ⟨A2, c2, rfl, -⟩ := id (Rd.of_own o2)
  rw [hlen] at o2 ⊢
  have HO2 := Lib.hid hlen
  clear hlen
  go_wp2
  go_loopw [7] (fun i wr => ∃ k : Nat, k ≤ T ∧ i = .int .i64 k ∧ Hid (Bd (earL (esOf p) T l (ord.take k)) (12 * k)) ∧ Ow intE 3 wr w1.heap.size (.slice (some ⟨w1.heap.size, 0, none⟩) T T) (earL (esOf p) T l (ord.take k)) ∧ Ow natE 3 wr (w1.heap.size + 1) (.slice A2 T c2) ord ∧ BoxAt w.heap.size p ve wr ∧ Below w.heap.size w wr) (fun i _ => T - (intOf i).toNat)
  case atStart => exact ⟨0, Nat.zero_le _, rfl, fun x hx => by have := List.eq_of_mem_replicate hx; subst this; omega, O, o2, D, hb⟩
  case round =>
    clear O o2 D hb
    obtain ⟨k, hk, rfl, hbd, ho, o2, D, hb⟩ := hrel
    by_cases hlt : k < T
    · have hltI : (k : Int) < (T : Int) := by omega
      have hko : k < ord.length := by rw [HO2.out]; exact hlt
      have S0 := Lib.hid (show earL (esOf p) T l (ord.take (k + 1)) = (beforeL (esOf p) T ord[k]).foldl (earStep l ord[k]) (earL (esOf p) T l (ord.take k)) from earTake_step hko)
      have hEl := earL_len (esOf p) T l (ord.take k)
      have htT : ord[k] < T := hlt0.out _ (List.getElem_mem hko)
      obtain ⟨g2, rfl, hg2, hg2'⟩ := o2.some_ (by omega)
      have ct := o2.nat hko
      generalize hE : earL (esOf p) T l (ord.take k) = E at *
      have HE := Lib.hid hE
      clear hE
      generalize hkt : ord[k] = t at *
      have Hkt := Lib.hid hkt
      clear hkt
      obtain ⟨x0, x1, x2, x3, x4, xs⟩ := D.cells
      have hblk := ho.blk.2
      go_wp2
      go_still_tail 5, (by kernel_rfl)
      clear x0 x1 x2 x3 x4 xs ct
      change wpList _ _ _ _ _ wr.drew
      have hdr0 : Below wr.heap.size wr wr.drew := (Below.refl _ _).drew
      have ho := ho.below hdr0
      have o2 := o2.below hdr0
      have D := D.below hdr0
      have hb := bnext hb hdr0
      have hblk := ho.blk.2
      clear hdr0
      generalize wr.drew = wr at *
      go_wp2_with fail
      refine (specBefore_any p ve t _ G.out.1 G.out.2.1 G.out.2.2.1 ((h.below hb).more hb.size)).mono ?_
      rintro e w3 ⟨v3, rfl, o3, b3⟩
      rw [HTn.out] at o3
      have o3 := o3.more (base' := w1.heap.size + 1) (by omega)
      have ho := ho.below b3
      have o2 := o2.below b3
      have D := D.below b3
      have hb := bnext hb b3
      have hbl := beforeL_len (esOf p) T t
      have hbm : Hid (∀ x ∈ beforeL (esOf p) T t, x < T) := fun x hx => by simp [beforeL] at hx; exact hx.1
      generalize beforeL (esOf p) T t = B at *
      obtain ⟨A3, c3, rfl, -⟩ := id (Rd.of_own o3)
      clear b3 hblk
      go_wp2
      go_loopw [9] (fun i wr => ∃ j : Nat, j ≤ B.length ∧ i = .int .i64 j ∧ Hid (Bd ((B.take j).foldl (earStep l t) E) (12 * k + j)) ∧ Ow intE 3 wr w1.heap.size (.slice (some ⟨w1.heap.size, 0, none⟩) T T) ((B.take j).foldl (earStep l t) E) ∧ Ow natE 3 wr (w1.heap.size + 1) (.slice (some ⟨g2, 0, none⟩) T c2) ord ∧ Ow natE 3 wr (w1.heap.size + 1) (.slice A3 B.length c3) B ∧ BoxAt w.heap.size p ve wr ∧ Below w.heap.size w wr) (fun i _ => B.length - (intOf i).toNat)
      case atStart => exact ⟨0, Nat.zero_le _, rfl, hbd, ho, o2, o3, D, hb⟩
      case round =>
        clear ho o2 o3 D hb
        obtain ⟨j, hj, rfl, hbj, ho, o2, o3, D, hb⟩ := hrel
        by_cases hjt : j < B.length
        · have hjI : (j : Int) < (B.length : Int) := by omega
          have S := Lib.hid (earTake_step (f := earStep l t) (o := E) hjt)
          have hOl := earFold_len l t (B.take j) E
          rw [hEl] at hOl
          generalize (B.take j).foldl (earStep l t) E = O at *
          have hbT : B[j] < T := hbm.out _ (List.getElem_mem hjt)
          obtain ⟨g3, rfl, hg3, hg3'⟩ := o3.some_ (by omega)
          have cb := o3.nat hjt
          generalize hjb : B[j] = b at *
          have Hjb := Lib.hid hjb
          clear hjb
          have htI : (t : Int) < (T : Int) := by omega
          have hbI : (b : Int) < (T : Int) := by omega
          have hlb : b < l.length := by rw [HLl.out]; exact hbT
          have hlbI : (b : Int) < (l.length : Int) := by omega
          have htO : t < O.length := by omega
          have hbO : b < O.length := by omega
          have cO := ho.int htO
          have cO2 := ho.int hbO
          have hf := ho.free
          obtain ⟨bw, ow, rfl, hbw, cw⟩ := (h2.below hb).int hlb
          have Hcw : Hid (∀ W', Below w.heap.size w W' → W'.cell? ⟨bw, ow + b, none⟩ = some (.int .i64 l[b])) := fun W' hW' => by
            obtain ⟨b', o', ee, _, d0⟩ := (h2.below hW').int hlb
            simp only [Option.some.injEq, Addr.mk.injEq] at ee
            obtain ⟨rfl, rfl, -⟩ := ee
            exact d0
          have hS := Lib.hid (earStep_eq (l := l) htO hbO hlb)
          have hw1 := hbj.out _ (List.getElem_mem htO)
          have hw2 := hbj.out _ (List.getElem_mem hbO)
          have hw3 := HW.out _ (List.getElem_mem hlb)
          have hbd2 := Lib.hid (hbj.out.step HW.out t b)
          have hput := Lib.hid (Ow.put ho hOl t htT (max O[t] (O[b] + l[b])))
          have hwr : IntKind.i64.wrap (O[b] + l[b]) = O[b] + l[b] := IntWalk.i64_in _ (by omega)
          clear hw1 hw2 hw3
          have ct := o2.nat hko
          rw [Hkt.out] at ct
          have hdr : ∀ w : World, Below w.heap.size w w.drew := fun w => (Below.refl _ _).drew
          have Hdr := Lib.hid hdr
          clear hdr
          by_cases hgt : O[t] < O[b] + l[b]
          · have hmax := Lib.hid (show max O[t] (O[b] + l[b]) = O[b] + l[b] by omega)
            go_wp2
            go_quiet (fail)
            clear ct cb cO cO2 cw hf
            have hdn : Below wr.heap.size wr (wr.drewN nq) := bdrewN (Below.refl _ _) _
            have ho := ho.below hdn
            have o2 := o2.below hdn
            have o3 := o3.below hdn
            have D := D.below hdn
            have hb := bnext hb hdn
            clear hput
            have hput := Lib.hid (Ow.put ho hOl t htT (O[b] + l[b]))
            have ct := o2.nat hko
            rw [Hkt.out] at ct
            have cb := o3.nat hjt
            rw [Hjb.out] at cb
            have cO := ho.int htO
            have cO2 := ho.int hbO
            have hf := ho.free
            have cw := Hcw.out _ hb
            clear hdn
            generalize wr.drewN nq = wr at *
            go_wp2
            go_still_tail 21, (by kernel_rfl)
            change wpList _ _ _ _ _ wr.drew
            go_wp2
            refine ⟨⟨j + 1, by omega, by go_num, by rw [S.out]; exact hbd2.out, ?_, (o2.setOther (by simp [Value.ownBlock]; omega) _).below (Hdr.out _), (o3.setOther (by simp [Value.ownBlock]; omega) _).below (Hdr.out _), (D.other (by simp; omega) _).below (Hdr.out _), (hb.setCell (by simp; omega) _).drew⟩, by simp [intOf]; omega⟩
            rw [S.out, hS.out, hmax.out]
            have := hput.out.1
            simp only [intE, Nat.mul_one] at this
            exact this.below (Hdr.out _)
          · have hmax := Lib.hid (show max O[t] (O[b] + l[b]) = O[t] by omega)
            have hdec : decide (O[t] < O[b] + l[b]) = false := by simpa using hgt
            go_wp2
            go_quiet (fail)
            go_wp2
            have hdn : Below wr.heap.size wr (wr.drewN nq) := bdrewN (Below.refl _ _) _
            refine ⟨⟨j + 1, by omega, by go_num, by rw [S.out]; exact hbd2.out, ?_, o2.below hdn, o3.below hdn, D.below hdn, bnext hb hdn⟩, by simp [intOf]; omega⟩
            rw [S.out, hS.out, hmax.out, List.set_getElem_self]
            exact ho.below hdn
        · have hjI : ¬ (j : Int) < (B.length : Int) := by omega
          have hj' : j = B.length := by omega
          subst hj'
          rw [List.take_length] at ho hbj
          go_wp2
          exact ⟨⟨k + 1, by omega, by go_num, by rw [S0.out]; exact hbj.out.more (by omega), by rw [S0.out]; exact ho, o2, D, hb⟩, by simp [intOf]; omega⟩
    · have hltI : ¬ (k : Int) < (T : Int) := by omega
      have hk' : k = T := by omega
      have hbF := hb
      subst hk'
      rw [List.take_of_length_le (by rw [HO2.out]; exact Nat.le_refl _)] at ho
      go_wp2
      go_ret
      exact ⟨_, rfl, by rw [H.out]; exact ho.more (by omega), hbF⟩

theorem earliestOf_len (p : Plan) (l : List Int) : (earliestOf p l).length ≤ 12 := by
  unfold earliestOf
  split
  · rename_i hf
    have := manyOk_tasks (planFault_zero.1 (weightsOk_all hf).1).1
    rw [earL_len]
    omega
  · simp
end Go.Proofs.Ytoccmpijfggmkaa
