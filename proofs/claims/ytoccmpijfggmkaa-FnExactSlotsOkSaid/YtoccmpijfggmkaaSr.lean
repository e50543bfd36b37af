/-
  SlotsOk of the reference.
-/
import Derived.Test.YtoccmpijfggmkaaSq
namespace Go.Proofs.Ytoccmpijfggmkaa
open Go.RowKit
set_option maxRecDepth 100000
set_option maxHeartbeats 2000000

theorem SlotAt.far {b : Nat} {x : Slot} {w w' : World} {row : Option Nat} (h : SlotAt b x w) (hg : w.grownBy w' row) (hne : some b ≠ row) : SlotAt b x w' := by
  obtain ⟨h0, h1, h2, h3, h4⟩ := h.cells
  exact ⟨(hg.cell_far ⟨b, 0, none⟩ h4 hne).trans h0, (hg.cell_far ⟨b, 1, none⟩ h4 hne).trans h1, (hg.cell_far ⟨b, 2, none⟩ h4 hne).trans h2, (hg.cell_far ⟨b, 3, none⟩ h4 hne).trans h3, Nat.lt_of_lt_of_le h4 hg.size⟩

theorem specSlotsOk_any (p : Plan) (ve v : Value) (l : List Int) (many : Int) (u : Value) (s : List Slot) (w : World) (hl : p.edges.length ≤ 2000000) (hl2 : l.length ≤ 2000000) (hl3 : s.length ≤ 2000000)
    (h : Rd edgeE w w.heap.size ve p.edges) (h2 : Rd intE w w.heap.size v l) (h3 : Rd slotE w w.heap.size u s) :
    Calls Try.prog 82 #[planV p ve, v, .int .i64 many, u] w fun e w' => e = .returned (.bool (slotsOk p l many s)) ∧ Below w.heap.size w w' := by
  obtain ⟨A, c, rfl, -⟩ := id h2
  obtain ⟨A3, cp3, rfl, -⟩ := id h3
  have hb0 := planBox_below 47 p ve w
  have D0 := BoxAt.new 47 p ve w
  cases hf : weightsOk p l
  · have H := Lib.hid (slotsOk_no (p := p) (l := l) (many := many) (s := s) (fun x => by have := x.1; rw [hf] at this; cases this))
    have HF := Lib.hid hf
    clear hf
    unfold planV
    go_enter Try.func82, Try.ntmps82
    go_wp2_with fail
    refine (specWeightsOk_any p ve (.slice A l.length c) l _ hl hl2 ((h.below hb0).more hb0.size) ((h2.below hb0).more hb0.size)).mono ?_
    rintro e w1 ⟨rfl, hb1⟩
    rw [HF.out]
    go_wp2
    go_ret
    exact ⟨ret_bool H.out.symm, bnext hb0 hb1⟩
  cases hm : inB many 1 8
  · have H := Lib.hid (slotsOk_no (p := p) (l := l) (many := many) (s := s) (fun x => by have := x.2.1; rw [hm] at this; cases this))
    have HF := Lib.hid hf
    clear hf
    unfold planV
    go_enter Try.func82, Try.ntmps82
    go_wp2_with fail
    refine (specWeightsOk_any p ve (.slice A l.length c) l _ hl hl2 ((h.below hb0).more hb0.size) ((h2.below hb0).more hb0.size)).mono ?_
    rintro e w1 ⟨rfl, hb1⟩
    rw [HF.out]
    have hb := bnext hb0 hb1
    go_wp2_with (go_at_call 113; refine (l01In_any _ _ _ _).mono ?_; rintro e w' ⟨rfl, rfl⟩)
    go_ret
    exact ⟨ret_bool H.out.symm, hb⟩
  by_cases hn : (s.length : Int) = p.tasks
  case neg =>
    have H := Lib.hid (slotsOk_no (p := p) (l := l) (many := many) (s := s) (fun x => hn x.2.2.1))
    have hnb : ((s.length : Int) != p.tasks) = true := by simpa using hn
    have HF := Lib.hid hf
    clear hf hn
    unfold planV
    go_enter Try.func82, Try.ntmps82
    go_wp2_with fail
    refine (specWeightsOk_any p ve (.slice A l.length c) l _ hl hl2 ((h.below hb0).more hb0.size) ((h2.below hb0).more hb0.size)).mono ?_
    rintro e w1 ⟨rfl, hb1⟩
    rw [HF.out]
    have hb := bnext hb0 hb1
    have D := D0.below hb1
    obtain ⟨x0, x1, x2, x3, x4, xs⟩ := D.cells
    go_wp2_with (go_at_call 113; refine (l01In_any _ _ _ _).mono ?_; rintro e w' ⟨rfl, rfl⟩)
    go_ret
    exact ⟨ret_bool H.out.symm, hb⟩
  obtain ⟨g1, g2, g3⟩ := weightsOk_all hf
  have G := Lib.hid (planFault_zero.1 g1)
  obtain ⟨t1, t2⟩ := manyOk_tasks G.out.1
  obtain ⟨T, hT⟩ := Int.eq_ofNat_of_zero_le (show 0 ≤ p.tasks by omega)
  have HT := Lib.hid hT
  have hT12 : T ≤ 12 := by omega
  have hlT : l.length = T := by omega
  have hsT : s.length = T := by omega
  have hnb : ((s.length : Int) != p.tasks) = false := by simpa using hn
  have HF := Lib.hid hf
  have HG3 := Lib.hid g3
  have HN := Lib.hid hn
  have HM := Lib.hid (inB_iff.1 hm)
  obtain ⟨m1, m2⟩ := inB_iff.1 hm
  have hP : SlotsFit p l many s ↔ slsOk p.tasks l many s s.length ∧ edOk p s p.edges.length := ⟨fun x => x.2.2.2, fun x => ⟨hf, hm, hn, x⟩⟩
  have HP := Lib.hid hP
  obtain ⟨j0, hj0, jz0, jz1, jz2⟩ := info_parts int_info
  have hmk : ∀ w : World, (Instr.makeSlice 50 (.int .i64 p.tasks) (.int .i64 p.tasks)).run Try.prog w = .ok (.slice (some ⟨w.heap.size, 0, none⟩) T T) (w.alloc (.cells (madeCells #[.int .i64 0] (T * 1)) 3)) := by
    intro w
    have := run_make (P := Try.prog) w 50 3 j0 _ Try.underlying50 hj0 jz0 .i64 .i64 T T (by omega) (by omega) (by rw [jz2]; omega) (by omega)
    rw [jz1] at this
    rw [hT]
    simpa [Value.cells] using this
  have HL := Lib.hid hlT
  have HS := Lib.hid hsT
  have hw63 : IntKind.i64.wrap (p.tasks - 1) = p.tasks - 1 := IntWalk.i64_in _ (by omega)
  have hm63 : IntKind.i64.wrap (many - 1) = many - 1 := IntWalk.i64_in _ (by omega)
  clear hf g1 g2 g3 hT hlT hsT hn hP
  unfold planV
  go_enter Try.func82, Try.ntmps82
  go_wp2_with fail
  refine (specWeightsOk_any p ve (.slice A l.length c) l _ hl hl2 ((h.below hb0).more hb0.size) ((h2.below hb0).more hb0.size)).mono ?_
  rintro e w1 ⟨rfl, hb1⟩
  rw [HF.out]
  have hb := bnext hb0 hb1
  have D := D0.below hb1
  have hw01 := D.lt
  clear hb0 hb1 D0
  obtain ⟨x0, x1, x2, x3, x4, xs⟩ := D.cells
  go_wp2_with (go_at_call 113; refine (l01In_any _ _ _ _).mono ?_; rintro e w' ⟨rfl, rfl⟩)
  have O0 := Ow.made intE 3 w1 0 T (by decide) (by simp [maxLen]; omega) (z := #[.int .i64 0]) rfl (m := T) (by simp [intE])
  rw [← atTab_nil] at O0
  have c1 : Below w1.heap.size w1 (w1.alloc (.cells (madeCells #[.int .i64 0] T) 3)) := (Below.refl _ _).alloc (Nat.le_refl _) _
  have D := D.below c1
  have hb := bnext hb c1
  clear x0 x1 x2 x3 x4 xs c1
  go_loopw [10] (fun i wr => ∃ k : Nat, k ≤ s.length ∧ i = .int .i64 k ∧ Hid (slsOk p.tasks l many s k) ∧
    Ow intE 3 wr w1.heap.size (.slice (some ⟨w1.heap.size, 0, none⟩) T T) (atTab T (s.take k)) ∧ BoxAt w.heap.size p ve wr ∧ Below w.heap.size w wr) (fun i _ => s.length - (intOf i).toNat)
  case atStart => exact ⟨0, Nat.zero_le _, rfl, slsOk_zero _ _ _ _, O0, D, hb⟩
  case round =>
    clear O0 D hb
    obtain ⟨k, hk, rfl, hok, O, D, hb⟩ := hrel
    by_cases hlt : k < s.length
    · obtain ⟨b3, o3, rfl, hbb3, c0, c1, c2, c3⟩ := (h3.below hb).slot hlt
      obtain ⟨x0, x1, x2, x3, x4, xs⟩ := D.cells
      go_wp2
      obtain ⟨wr0, rfl⟩ : ∃ wr0 : World, wr0 = wr := ⟨_, rfl⟩
      have hg0 := O.blk
      have ha : Below wr0.heap.size wr0 (wr0.alloc (.cells #[.int .i64 s[k].task, .int .i64 s[k].worker, .int .i64 s[k].fr, .int .i64 s[k].to] 62)) := (Below.refl _ _).alloc (Nat.le_refl _) _
      have S2 := SlotAt.new 62 s[k] wr0
      have O := O.below ha
      have D := D.below ha
      have hb := bnext hb ha
      have bad : slotOk1 p.tasks l many (s.take k) s[k] = false → Hid (slotsOk p l many s = false) := fun h => slsOk_bad hlt h
      have htab := Lib.hid (fun t => atTab_snoc (T := T) hlt (t := t))
      have hnx := Lib.hid (fun h => slsOk_next (T := p.tasks) (l := l) (many := many) hok.out hlt h)
      have hlr := ha.size
      generalize hsk : s[k] = x at *
      obtain ⟨xt, xw, xf, xo⟩ := x
      simp only at S2 htab ha c0 c1 c2 c3
      clear c0 c1 c2 c3 x0 x1 x2 x3 x4 xs
      obtain ⟨x0, x1, x2, x3, x4, xs⟩ := D.cells
      obtain ⟨y0, y1, y2, y3, ys⟩ := S2.cells
      simp only at y0 y1 y2 y3
      generalize wr0.alloc (.cells #[.int .i64 xt, .int .i64 xw, .int .i64 xf, .int .i64 xo] 62) = W2 at *
      cases g1 : inB xt 0 (p.tasks - 1)
      · have H := bad (by simp [slotOk1, g1])
        clear bad
        have hlc := later_cell W2
        refine wp_region_pure (by kernel_rfl) (by kernel_rfl) ?_
        repeat (go_big_quiet_step ((go_at_call 113; exact pure_same (fun u => l01In_any _ _ _ u.1))))
        refine wpQuiet_nil ?_
        rintro _ ⟨⟨w4, hb4⟩, rfl⟩
        clear hlc
        go_wp2
        go_ret
        exact ⟨ret_bool H.out.symm, bnext hb hb4⟩
      obtain ⟨q1, q2⟩ := inB_iff.1 g1
      obtain ⟨t, rfl⟩ := Int.eq_ofNat_of_zero_le q1
      have ht : t < T := by have := HT.out; omega
      have htl : t < l.length := by rw [HL.out]; exact ht
      obtain ⟨b2, o2, rfl, hbb2, d0⟩ := (h2.below hb).int htl
      have htlI : (t : Int) < (l.length : Int) := by omega
      have hbb2' : b2 < W2.heap.size := Nat.lt_of_lt_of_le hbb2 hb.size
      obtain ⟨w1', w2'⟩ := HG3.out l[t] (List.getElem_mem _)
      have hgd : l.getD t 0 = l[t] := getD_at htl 0
      have htk : ∀ y ∈ s.take k, 0 ≤ y.task ∧ y.task.toNat < T := fun y hy => by
        obtain ⟨j, hj, rfl⟩ := List.mem_take_iff_getElem.1 hy
        have h1 := (slotOk1_parts (hok.out j (by omega) (by omega))).1
        have h2 := HT.out
        omega
      have hHid := Lib.hid htk
      clear htk
      have hal : (atTab T (s.take k)).length = T := atTab_len _ _
      have hfz := O.free
      have hgb := O.blk
      have z0 := O.int (k := t) (by rw [hal]; exact ht)
      rw [atTab_get] at z0
      generalize l[t] = lt at *
      have Hgd := Lib.hid hgd
      clear hgd
      have htT : (t : Int) < (T : Int) := by omega
      by_cases g2 : atOf (s.take k) (t : Int) = 0
      case neg =>
        have hbt : (atOf (s.take k) (t : Int) != 0) = true := by simpa using g2
        have G2 := Lib.hid g2
        clear g2
        have H := bad (by
          have h1 := G2.out
          cases hq : slotOk1 p.tasks l many (s.take k) ⟨(t : Int), xw, xf, xo⟩
          · rfl
          · exact absurd (atOf_zero.2 (slotOk1_parts hq).2.1) h1)
        clear bad
        have hlc := later_cell W2
        refine wp_region_pure (by kernel_rfl) (by kernel_rfl) ?_
        repeat (go_big_quiet_step ((go_at_call 113; exact pure_same (fun u => l01In_any _ _ _ u.1))))
        refine wpQuiet_nil ?_
        rintro _ ⟨⟨w4, hb4⟩, rfl⟩
        clear hlc
        go_wp2
        go_ret
        exact ⟨ret_bool H.out.symm, bnext hb hb4⟩
      have hbt : (atOf (s.take k) (t : Int) != 0) = false := by simpa using g2
      have Hmet := Lib.hid (atOf_zero.1 g2)
      clear g2
      cases g3 : inB xf 0 1000000000
      · have H := bad (by simp [slotOk1, g3])
        clear bad
        have hlc := later_cell W2
        refine wp_region_pure (by kernel_rfl) (by kernel_rfl) ?_
        repeat (go_big_quiet_step ((go_at_call 113; exact pure_same (fun u => l01In_any _ _ _ u.1))))
        refine wpQuiet_nil ?_
        rintro _ ⟨⟨w4, hb4⟩, rfl⟩
        clear hlc
        go_wp2
        go_ret
        exact ⟨ret_bool H.out.symm, bnext hb hb4⟩
      obtain ⟨r1, r2⟩ := inB_iff.1 g3
      have hsum : IntKind.i64.wrap (xf + lt) = xf + lt := IntWalk.i64_in _ (by omega)
      cases g4 : (xo != xf + lt)
      case true =>
        have G4 := Lib.hid g4
        have H := bad (by simp only [slotOk1, Int.toNat_natCast]; rw [Hgd.out]; have := G4.out; simp at this; simp [this])
        clear bad
        have hlc := later_cell W2
        refine wp_region_pure (by kernel_rfl) (by kernel_rfl) ?_
        repeat (go_big_quiet_step ((go_at_call 113; exact pure_same (fun u => l01In_any _ _ _ u.1))))
        refine wpQuiet_nil ?_
        rintro _ ⟨⟨w4, hb4⟩, rfl⟩
        clear hlc
        go_wp2
        go_ret
        exact ⟨ret_bool H.out.symm, bnext hb hb4⟩
      cases g5 : inB xw 0 (many - 1)
      · have H := bad (by simp [slotOk1, g5])
        clear bad
        have hlc := later_cell W2
        refine wp_region_pure (by kernel_rfl) (by kernel_rfl) ?_
        repeat (go_big_quiet_step ((go_at_call 113; exact pure_same (fun u => l01In_any _ _ _ u.1))))
        refine wpQuiet_nil ?_
        rintro _ ⟨⟨w4, hb4⟩, rfl⟩
        clear hlc
        go_wp2
        go_ret
        exact ⟨ret_bool H.out.symm, bnext hb hb4⟩
      have G4 := Lib.hid (show xo = xf + lt by simpa using g4)
      have G1 := Lib.hid g1
      have G3 := Lib.hid g3
      have G5 := Lib.hid g5
      have S2 := S2
      have hlc := later_cell W2
      refine wp_region_pure (by kernel_rfl) (by kernel_rfl) ?_
      repeat (go_big_quiet_step ((go_at_call 113; exact pure_same (fun u => l01In_any _ _ _ u.1))))
      refine wpQuiet_nil ?_
      rintro w4 ⟨⟨_, hb4⟩, rfl⟩
      clear hlc
      have hb := bnext hb hb4
      have D := D.below hb4
      have O := O.below hb4
      have S2 := S2.below hb4
      have SZ := S2
      clear g1 g3 g4 g5 hsum hbt d0 x0 x1 x2 x3 x4 xs y0 y1 y2 y3 ys z0 hfz
      have hfz := O.free
      have z0 := O.int (k := t) (by rw [hal]; exact ht)
      have Htb := Lib.hid (htab.out t rfl Hmet.out)
      have hp := Ow.put O hal t ht ((k : Int) + 1)
      have S2 : SlotAt wr0.heap.size ⟨(t : Int), xw, xf, xo⟩ (wSeq w4 w1.heap.size (t * 1) (intE.cells ((k : Int) + 1))) := S2.far hp.2 (by simp; omega)
      have D : BoxAt w.heap.size p ve (wSeq w4 w1.heap.size (t * 1) (intE.cells ((k : Int) + 1))) := D.far hp.2 (by simp; omega)
      have hb := hb.grown hp.2 hb.size (fun g hg => by simp at hg; omega)
      have O := hp.1
      clear hp
      have ew : wSeq w4 w1.heap.size (t * 1) (intE.cells ((k : Int) + 1)) = w4.setCell ⟨w1.heap.size, t, none⟩ (.int .i64 ((k : Int) + 1)) := by simp [wSeq, intE]
      change Ow intE 3 (wSeq w4 w1.heap.size (t * 1) (intE.cells ((k : Int) + 1))) _ _ _ at O
      change Below _ _ (wSeq w4 w1.heap.size (t * 1) (intE.cells ((k : Int) + 1))) at hb
      rw [ew] at S2 D O hb
      clear ew
      have y := hb4.size
      have hsI : (t : Int) < (T : Int) := by omega
      have Bad := Lib.hid bad
      clear bad
      obtain ⟨y0, y1, y2, y3, ys⟩ := SZ.cells
      simp only at y0 y1 y2 y3
      have HS2 := Lib.hid S2
      have HD := Lib.hid D
      have HO := Lib.hid O
      have HB := Lib.hid hb
      clear S2 D O hb
      go_wp2
      have S2 := HS2.out
      have D := HD.out
      have O := HO.out
      have hb := HB.out
      rw [← Htb.out] at O
      clear HS2 HD HO HB y0 y1 y2 y3 ys z0 hfz
      go_loopw [12] (fun i wr => ∃ j : Nat, j ≤ k ∧ i = .int .i64 j ∧ Hid (∀ n (hn : n < s.length), n < j → clash ⟨(t : Int), xw, xf, xo⟩ s[n] = false) ∧ SlotAt wr0.heap.size ⟨(t : Int), xw, xf, xo⟩ wr ∧
        Ow intE 3 wr w1.heap.size (.slice (some ⟨w1.heap.size, 0, none⟩) T T) (atTab T (s.take (k + 1))) ∧ BoxAt w.heap.size p ve wr ∧ Below w.heap.size w wr) (fun i _ => k - (intOf i).toNat)
      case atStart => exact ⟨0, Nat.zero_le _, rfl, fun n _ hn => absurd hn (by omega), S2, O, D, hb⟩
      case round =>
        clear S2 O D hb hb4 ha
        obtain ⟨j, hj, rfl, hcl, S2, O, D, hb⟩ := hrel
        obtain ⟨y0, y1, y2, y3, ys⟩ := S2.cells
        simp only at y0 y1 y2 y3
        by_cases hjk : j < k
        · have hjs : j < s.length := by omega
          obtain ⟨b5, o5, he5, hbb5, e0, e1, e2, e3⟩ := (h3.below hb).slot hjs
          simp only [Option.some.injEq, Addr.mk.injEq, and_true] at he5
          obtain ⟨rfl, rfl⟩ := he5
          have hjI : (j : Int) < (k : Int) := by omega
          have hjsI : (j : Int) < (s.length : Int) := by omega
          have ha5 : Below wr.heap.size wr (wr.alloc (.cells #[.int .i64 s[j].task, .int .i64 s[j].worker, .int .i64 s[j].fr, .int .i64 s[j].to] 62)) := (Below.refl _ _).alloc (Nat.le_refl _) _
          have S' : clash ⟨(t : Int), xw, xf, xo⟩ s[j] = false → Hid (∀ n (hn : n < s.length), n < j + 1 → clash ⟨(t : Int), xw, xf, xo⟩ s[n] = false) := by
            intro hh n hn hnj
            by_cases e : n = j
            · subst e; exact hh
            · exact hcl.out n hn (by omega)
          have D := Lib.hid D
          have O := Lib.hid O
          have HA5 := Lib.hid ha5
          have HB := Lib.hid hb
          have HS2 := Lib.hid S2
          clear ha5
          cases u1 : (s[j].worker == xw)
          · have S' := S' (by simp only [clash]; rw [BEq.comm, u1]; simp)
            go_wp2
            exact ⟨⟨j + 1, by omega, by go_num, S', HS2.out.below HA5.out, O.out.below HA5.out, D.out.below HA5.out, bnext HB.out HA5.out⟩, by simp [intOf]; omega⟩
          cases u2 : decide (s[j].fr < xo)
          · have S' := S' (by simp [clash, u2])
            go_wp2
            exact ⟨⟨j + 1, by omega, by go_num, S', HS2.out.below HA5.out, O.out.below HA5.out, D.out.below HA5.out, bnext HB.out HA5.out⟩, by simp [intOf]; omega⟩
          cases u3 : decide (xf < s[j].to)
          · have S' := S' (by simp [clash, u3])
            go_wp2
            exact ⟨⟨j + 1, by omega, by go_num, S', HS2.out.below HA5.out, O.out.below HA5.out, D.out.below HA5.out, bnext HB.out HA5.out⟩, by simp [intOf]; omega⟩
          have H := Bad.out (by
            cases hq : slotOk1 p.tasks l many (s.take k) ⟨(t : Int), xw, xf, xo⟩
            · rfl
            · have := (slotOk1_parts hq).2.2.2.2.2 s[j] (List.mem_take_iff_getElem.2 ⟨j, by omega, rfl⟩)
              simp only [clash] at this; rw [BEq.comm, u1, u2, u3] at this; cases this)
          clear S'
          go_wp2
          go_ret
          exact ⟨ret_bool H.out.symm, bnext HB.out HA5.out⟩
        · have hjI : ¬ (j : Int) < (k : Int) := by omega
          have Hok := Lib.hid (hnx.out (slotOk1_mk (by simp only; have := inB_iff.1 G1.out; omega) Hmet.out (inB_iff.1 G3.out) (by simp only [Int.toNat_natCast]; rw [Hgd.out]; exact G4.out) (inB_iff.1 G5.out) (fun o ho => by
            obtain ⟨n, hn, rfl⟩ := List.mem_take_iff_getElem.1 ho
            exact hcl.out n (by omega) (by omega))))
          go_wp2
          exact ⟨⟨k + 1, by omega, by go_num, Hok.out, O, D, hb⟩, by simp [intOf]; omega⟩
    · have hk' : k = s.length := by omega
      have hltI : ¬ (k : Int) < (s.length : Int) := by omega
      rw [List.take_of_length_le (by omega)] at O
      have Hok := Lib.hid (show slsOk p.tasks l many s s.length from hk' ▸ hok.out)
      clear hok hk'
      obtain ⟨Ae, ce, hve, -⟩ := id h
      subst hve
      go_wp2
      go_loopw [14] (fun i wr => ∃ j : Nat, j ≤ p.edges.length ∧ i = .int .i64 j ∧ Hid (edOk p s j) ∧ Ow intE 3 wr w1.heap.size (.slice (some ⟨w1.heap.size, 0, none⟩) T T) (atTab T s) ∧ BoxAt w.heap.size p (.slice Ae p.edges.length ce) wr ∧ Below w.heap.size w wr) (fun i _ => p.edges.length - (intOf i).toNat)
      case atStart => exact ⟨0, Nat.zero_le _, rfl, fun n _ hn => absurd hn (by omega), O, D, hb⟩
      case round =>
        clear O D hb
        obtain ⟨j, hj, rfl, hed, O, D, hb⟩ := hrel
        obtain ⟨x0, x1, x2, x3, x4, xs⟩ := D.cells
        by_cases hjt : j < p.edges.length
        · obtain ⟨b4, o4, rfl, hbb4, e0, e1⟩ := (h.below hb).edge hjt
          obtain ⟨f1, f2, f3, f4⟩ := edgesIn_get G.out.2.1 hjt
          have ha5 : Below wr.heap.size wr (wr.alloc (.cells #[.int .i64 p.edges[j].fr, .int .i64 p.edges[j].to] 91)) := (Below.refl _ _).alloc (Nat.le_refl _) _
          have hnext : ¬ (taskSlot s p.edges[j].to).fr < (taskSlot s p.edges[j].fr).to → Hid (edOk p s (j + 1)) := by
            intro hh n hn hnj
            by_cases e : n = j
            · subst e; exact hh
            · exact hed.out n hn (by omega)
          have hbad : (taskSlot s p.edges[j].to).fr < (taskSlot s p.edges[j].fr).to → Hid (slotsOk p l many s = false) := fun hh => slotsOk_no fun x => (HP.out.1 x).2 j hjt hjt hh
          obtain ⟨i1, hi1, ea1, es1⟩ := atOf_pos (all_met (T := p.tasks) Hok.out HN.out p.edges[j].fr f1 f2)
          obtain ⟨i2, hi2, ea2, es2⟩ := atOf_pos (all_met (T := p.tasks) Hok.out HN.out p.edges[j].to f3 f4)
          rw [HT.out] at f2 f4
          generalize p.edges[j].fr = fx at *
          generalize p.edges[j].to = tx at *
          obtain ⟨a, rfl⟩ := Int.eq_ofNat_of_zero_le f1
          obtain ⟨d, rfl⟩ := Int.eq_ofNat_of_zero_le f3
          have hjtI : (j : Int) < (p.edges.length : Int) := by omega
          have hlen : (atTab T s).length = T := atTab_len _ _
          have z0 := O.int (k := a) (by rw [hlen]; omega)
          have v0 := O.int (k := d) (by rw [hlen]; omega)
          have hblk := O.blk
          rw [atTab_get, ea1] at z0
          rw [atTab_get, ea2] at v0
          obtain ⟨b6, o6, rfl, hbb6, k0, k1, k2, k3⟩ := (h3.below hb).slot hi1
          obtain ⟨b7, o7, he7, hbb7, n0, n1, n2, n3⟩ := (h3.below hb).slot hi2
          simp only [Option.some.injEq, Addr.mk.injEq, and_true] at he7
          obtain ⟨rfl, rfl⟩ := he7
          rw [es1] at k3
          rw [es2] at n2
          have hi1I : (i1 : Int) < (s.length : Int) := by omega
          have hi2I : (i2 : Int) < (s.length : Int) := by omega
          have hbb6' : b6 < wr.heap.size := Nat.lt_of_lt_of_le hbb6 hb.size
          have hbb4' : b4 < wr.heap.size := Nat.lt_of_lt_of_le hbb4 hb.size
          have HE1 := Lib.hid ea1
          have HE2 := Lib.hid ea2
          clear k0 k1 k2 n0 n1 n3 ea1 ea2 es1 es2
          have HO := Lib.hid O
          have HB := Lib.hid hb
          have HA5 := Lib.hid ha5
          have HD := Lib.hid D
          clear O hb ha5 D
          generalize (taskSlot s (d : Int)).fr = fd at *
          generalize (taskSlot s (a : Int)).to = ta at *
          have q1 : IntKind.i64.wrap ((i1 : Int) + 1 - 1) = (i1 : Int) := by rw [Int.add_sub_cancel]; exact IntWalk.i64_in _ (by omega)
          have q2 : IntKind.i64.wrap ((i2 : Int) + 1 - 1) = (i2 : Int) := by rw [Int.add_sub_cancel]; exact IntWalk.i64_in _ (by omega)
          by_cases hlt2 : fd < ta
          · have H := hbad hlt2
            clear hbad hnext
            go_wp2
            go_quiet (fail)
            go_wp2
            go_ret
            exact ⟨ret_bool H.out.symm, bdrewN (bnext HB.out HA5.out) _⟩
          · have H := hnext hlt2
            clear hbad hnext
            go_wp2
            go_quiet (fail)
            go_wp2
            exact ⟨⟨j + 1, by omega, by go_num, H, (HO.out.below HA5.out).below (bdrewN (Below.refl _ _) _), (HD.out.below HA5.out).below (bdrewN (Below.refl _ _) _), bdrewN (bnext HB.out HA5.out) _⟩, by simp [intOf]; omega⟩
        · have hjtI : ¬ (j : Int) < (p.edges.length : Int) := by omega
          have hje : j = p.edges.length := by omega
          have H := Lib.hid (slotsOk_iff.2 (HP.out.2 ⟨Hok.out, hje ▸ hed.out⟩))
          clear hje
          go_wp2
          go_ret
          exact ⟨ret_bool H.out.symm, hb⟩
end Go.Proofs.Ytoccmpijfggmkaa
