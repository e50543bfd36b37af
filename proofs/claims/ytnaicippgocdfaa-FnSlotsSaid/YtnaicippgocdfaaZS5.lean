/-
  SlotsOk of the program. SlackOf of both. TightOf of both. The earliest and the latest times of a plan: plain facts. A plan that is drawn is right; drawn weights; DrawWork, DrawPlans. Plain facts on plans turned round, reduced, laid beside and behind each other.
-/
import Derived.Test.YtnaicippgocdfaaZS4
section
namespace Go.Proofs.Ytnaicippgocdfaa
open Go.RowKit
set_option maxRecDepth 100000
set_option maxHeartbeats 2000000

/-- block b is the variable of the slot x -/
structure SlotAt (b : Nat) (x : Slot) (w : World) : Prop where
  cells : w.cell? ⟨b, 0, none⟩ = some (.int .i64 x.task) ∧ w.cell? ⟨b, 1, none⟩ = some (.int .i64 x.worker) ∧ w.cell? ⟨b, 2, none⟩ = some (.int .i64 x.fr) ∧ w.cell? ⟨b, 3, none⟩ = some (.int .i64 x.to) ∧ b < w.heap.size
theorem SlotAt.new (T : TypeId) (x : Slot) (w : World) : SlotAt w.heap.size x (w.alloc (.cells #[.int .i64 x.task, .int .i64 x.worker, .int .i64 x.fr, .int .i64 x.to] T)) := by
  refine ⟨?_, ?_, ?_, ?_, by simp⟩
  all_goals simp [go_sem]
theorem SlotAt.below {b : Nat} {x : Slot} {w w' : World} (h : SlotAt b x w) (hb : Below w.heap.size w w') : SlotAt b x w' := by
  obtain ⟨h0, h1, h2, h3, h4⟩ := h.cells
  exact ⟨(hb.cell (p := ⟨b, 0, none⟩) h4).trans h0, (hb.cell (p := ⟨b, 1, none⟩) h4).trans h1, (hb.cell (p := ⟨b, 2, none⟩) h4).trans h2, (hb.cell (p := ⟨b, 3, none⟩) h4).trans h3, Nat.lt_of_lt_of_le h4 hb.size⟩

theorem metN_snoc : ∀ (s : List Slot) (x : Slot), metN (s ++ [x]) = metN s ||| 1 <<< x.task.toNat
  | [], x => by simp [metN]
  | y :: s, x => by
    rw [List.cons_append, metN, metN, metN_snoc s x, Nat.or_assoc, Nat.or_assoc, Nat.or_comm (1 <<< x.task.toNat)]

theorem implSlotsOk_any (p : Plan) (ve v : Value) (l : List Int) (many : Int) (u : Value) (s : List Slot) (w : World) (hl : p.edges.length ≤ 2000000) (hl2 : l.length ≤ 2000000) (hl3 : s.length ≤ 2000000)
    (h : Rd edgeE w w.heap.size ve p.edges) (h2 : Rd intE w w.heap.size v l) (h3 : Rd slotE w w.heap.size u s) :
    Calls Try.prog 10 #[planV p ve, v, .int .i64 many, u] w fun e w' => e = .returned (.bool (slotsOk p l many s)) ∧ Below w.heap.size w w' := by
  obtain ⟨A, c, rfl, -⟩ := id h2
  obtain ⟨A3, cp3, rfl, -⟩ := id h3
  have hb0 := planBox_below 26 p ve w
  have D0 := BoxAt.new 26 p ve w
  cases hf : weightsOk p l
  · have H := Lib.hid (slotsOk_no (p := p) (l := l) (many := many) (s := s) (fun x => by have := x.1; rw [hf] at this; cases this))
    have HF := Lib.hid hf
    clear hf
    unfold planV
    go_enter Try.func10, Try.ntmps10
    go_wp2_with fail
    refine (implWeightsOk_any p ve (.slice A l.length c) l _ hl hl2 ((h.below hb0).more hb0.size) ((h2.below hb0).more hb0.size)).mono ?_
    rintro e w1 ⟨rfl, hb1⟩
    rw [HF.out]
    go_wp2
    go_ret
    exact ⟨ret_bool H.out.symm, bnext hb0 hb1⟩
  cases hm : inB many 1 8
  · have H := Lib.hid (slotsOk_no (p := p) (l := l) (many := many) (s := s) (fun x => by have := x.2.1; rw [hm] at this; cases this))
    have HF := Lib.hid hf
    clear hf
    unfold planV
    go_enter Try.func10, Try.ntmps10
    go_wp2_with fail
    refine (implWeightsOk_any p ve (.slice A l.length c) l _ hl hl2 ((h.below hb0).more hb0.size) ((h2.below hb0).more hb0.size)).mono ?_
    rintro e w1 ⟨rfl, hb1⟩
    rw [HF.out]
    have hb := bnext hb0 hb1
    go_wp2_with (go_at_call 49; refine (within_any _ _ _ _).mono ?_; rintro e w' ⟨rfl, rfl⟩)
    go_ret
    exact ⟨ret_bool H.out.symm, hb⟩
  by_cases hn : (s.length : Int) = p.tasks
  case neg =>
    have H := Lib.hid (slotsOk_no (p := p) (l := l) (many := many) (s := s) (fun x => hn x.2.2.1))
    have hnb : ((s.length : Int) != p.tasks) = true := by simpa using hn
    have HF := Lib.hid hf
    clear hf hn
    unfold planV
    go_enter Try.func10, Try.ntmps10
    go_wp2_with fail
    refine (implWeightsOk_any p ve (.slice A l.length c) l _ hl hl2 ((h.below hb0).more hb0.size) ((h2.below hb0).more hb0.size)).mono ?_
    rintro e w1 ⟨rfl, hb1⟩
    rw [HF.out]
    have hb := bnext hb0 hb1
    have D := D0.below hb1
    obtain ⟨x0, x1, x2, x3, x4, xs⟩ := D.cells
    go_wp2_with (go_at_call 49; refine (within_any _ _ _ _).mono ?_; rintro e w' ⟨rfl, rfl⟩)
    go_ret
    exact ⟨ret_bool H.out.symm, hb⟩
  obtain ⟨g1, g2, g3⟩ := weightsOk_all hf
  have G := Lib.hid (planFault_zero.1 g1)
  obtain ⟨t1, t2⟩ := manyOk_tasks G.out.1
  obtain ⟨T, hT⟩ := Int.eq_ofNat_of_zero_le (show 0 ≤ p.tasks by omega)
  have HT := Lib.hid hT
  have hT12 : T ≤ 12 := by omega
  have hlT : l.length = T := by omega
  have hsT : s.length = T := by omega
  have hnb : ((s.length : Int) != p.tasks) = false := by simpa using hn
  have HF := Lib.hid hf
  have HG3 := Lib.hid g3
  have HN := Lib.hid hn
  have HM := Lib.hid (inB_iff.1 hm)
  obtain ⟨m1, m2⟩ := inB_iff.1 hm
  have hP : SlotsFit p l many s ↔ slsOk p.tasks l many s s.length ∧ edOk p s p.edges.length := ⟨fun x => x.2.2.2, fun x => ⟨hf, hm, hn, x⟩⟩
  have HP := Lib.hid hP
  obtain ⟨j0, hj0, jz0, jz1, jz2⟩ := info_parts slot_info
  have hmk : ∀ w : World, (Instr.makeSlice 30 (.int .i64 p.tasks) (.int .i64 p.tasks)).run Try.prog w = .ok (.slice (some ⟨w.heap.size, 0, none⟩) T T) (w.alloc (.cells (madeCells #[.int .i64 0, .int .i64 0, .int .i64 0, .int .i64 0] (T * 4)) 34)) := by
    intro w
    have := run_make (P := Try.prog) w 30 34 j0 _ Try.underlying30 hj0 jz0 .i64 .i64 T T (by omega) (by omega) (by rw [jz2]; omega) (by omega)
    rw [jz1] at this
    rw [hT]
    simpa [slotV, Value.cells] using this
  have HL := Lib.hid hlT
  have HS := Lib.hid hsT
  have hw63 : IntKind.i64.wrap (p.tasks - 1) = p.tasks - 1 := IntWalk.i64_in _ (by omega)
  have hm63 : IntKind.i64.wrap (many - 1) = many - 1 := IntWalk.i64_in _ (by omega)
  clear hf g1 g2 g3 hT hlT hsT hn hP
  unfold planV
  go_enter Try.func10, Try.ntmps10
  go_wp2_with fail
  refine (implWeightsOk_any p ve (.slice A l.length c) l _ hl hl2 ((h.below hb0).more hb0.size) ((h2.below hb0).more hb0.size)).mono ?_
  rintro e w1 ⟨rfl, hb1⟩
  rw [HF.out]
  have hb := bnext hb0 hb1
  have D := D0.below hb1
  have hw01 := D.lt
  clear hb0 hb1 D0
  obtain ⟨x0, x1, x2, x3, x4, xs⟩ := D.cells
  go_wp2_with (go_at_call 49; refine (within_any _ _ _ _).mono ?_; rintro e w' ⟨rfl, rfl⟩)
  have O0 := Ow.made slotE 34 w1 ⟨0, 0, 0, 0⟩ T (by decide) (by simp [maxLen]; omega) (z := #[.int .i64 0, .int .i64 0, .int .i64 0, .int .i64 0]) rfl (m := T * 4) rfl
  rw [← slotTab_nil] at O0
  have c1 : Below w1.heap.size w1 (w1.alloc (.cells (madeCells #[.int .i64 0, .int .i64 0, .int .i64 0, .int .i64 0] (T * 4)) 34)) := (Below.refl _ _).alloc (Nat.le_refl _) _
  have D := D.below c1
  have hb := bnext hb c1
  clear x0 x1 x2 x3 x4 xs c1
  go_loopw [10, 38] (fun mt i wr => ∃ k : Nat, k ≤ s.length ∧ i = .int .i64 k ∧ mt = .int .i64 (metN (s.take k)) ∧ Hid (slsOk p.tasks l many s k) ∧
    Ow slotE 34 wr w1.heap.size (.slice (some ⟨w1.heap.size, 0, none⟩) T T) (slotTab T (s.take k)) ∧ BoxAt w.heap.size p ve wr ∧ Below w.heap.size w wr) (fun _ i _ => s.length - (intOf i).toNat)
  case atStart => exact ⟨0, Nat.zero_le _, rfl, rfl, slsOk_zero _ _ _ _, O0, D, hb⟩
  case round =>
    clear O0 D hb
    obtain ⟨k, hk, rfl, rfl, hok, O, D, hb⟩ := hrel
    by_cases hlt : k < s.length
    · obtain ⟨b3, o3, rfl, hbb3, c0, c1, c2, c3⟩ := (h3.below hb).slot hlt
      obtain ⟨x0, x1, x2, x3, x4, xs⟩ := D.cells
      go_wp2
      obtain ⟨wr0, rfl⟩ : ∃ wr0 : World, wr0 = wr := ⟨_, rfl⟩
      have ha : Below wr0.heap.size wr0 (wr0.alloc (.cells #[.int .i64 s[k].task, .int .i64 s[k].worker, .int .i64 s[k].fr, .int .i64 s[k].to] 34)) := (Below.refl _ _).alloc (Nat.le_refl _) _
      have S2 := SlotAt.new 34 s[k] wr0
      have O := O.below ha
      have D := D.below ha
      have hb := bnext hb ha
      have bad : slotOk1 p.tasks l many (s.take k) s[k] = false → Hid (slotsOk p l many s = false) := fun h => slsOk_bad hlt h
      have hmet := metN_bit (s.take k)
      have htab := Lib.hid (fun t => slotTab_snoc (T := T) hlt (t := t))
      have hmn := Lib.hid (show metN (s.take (k + 1)) = metN (s.take k) ||| 1 <<< s[k].task.toNat by rw [take_snoc s k hlt, metN_snoc])
      have hnx := Lib.hid (fun h => slsOk_next (T := p.tasks) (l := l) (many := many) hok.out hlt h)
      have hlr := ha.size
      generalize hsk : s[k] = x at *
      obtain ⟨xt, xw, xf, xo⟩ := x
      simp only at S2 hmn htab ha c0 c1 c2 c3
      clear c0 c1 c2 c3 x0 x1 x2 x3 x4 xs
      obtain ⟨x0, x1, x2, x3, x4, xs⟩ := D.cells
      obtain ⟨y0, y1, y2, y3, ys⟩ := S2.cells
      simp only at y0 y1 y2 y3
      generalize wr0.alloc (.cells #[.int .i64 xt, .int .i64 xw, .int .i64 xf, .int .i64 xo] 34) = W2 at *
      cases g1 : inB xt 0 (p.tasks - 1)
      · have H := bad (by simp [slotOk1, g1])
        clear bad
        have hlc := later_cell W2
        refine wp_region_pure (by kernel_rfl) (by kernel_rfl) ?_
        repeat (go_big_quiet_step ((go_at_call 49; exact pure_same (fun u => within_any _ _ _ u.1))))
        refine wpQuiet_nil ?_
        rintro _ ⟨⟨w4, hb4⟩, rfl⟩
        clear hlc
        go_wp2
        go_ret
        exact ⟨ret_bool H.out.symm, bnext hb hb4⟩
      obtain ⟨q1, q2⟩ := inB_iff.1 g1
      obtain ⟨t, rfl⟩ := Int.eq_ofNat_of_zero_le q1
      have ht : t < T := by have := HT.out; omega
      have htl : t < l.length := by rw [HL.out]; exact ht
      obtain ⟨b2, o2, rfl, hbb2, d0⟩ := (h2.below hb).int htl
      have htlI : (t : Int) < (l.length : Int) := by omega
      have hbb2' : b2 < W2.heap.size := Nat.lt_of_lt_of_le hbb2 hb.size
      obtain ⟨w1', w2'⟩ := HG3.out l[t] (List.getElem_mem _)
      have hgd : l.getD t 0 = l[t] := getD_at htl 0
      have htk : ∀ y ∈ s.take k, 0 ≤ y.task ∧ y.task.toNat < T := fun y hy => by
        obtain ⟨j, hj, rfl⟩ := List.mem_take_iff_getElem.1 hy
        have h1 := (slotOk1_parts (hok.out j (by omega) (by omega))).1
        have h2 := HT.out
        omega
      have hml : metN (s.take k) < 4096 := Nat.lt_of_lt_of_le (metN_lt _ T fun y hy => (htk y hy).2) (Nat.le_trans (Nat.pow_le_pow_right (by omega) hT12) (by decide))
      have hbt := bit_test (metN (s.take k)) t (by omega)
      have hmet := hmet t (fun y hy => (htk y hy).1)
      have hHid := Lib.hid htk
      clear htk
      generalize l[t] = lt at *
      have Hgd := Lib.hid hgd
      clear hgd
      have htT : (t : Int) < (T : Int) := by omega
      cases g2 : (metN (s.take k)).testBit t
      case true =>
        rw [g2] at hbt hmet
        have Hmet := Lib.hid hmet
        clear hmet g2
        have H := bad (by simp only [slotOk1]; rw [← Hmet.out]; simp)
        clear bad
        have hlc := later_cell W2
        refine wp_region_pure (by kernel_rfl) (by kernel_rfl) ?_
        repeat (go_big_quiet_step ((go_at_call 49; exact pure_same (fun u => within_any _ _ _ u.1))))
        refine wpQuiet_nil ?_
        rintro _ ⟨⟨w4, hb4⟩, rfl⟩
        clear hlc
        go_wp2
        go_ret
        exact ⟨ret_bool H.out.symm, bnext hb hb4⟩
      rw [g2] at hbt hmet
      have Hmet := Lib.hid hmet
      clear hmet g2
      cases g3 : inB xf 0 1000000000
      · have H := bad (by simp [slotOk1, g3])
        clear bad
        have hlc := later_cell W2
        refine wp_region_pure (by kernel_rfl) (by kernel_rfl) ?_
        repeat (go_big_quiet_step ((go_at_call 49; exact pure_same (fun u => within_any _ _ _ u.1))))
        refine wpQuiet_nil ?_
        rintro _ ⟨⟨w4, hb4⟩, rfl⟩
        clear hlc
        go_wp2
        go_ret
        exact ⟨ret_bool H.out.symm, bnext hb hb4⟩
      obtain ⟨r1, r2⟩ := inB_iff.1 g3
      have hsum : IntKind.i64.wrap (xf + lt) = xf + lt := IntWalk.i64_in _ (by omega)
      cases g4 : (xo != xf + lt)
      case true =>
        have G4 := Lib.hid g4
        have H := bad (by simp only [slotOk1, Int.toNat_natCast]; rw [Hgd.out]; have := G4.out; simp at this; simp [this])
        clear bad
        have hlc := later_cell W2
        refine wp_region_pure (by kernel_rfl) (by kernel_rfl) ?_
        repeat (go_big_quiet_step ((go_at_call 49; exact pure_same (fun u => within_any _ _ _ u.1))))
        refine wpQuiet_nil ?_
        rintro _ ⟨⟨w4, hb4⟩, rfl⟩
        clear hlc
        go_wp2
        go_ret
        exact ⟨ret_bool H.out.symm, bnext hb hb4⟩
      cases g5 : inB xw 0 (many - 1)
      · have H := bad (by simp [slotOk1, g5])
        clear bad
        have hlc := later_cell W2
        refine wp_region_pure (by kernel_rfl) (by kernel_rfl) ?_
        repeat (go_big_quiet_step ((go_at_call 49; exact pure_same (fun u => within_any _ _ _ u.1))))
        refine wpQuiet_nil ?_
        rintro _ ⟨⟨w4, hb4⟩, rfl⟩
        clear hlc
        go_wp2
        go_ret
        exact ⟨ret_bool H.out.symm, bnext hb hb4⟩
      have G4 := Lib.hid (show xo = xf + lt by simpa using g4)
      have G1 := Lib.hid g1
      have G3 := Lib.hid g3
      have G5 := Lib.hid g5
      have S2 := S2
      have hlc := later_cell W2
      refine wp_region_pure (by kernel_rfl) (by kernel_rfl) ?_
      repeat (go_big_quiet_step ((go_at_call 49; exact pure_same (fun u => within_any _ _ _ u.1))))
      refine wpQuiet_nil ?_
      rintro _ ⟨⟨w4, hb4⟩, rfl⟩
      clear hlc
      have hb := bnext hb hb4
      have D := D.below hb4
      have O := O.below hb4
      have S2 := S2.below hb4
      clear g1 g3 g4 g5 hsum hbt d0 x0 x1 x2 x3 x4 xs y0 y1 y2 y3 ys
      have hkc : (k : Int) ≤ (cp3 : Int) := by have := h3.cap; omega
      have hcp0 : ¬ cp3 = 0 := by have := h3.cap; omega
      have Bad := Lib.hid bad
      clear bad
      go_wp2
      go_loopw [89] (fun i wr => ∃ j : Nat, j ≤ k ∧ i = .int .i64 j ∧ Hid (∀ n (hn : n < s.length), n < j → clash ⟨(t : Int), xw, xf, xo⟩ s[n] = false) ∧ SlotAt wr0.heap.size ⟨(t : Int), xw, xf, xo⟩ wr ∧
        Ow slotE 34 wr w1.heap.size (.slice (some ⟨w1.heap.size, 0, none⟩) T T) (slotTab T (s.take k)) ∧ BoxAt w.heap.size p ve wr ∧ Below w.heap.size w wr) (fun i _ => k - (intOf i).toNat)
      case atStart => exact ⟨0, Nat.zero_le _, rfl, fun n _ hn => absurd hn (by omega), S2, O, D, hb⟩
      case round =>
        clear S2 O D hb hb4 ha
        obtain ⟨j, hj, rfl, hcl, S2, O, D, hb⟩ := hrel
        obtain ⟨y0, y1, y2, y3, ys⟩ := S2.cells
        simp only at y0 y1 y2 y3
        by_cases hjk : j < k
        · have hjs : j < s.length := by omega
          obtain ⟨b5, o5, he5, hbb5, e0, e1, e2, e3⟩ := (h3.below hb).slot hjs
          simp only [Option.some.injEq, Addr.mk.injEq, and_true] at he5
          obtain ⟨rfl, rfl⟩ := he5
          have hjI : (j : Int) < (k : Int) := by omega
          have hjsI : (j : Int) < (s.length : Int) := by omega
          have ha5 : Below wr.heap.size wr (wr.alloc (.cells #[.int .i64 s[j].task, .int .i64 s[j].worker, .int .i64 s[j].fr, .int .i64 s[j].to] 34)) := (Below.refl _ _).alloc (Nat.le_refl _) _
          have S' : clash ⟨(t : Int), xw, xf, xo⟩ s[j] = false → Hid (∀ n (hn : n < s.length), n < j + 1 → clash ⟨(t : Int), xw, xf, xo⟩ s[n] = false) := by
            intro hh n hn hnj
            by_cases e : n = j
            · subst e; exact hh
            · exact hcl.out n hn (by omega)
          have D := Lib.hid D
          have O := Lib.hid O
          have HA5 := Lib.hid ha5
          have HB := Lib.hid hb
          have HS2 := Lib.hid S2
          clear ha5
          cases u1 : (xw == s[j].worker)
          · have S' := S' (by simp [clash, u1])
            go_wp2
            exact ⟨⟨j + 1, by omega, by go_num, S', HS2.out.below HA5.out, O.out.below HA5.out, D.out.below HA5.out, bnext HB.out HA5.out⟩, by simp [intOf]; omega⟩
          cases u2 : decide (xf < s[j].to)
          · have S' := S' (by simp [clash, u2])
            go_wp2
            exact ⟨⟨j + 1, by omega, by go_num, S', HS2.out.below HA5.out, O.out.below HA5.out, D.out.below HA5.out, bnext HB.out HA5.out⟩, by simp [intOf]; omega⟩
          cases u3 : decide (s[j].fr < xo)
          · have S' := S' (by simp [clash, u3])
            go_wp2
            exact ⟨⟨j + 1, by omega, by go_num, S', HS2.out.below HA5.out, O.out.below HA5.out, D.out.below HA5.out, bnext HB.out HA5.out⟩, by simp [intOf]; omega⟩
          have H := Bad.out (by
            cases hq : slotOk1 p.tasks l many (s.take k) ⟨(t : Int), xw, xf, xo⟩
            · rfl
            · have := (slotOk1_parts hq).2.2.2.2.2 s[j] (List.mem_take_iff_getElem.2 ⟨j, by omega, rfl⟩)
              simp [clash, u1, u2, u3] at this)
          clear S'
          go_wp2
          go_ret
          exact ⟨ret_bool H.out.symm, bnext HB.out HA5.out⟩
        · have hjI : ¬ (j : Int) < (k : Int) := by omega
          have hsh := shl_one t (by omega)
          have h12 : 1 <<< t < 4096 := by rw [Nat.shiftLeft_eq, Nat.one_mul]; exact Nat.lt_of_lt_of_le (Nat.pow_lt_pow_right (by omega) ht) (Nat.le_trans (Nat.pow_le_pow_right (by omega) hT12) (by decide))
          have Hor := Lib.hid (or_i64 (metN (s.take k)) (1 <<< t) (by omega) (by omega))
          have hmn' := hmn.out
          simp only [Int.toNat_natCast] at hmn'
          have Hmn := Lib.hid hmn'
          clear hmn'
          have Hno : Hid (∀ y ∈ s.take k, y.task ≠ (t : Int)) := by
            have := Hmet.out
            intro y hy he
            have h1 := List.any_eq_false.1 this.symm y hy
            simp [he] at h1
          have Htb := Lib.hid (htab.out t rfl Hno.out)
          have Hok := Lib.hid (hnx.out (slotOk1_mk (by simp only; have := inB_iff.1 G1.out; omega) Hno.out (inB_iff.1 G3.out) (by simp only [Int.toNat_natCast]; rw [Hgd.out]; exact G4.out) (inB_iff.1 G5.out) (fun o ho => by
            obtain ⟨n, hn, rfl⟩ := List.mem_take_iff_getElem.1 ho
            exact hcl.out n (by omega) (by omega))))
          have hlen : (slotTab T (s.take k)).length = T := slotTab_len _ _
          have hfz := O.free
          obtain ⟨z0, z1, z2, z3⟩ := O.slot (k := t) (by rw [hlen]; exact ht)
          have hp := Ow.put O hlen t ht ⟨(t : Int), xw, xf, xo⟩
          have hp1 := Lib.hid hp.1
          have hp2 := Lib.hid hp.2
          clear hp
          have HD := Lib.hid D
          have HB := Lib.hid hb
          clear hcl D O
          have hsI : (t : Int) < (T : Int) := by omega
          go_wp2
          refine ⟨⟨k + 1, by omega, by go_num, ?_, Hok.out, ?_, HD.out.far hp2.out (by simp; omega), HB.out.grown hp2.out HB.out.size (fun g hg => by simp at hg; omega)⟩, by simp [intOf]; omega⟩
          · rw [Hmn.out, ← Hor.out]; simp
          · rw [Htb.out]; exact hp1.out
    · have hk' : k = s.length := by omega
      have hltI : ¬ (k : Int) < (s.length : Int) := by omega
      rw [List.take_of_length_le (by omega)] at O
      have Hok := Lib.hid (show slsOk p.tasks l many s s.length from hk' ▸ hok.out)
      clear hok hk'
      obtain ⟨Ae, ce, hve, -⟩ := id h
      subst hve
      obtain ⟨x0, x1, x2, x3, x4, xs⟩ := D.cells
      obtain ⟨wo, rfl⟩ : ∃ wo : World, wo = wr := ⟨_, rfl⟩
      go_wp2
      clear x0 x1 x2 x3 x4 xs
      go_loopw [127] (fun i wr => ∃ j : Nat, j ≤ p.edges.length ∧ i = .int .i64 j ∧ Hid (edOk p s j) ∧ Ow slotE 34 wr w1.heap.size (.slice (some ⟨w1.heap.size, 0, none⟩) T T) (slotTab T s) ∧ Below w.heap.size w wr) (fun i _ => p.edges.length - (intOf i).toNat)
      case atStart => exact ⟨0, Nat.zero_le _, rfl, fun n _ hn => absurd hn (by omega), O, hb⟩
      case round =>
        clear O D hb
        obtain ⟨j, hj, rfl, hed, O, hb⟩ := hrel
        by_cases hjt : j < p.edges.length
        · obtain ⟨b4, o4, rfl, hbb4, e0, e1⟩ := (h.below hb).edge hjt
          obtain ⟨f1, f2, f3, f4⟩ := edgesIn_get G.out.2.1 hjt
          rw [HT.out] at f2 f4
          have ha5 : Below wr.heap.size wr (wr.alloc (.cells #[.int .i64 p.edges[j].fr, .int .i64 p.edges[j].to] 52)) := (Below.refl _ _).alloc (Nat.le_refl _) _
          have hnext : ¬ (taskSlot s p.edges[j].to).fr < (taskSlot s p.edges[j].fr).to → Hid (edOk p s (j + 1)) := by
            intro hh n hn hnj
            by_cases e : n = j
            · subst e; exact hh
            · exact hed.out n hn (by omega)
          have hbad : (taskSlot s p.edges[j].to).fr < (taskSlot s p.edges[j].fr).to → Hid (slotsOk p l many s = false) := fun hh => slotsOk_no fun x => (HP.out.1 x).2 j hjt hjt hh
          generalize p.edges[j].fr = fx at *
          generalize p.edges[j].to = tx at *
          obtain ⟨a, rfl⟩ := Int.eq_ofNat_of_zero_le f1
          obtain ⟨d, rfl⟩ := Int.eq_ofNat_of_zero_le f3
          have hjtI : (j : Int) < (p.edges.length : Int) := by omega
          have hlen : (slotTab T s).length = T := slotTab_len _ _
          obtain ⟨z0, z1, z2, z3⟩ := O.slot (k := a) (by rw [hlen]; omega)
          obtain ⟨v0, v1, v2, v3⟩ := O.slot (k := d) (by rw [hlen]; omega)
          have hblk := O.blk
          rw [slotTab_get] at z0 z1 z2 z3 v0 v1 v2 v3
          clear z0 z1 z2 v0 v1 v3
          have HO := Lib.hid O
          have HB := Lib.hid hb
          have HA5 := Lib.hid ha5
          clear O hb ha5
          generalize (taskSlot s (d : Int)).fr = fd at *
          generalize (taskSlot s (a : Int)).to = ta at *
          by_cases hlt2 : fd < ta
          · have H := hbad hlt2
            clear hbad hnext
            go_wp2
            go_quiet (fail)
            go_wp2
            go_ret
            exact ⟨ret_bool H.out.symm, bdrewN (bnext HB.out HA5.out) _⟩
          · have H := hnext hlt2
            clear hbad hnext
            go_wp2
            go_quiet (fail)
            go_wp2
            exact ⟨⟨j + 1, by omega, by go_num, H, (HO.out.below HA5.out).below (bdrewN (Below.refl _ _) _), bdrewN (bnext HB.out HA5.out) _⟩, by simp [intOf]; omega⟩
        · have hjtI : ¬ (j : Int) < (p.edges.length : Int) := by omega
          have hje : j = p.edges.length := by omega
          have H := Lib.hid (slotsOk_iff.2 (HP.out.2 ⟨Hok.out, hje ▸ hed.out⟩))
          clear hje
          go_wp2
          go_ret
          exact ⟨ret_bool H.out.symm, hb⟩
end Go.Proofs.Ytnaicippgocdfaa
end
section
namespace Go.Proofs.Ytnaicippgocdfaa
open Go.RowKit
set_option maxRecDepth 100000
set_option maxHeartbeats 2000000

def slackL (E L : List Int) (k : Nat) : List Int := (List.range k).map fun j => L.getD j 0 - E.getD j 0
noncomputable def slackOf (p : Plan) (l : List Int) : List Int := slackL (earliestOf p l) (latestOf p l) (latestOf p l).length
theorem slackL_len (E L : List Int) (k : Nat) : (slackL E L k).length = k := by simp [slackL]
theorem slackL_succ {E L : List Int} {k : Nat} (hE : k < E.length) (hL : k < L.length) : slackL E L (k + 1) = slackL E L k ++ [L[k] - E[k]] := by
  unfold slackL
  rw [List.range_succ, List.map_append]
  simp [List.getD_eq_getElem?_getD, hE, hL]
theorem slackOf_len (p : Plan) (l : List Int) : (slackOf p l).length ≤ 12 := by
  unfold slackOf
  rw [slackL_len]
  exact latestOf_len p l
theorem both_len (p : Plan) (l : List Int) : (earliestOf p l).length = (latestOf p l).length := by
  unfold earliestOf latestOf
  split
  · rw [earL_len, latL_len]
  · rfl
/-- the slacks so far, the latest starts from there on -/
def slackMix (E L : List Int) (k : Nat) : List Int := slackL E L k ++ L.drop k
theorem slackMix_len (E L : List Int) {k : Nat} (h : k ≤ L.length) : (slackMix E L k).length = L.length := by
  unfold slackMix
  rw [List.length_append, slackL_len, List.length_drop]
  omega
theorem slackMix_get {E L : List Int} {k : Nat} (h : k < L.length) : (slackMix E L k)[k]? = some L[k] := by
  unfold slackMix
  rw [List.getElem?_append_right (by rw [slackL_len]; exact Nat.le_refl _), slackL_len, Nat.sub_self, List.getElem?_drop]
  simp
theorem slackMix_succ {E L : List Int} {k : Nat} (hE : k < E.length) (hL : k < L.length) : slackMix E L (k + 1) = (slackMix E L k).set k (L[k] - E[k]) := by
  unfold slackMix
  rw [slackL_succ hE hL, List.set_append_right _ _ (by rw [slackL_len]; exact Nat.le_refl _), slackL_len, Nat.sub_self, List.drop_eq_getElem_cons hL, List.set_cons_zero, List.append_assoc]
  rfl

theorem implSlack_any (p : Plan) (ve v : Value) (l : List Int) (w : World) (hl : p.edges.length ≤ 2000000) (hl2 : l.length ≤ 2000000) (h : Rd edgeE w w.heap.size ve p.edges) (h2 : Rd intE w w.heap.size v l) :
    Calls Try.prog 37 #[planV p ve, v] w fun e w' => ∃ u, e = .returned u ∧ Ow intE 3 w' w.heap.size u (slackOf p l) ∧ Below w.heap.size w w' := by
  have hb0 := planBox_below 26 p ve w
  have D0 := BoxAt.new 26 p ve w
  have H := Lib.hid (show slackOf p l = slackL (earliestOf p l) (latestOf p l) (latestOf p l).length from rfl)
  have hEb := Lib.hid (earliestOf_bd p l)
  have hLb := Lib.hid (latestOf_bd p l)
  have hLen := both_len p l
  have hL12 := latestOf_len p l
  obtain ⟨j0, hj0, jz0, jz1, jz2⟩ := info_parts int_info
  unfold planV
  go_enter Try.func37, Try.ntmps37
  go_wp2_with fail
  refine (implEarliest_any p ve v l _ hl hl2 ((h.below hb0).more hb0.size) ((h2.below hb0).more hb0.size)).mono ?_
  rintro e w1 ⟨u1, rfl, o1, hb1⟩
  have D := D0.below hb1
  have hb := bnext hb0 hb1
  clear hb0 hb1 D0
  obtain ⟨x0, x1, x2, x3, x4, xs⟩ := D.cells
  go_wp2_with fail
  clear x0 x1 x2 x3 x4 xs
  refine (implLatest_any p ve v l _ hl hl2 ((h.below hb).more hb.size) ((h2.below hb).more hb.size)).mono ?_
  rintro e w2 ⟨u2, rfl, o2, hb2⟩
  have o1 := o1.below hb2
  have hb := bnext hb hb2
  have hsz := hb.size
  clear hb2 D
  generalize earliestOf p l = E at *
  generalize latestOf p l = L at *
  obtain ⟨A1, c1, rfl, -⟩ := id (Rd.of_own o1)
  obtain ⟨A2, c2, rfl, -⟩ := id (Rd.of_own o2)
  have O0 := Ow.nil intE 3 w2 w2.heap.size
  go_wp2
  go_loopw [6, 16] (fun vl i wr => ∃ k : Nat, k ≤ L.length ∧ i = .int .i64 k ∧ Ow intE 3 wr w2.heap.size vl (slackL E L k) ∧ Below w2.heap.size w2 wr) (fun _ i _ => L.length - (intOf i).toNat)
  case atStart => exact ⟨0, Nat.zero_le _, rfl, O0, Below.refl _ _⟩
  case round =>
    clear O0
    obtain ⟨k, hk, rfl, ho, hb2⟩ := hrel
    have o1 := o1.below hb2
    have o2 := o2.below hb2
    have hsz2 := hb2.size
    by_cases hlt : k < L.length
    · have hltI : (k : Int) < (L.length : Int) := by omega
      have hkE : k < E.length := by omega
      have hkEI : (k : Int) < (E.length : Int) := by omega
      have hs := Lib.hid (slackL_succ hkE hlt)
      have hsl := slackL_len E L k
      have he := hEb.out _ (List.getElem_mem hkE)
      have hla := hLb.out _ (List.getElem_mem hlt)
      have hwr : IntKind.i64.wrap (L[k] - E[k]) = L[k] - E[k] := IntWalk.i64_in _ (by omega)
      obtain ⟨g1, rfl, _, _⟩ := o1.some_ (by omega)
      obtain ⟨g2, rfl, _, _⟩ := o2.some_ (by omega)
      have ce := o1.int hkE
      have cl := o2.int hlt
      clear he hla
      have ha : Hid (∀ w : World, Below w.heap.size w (w.alloc (.cells #[.int .i64 (L[k] - E[k])] 3))) := fun w => (Below.refl _ _).alloc (Nat.le_refl _) _
      go_wp2_with (at_builtin; refine wpList_push_all _ intE (by decide) rfl (.tmp 21) (.tmp 28) rfl Try.underlying27 hj0 jz0 jz1 jz2 rfl (l := slackL E L k) rfl (ho.below (ha.out _)) rfl (Rd.one intE _ _ (L[k] - E[k]) rfl rfl 1 (Nat.le_refl _) (Nat.lt_succ_self _)) (by rw [hsl]; omega) (by simp) (by decide) (by simp; omega) ?_; intro v5 w5 o5 g5 _)
      have hb' := bnext hb2 (ha.out _)
      have W5 := hb'.grown g5 hb'.size (fun g hg => by have := ho.within _ hg; omega)
      exact ⟨⟨k + 1, by omega, by go_num, by rw [hs.out]; exact o5, W5⟩, by simp [intOf]; omega⟩
    · have hltI : ¬ (k : Int) < (L.length : Int) := by omega
      have hk' : k = L.length := by omega
      have hbF := hb
      have hb2F := hb2
      subst hk'
      go_wp2
      go_ret
      exact ⟨_, rfl, by rw [H.out]; exact ho.more hsz, bnext hbF hb2F⟩

theorem specSlack_any (p : Plan) (ve v : Value) (l : List Int) (w : World) (hl : p.edges.length ≤ 2000000) (hl2 : l.length ≤ 2000000) (h : Rd edgeE w w.heap.size ve p.edges) (h2 : Rd intE w w.heap.size v l) :
    Calls Try.prog 41 #[planV p ve, v] w fun e w' => ∃ u, e = .returned u ∧ Ow intE 3 w' w.heap.size u (slackOf p l) ∧ Below w.heap.size w w' := by
  have hb0 := planBox_below 26 p ve w
  have D0 := BoxAt.new 26 p ve w
  have H := Lib.hid (show slackOf p l = slackL (earliestOf p l) (latestOf p l) (latestOf p l).length from rfl)
  have hEb := Lib.hid (earliestOf_bd p l)
  have hLb := Lib.hid (latestOf_bd p l)
  have hLen := both_len p l
  have hL12 := latestOf_len p l
  unfold planV
  go_enter Try.func41, Try.ntmps41
  go_wp2_with fail
  refine (specEarliest_any p ve v l _ hl hl2 ((h.below hb0).more hb0.size) ((h2.below hb0).more hb0.size)).mono ?_
  rintro e w1 ⟨u1, rfl, o1, hb1⟩
  have D := D0.below hb1
  have hb := bnext hb0 hb1
  clear hb0 hb1 D0
  obtain ⟨x0, x1, x2, x3, x4, xs⟩ := D.cells
  go_wp2_with fail
  clear x0 x1 x2 x3 x4 xs
  refine (specLatest_any p ve v l _ hl hl2 ((h.below hb).more hb.size) ((h2.below hb).more hb.size)).mono ?_
  rintro e w2 ⟨u2, rfl, o2, hb2⟩
  have q1 := o1.within
  have o1 := o1.below hb2
  have hsz := hb.size
  have hb := bnext hb hb2
  clear hb2 D
  generalize earliestOf p l = E at *
  generalize latestOf p l = L at *
  obtain ⟨A1, c1, rfl, -⟩ := id (Rd.of_own o1)
  obtain ⟨A2, c2, rfl, -⟩ := id (Rd.of_own o2)
  go_wp2
  go_loopw [7] (fun i wr => ∃ k : Nat, k ≤ L.length ∧ i = .int .i64 k ∧ Ow intE 3 wr w1.heap.size (.slice A2 L.length c2) (slackMix E L k) ∧ Ow intE 3 wr (w.heap.size + 1) (.slice A1 E.length c1) E ∧ Below w.heap.size w wr) (fun i _ => L.length - (intOf i).toNat)
  case atStart => exact ⟨0, Nat.zero_le _, rfl, o2, o1.more (by rw [planBox_size]; exact Nat.le_refl _), hb⟩
  case round =>
    clear o1 o2 hb
    obtain ⟨k, hk, rfl, o2, o1, hb⟩ := hrel
    by_cases hlt : k < L.length
    · have hltI : (k : Int) < (L.length : Int) := by omega
      have hkE : k < E.length := by omega
      have hkEI : (k : Int) < (E.length : Int) := by omega
      have hs := Lib.hid (slackMix_succ hkE hlt)
      have hsl := slackMix_len E L hk
      have hg := slackMix_get (E := E) hlt
      generalize slackMix E L k = M at *
      have he := hEb.out _ (List.getElem_mem hkE)
      have hla := hLb.out _ (List.getElem_mem hlt)
      have hkM : k < M.length := by omega
      have hMk : M[k] = L[k] := by rw [List.getElem?_eq_getElem hkM] at hg; exact Option.some.inj hg
      have hwr : IntKind.i64.wrap (L[k] - E[k]) = L[k] - E[k] := IntWalk.i64_in _ (by omega)
      obtain ⟨g1, rfl, _, _⟩ := o1.some_ (by omega)
      obtain ⟨g2, rfl, hg2, _⟩ := o2.some_ (by omega)
      have q2 := q1 g1 rfl
      have ce := o1.int hkE
      have cl := o2.int hkM
      rw [hMk] at cl
      have hput := Lib.hid (Ow.put o2 hsl k hlt (L[k] - E[k]))
      have hf := o2.free
      clear he hla hg hMk
      go_wp2
      go_still_tail 12, (by kernel_rfl)
      change wpList _ _ _ _ _ wr.drew
      go_wp2
      have hdr : ∀ w : World, Below w.heap.size w w.drew := fun w => (Below.refl _ _).drew
      refine ⟨⟨k + 1, by omega, by go_num, ?_, (o1.setOther (by simp [Value.ownBlock]; omega) _).below (hdr _), (hb.setCell (by simp; omega) _).drew⟩, by simp [intOf]; omega⟩
      rw [hs.out]
      have := hput.out.1
      simp only [intE, Nat.mul_one] at this
      exact this.below (hdr _)
    · have hltI : ¬ (k : Int) < (L.length : Int) := by omega
      have hk' : k = L.length := by omega
      have hbF := hb
      have H2 := Lib.hid (show slackMix E L L.length = slackL E L L.length by unfold slackMix; rw [List.drop_length, List.append_nil])
      subst hk'
      go_wp2
      go_ret
      exact ⟨_, rfl, by rw [H.out, ← H2.out]; exact o2.more hsz, hbF⟩
end Go.Proofs.Ytnaicippgocdfaa
end
section
namespace Go.Proofs.Ytnaicippgocdfaa
open Go.RowKit
set_option maxRecDepth 100000
set_option maxHeartbeats 2000000

def tightL (S : List Int) : Nat → List Int
  | 0 => []
  | k + 1 => tightL S k ++ if S.getD k 0 = 0 then [(k : Int)] else []
noncomputable def tightOf (p : Plan) (l : List Int) : List Int := tightL (slackOf p l) (slackOf p l).length
theorem tightL_len (S : List Int) : ∀ k, (tightL S k).length ≤ k
  | 0 => Nat.le_refl _
  | k + 1 => by
    have := tightL_len S k
    rw [tightL, List.length_append]
    split <;> simp <;> omega
theorem tightL_yes {S : List Int} {k : Nat} (h : k < S.length) (h0 : S[k] = 0) : tightL S (k + 1) = tightL S k ++ [(k : Int)] := by
  rw [tightL, if_pos (by simp [List.getD_eq_getElem?_getD, h, h0])]
theorem tightL_no {S : List Int} {k : Nat} (h : k < S.length) (h0 : ¬ S[k] = 0) : tightL S (k + 1) = tightL S k := by
  rw [tightL, if_neg (by simpa [List.getD_eq_getElem?_getD, h] using h0), List.append_nil]
theorem tightOf_len (p : Plan) (l : List Int) : (tightOf p l).length ≤ 12 := Nat.le_trans (tightL_len _ _) (slackOf_len p l)

theorem implTight_any (p : Plan) (ve v : Value) (l : List Int) (w : World) (hl : p.edges.length ≤ 2000000) (hl2 : l.length ≤ 2000000) (h : Rd edgeE w w.heap.size ve p.edges) (h2 : Rd intE w w.heap.size v l) :
    Calls Try.prog 42 #[planV p ve, v] w fun e w' => ∃ u, e = .returned u ∧ Ow intE 3 w' w.heap.size u (tightOf p l) ∧ Below w.heap.size w w' := by
  have hb0 := planBox_below 26 p ve w
  have D0 := BoxAt.new 26 p ve w
  have H := Lib.hid (show tightOf p l = tightL (slackOf p l) (slackOf p l).length from rfl)
  have hL12 := slackOf_len p l
  obtain ⟨j0, hj0, jz0, jz1, jz2⟩ := info_parts int_info
  unfold planV
  go_enter Try.func42, Try.ntmps42
  go_wp2_with fail
  refine (implSlack_any p ve v l _ hl hl2 ((h.below hb0).more hb0.size) ((h2.below hb0).more hb0.size)).mono ?_
  rintro e w2 ⟨u2, rfl, o2, hb1⟩
  have hb := bnext hb0 hb1
  have hsz := hb.size
  clear hb0 hb1 D0
  generalize slackOf p l = L at *
  obtain ⟨A2, c2, rfl, -⟩ := id (Rd.of_own o2)
  have O0 := Ow.nil intE 3 w2 w2.heap.size
  go_wp2
  go_loopw [5, 12] (fun vl i wr => ∃ k : Nat, k ≤ L.length ∧ i = .int .i64 k ∧ Ow intE 3 wr w2.heap.size vl (tightL L k) ∧ Below w2.heap.size w2 wr) (fun _ i _ => L.length - (intOf i).toNat)
  case atStart => exact ⟨0, Nat.zero_le _, rfl, O0, Below.refl _ _⟩
  case round =>
    clear O0
    obtain ⟨k, hk, rfl, ho, hb2⟩ := hrel
    have o2 := o2.below hb2
    have hsz2 := hb2.size
    by_cases hlt : k < L.length
    · have hltI : (k : Int) < (L.length : Int) := by omega
      have hsl := tightL_len L k
      obtain ⟨g2, rfl, _, _⟩ := o2.some_ (by omega)
      have cl := o2.int hlt
      by_cases h0 : L[k] = 0
      · have hs := Lib.hid (tightL_yes hlt h0)
        have hbq : (L[k] == 0) = true := by simpa using h0
        have ha : Hid (∀ w : World, Below w.heap.size w (w.alloc (.cells #[.int .i64 (k : Int)] 3))) := fun w => (Below.refl _ _).alloc (Nat.le_refl _) _
        clear h0
        go_wp2_with (at_builtin; refine wpList_push_all _ intE (by decide) rfl (.tmp 19) (.tmp 21) rfl Try.underlying27 hj0 jz0 jz1 jz2 rfl (l := tightL L k) rfl (ho.below (ha.out _)) rfl (Rd.one intE _ _ (k : Int) rfl rfl 1 (Nat.le_refl _) (Nat.lt_succ_self _)) (by omega) (by simp) (by decide) (by simp; omega) ?_; intro v5 w5 o5 g5 _)
        have hb' := bnext hb2 (ha.out _)
        have W5 := hb'.grown g5 hb'.size (fun g hg => by have := ho.within _ hg; omega)
        exact ⟨⟨k + 1, by omega, by go_num, by rw [hs.out]; exact o5, W5⟩, by simp [intOf]; omega⟩
      · have hs := Lib.hid (tightL_no hlt h0)
        have hbq : (L[k] == 0) = false := by simpa using h0
        clear h0
        go_wp2
        exact ⟨⟨k + 1, by omega, by go_num, by rw [hs.out]; exact ho, hb2⟩, by simp [intOf]; omega⟩
    · have hltI : ¬ (k : Int) < (L.length : Int) := by omega
      have hk' : k = L.length := by omega
      have hbF := hb
      have hb2F := hb2
      subst hk'
      go_wp2
      go_ret
      exact ⟨_, rfl, by rw [H.out]; exact ho.more hsz, bnext hbF hb2F⟩

end Go.Proofs.Ytnaicippgocdfaa
end
section
namespace Go.Proofs.Ytnaicippgocdfaa
open Go.RowKit
set_option linter.unusedVariables false

theorem order_all {es : List (Nat × Nat)} {T : Nat} {o : List Nat} (ho : OrderInv es T T o) {t : Nat} (ht : t < T) : t ∈ o := by
  refine Classical.byContradiction fun hn => ?_
  have := Pg.nodup_le T (t :: o) (List.nodup_cons.2 ⟨hn, ho.nodup⟩) (by
    intro x hx
    rcases List.mem_cons.1 hx with rfl | hx
    · exact ht
    · exact ho.lt x hx)
  simp only [List.length_cons, ho.len] at this
  omega
theorem beforeL_iff {es : List (Nat × Nat)} {T t s : Nat} (h1 : ∀ e ∈ es, e.1 < T) : s ∈ beforeL es T t ↔ (s, t) ∈ es := by
  unfold beforeL
  simp only [List.mem_filter, List.mem_range, decide_eq_true_eq]
  exact ⟨fun h => h.2, fun h => ⟨h1 _ h, h⟩⟩
theorem behindL_iff {es : List (Nat × Nat)} {T t s : Nat} (h2 : ∀ e ∈ es, e.2 < T) : s ∈ behindL es T t ↔ (t, s) ∈ es := by
  unfold behindL
  simp only [List.mem_filter, List.mem_range, decide_eq_true_eq]
  exact ⟨fun h => h.2, fun h => ⟨h2 _ h, h⟩⟩

theorem earFold_get {l : List Int} {t : Nat} : ∀ (B : List Nat) (S : List Int), t < S.length → t ∉ B →
    (∀ x, x ≠ t → (B.foldl (earStep l t) S).getD x 0 = S.getD x 0) ∧ S.getD t 0 ≤ (B.foldl (earStep l t) S).getD t 0 ∧ (∀ b ∈ B, S.getD b 0 + l.getD b 0 ≤ (B.foldl (earStep l t) S).getD t 0) ∧
      ((B.foldl (earStep l t) S).getD t 0 = S.getD t 0 ∨ ∃ b ∈ B, (B.foldl (earStep l t) S).getD t 0 = S.getD b 0 + l.getD b 0)
  | [], S, _, _ => ⟨fun _ _ => rfl, Int.le_refl _, fun b hb => absurd hb (by simp), .inl rfl⟩
  | b :: B, S, ht, hn => by
    have hnb : t ≠ b := fun e => hn (by rw [e]; exact List.mem_cons_self)
    have hnB : t ∉ B := fun e => hn (List.mem_cons_of_mem _ e)
    have hS : ∀ x, (earStep l t S b).getD x 0 = if t = x then max (S.getD t 0) (S.getD b 0 + l.getD b 0) else S.getD x 0 := fun x => setD _ _ _ _ _ ht
    obtain ⟨a1, a2, a3, a4⟩ := earFold_get (l := l) (t := t) B (earStep l t S b) (by rw [earStep_len]; exact ht) hnB
    rw [List.foldl_cons]
    rw [hS, if_pos rfl] at a2
    have key : ∀ c ∈ B, (earStep l t S b).getD c 0 = S.getD c 0 := fun c hc => by rw [hS, if_neg (by rintro rfl; exact hnB hc)]
    refine ⟨fun x hx => by rw [a1 x hx, hS, if_neg (Ne.symm hx)], by omega, ?_, ?_⟩
    · intro c hc
      rcases List.mem_cons.1 hc with rfl | hc
      · omega
      · have := a3 c hc
        rw [key c hc] at this
        exact this
    · rcases a4 with a4 | ⟨c, hc, a4⟩
      · rw [hS, if_pos rfl] at a4
        rcases Int.le_total (S.getD t 0) (S.getD b 0 + l.getD b 0) with hle | hle
        · exact .inr ⟨b, List.mem_cons_self, by rw [a4, Int.max_eq_right hle]⟩
        · exact .inl (by rw [a4, Int.max_eq_left hle])
      · exact .inr ⟨c, List.mem_cons_of_mem _ hc, by rw [a4, key c hc]⟩

section
variable {es : List (Nat × Nat)} {T : Nat} {l o : List Int} {ord : List Nat}

def earPre (es : List (Nat × Nat)) (T : Nat) (l : List Int) (ord : List Nat) (i : Nat) : List Int := (ord.take i).foldl (earTask es T l) (List.replicate T 0)
theorem earPre_len (es : List (Nat × Nat)) (T : Nat) (l : List Int) (ord : List Nat) (i : Nat) : (earPre es T l ord i).length = T := earL_len es T l (ord.take i)
structure EarInv (es : List (Nat × Nat)) (T : Nat) (l : List Int) (ord : List Nat) (i : Nat) (S : List Int) : Prop where
  rest : ∀ t, t ∉ ord.take i → S.getD t 0 = 0
  nn : ∀ t, 0 ≤ S.getD t 0
  le : ∀ j (h : j < ord.length), j < i → ∀ a, (a, ord[j]) ∈ es → S.getD a 0 + l.getD a 0 ≤ S.getD ord[j] 0
  eq : ∀ j (h : j < ord.length), j < i → S.getD ord[j] 0 = 0 ∨ ∃ a, (a, ord[j]) ∈ es ∧ S.getD ord[j] 0 = S.getD a 0 + l.getD a 0
theorem earPre_inv (h1 : ∀ e ∈ es, e.1 < T) (hac : ∀ t, t < T → ¬ Pg.Reach es t t) (ho : OrderInv es T T ord) : ∀ i, i ≤ T → EarInv es T l ord i (earPre es T l ord i)
  | 0, _ => by
    have hz : ∀ t, (earPre es T l ord 0).getD t 0 = 0 := fun t => by
      show (List.replicate T (0 : Int)).getD t 0 = 0
      rw [List.getD_eq_getElem?_getD, List.getElem?_replicate]
      split <;> rfl
    exact ⟨fun t _ => hz t, fun t => by rw [hz]; exact Int.le_refl _, fun j _ h => absurd h (by omega), fun j _ h => absurd h (by omega)⟩
  | i + 1, hi => by
    have ih := earPre_inv h1 hac ho i (by omega)
    have hio : i < ord.length := by rw [ho.len]; omega
    have hlt := ho.lt _ (List.getElem_mem hio)
    have hpre : earPre es T l ord (i + 1) = earTask es T l (earPre es T l ord i) ord[i] := by
      unfold earPre
      rw [take_snoc ord i hio, List.foldl_append]
      rfl
    have hself : ord[i] ∉ beforeL es T ord[i] := fun h => hac _ hlt (Pg.Reach.one ((beforeL_iff h1).1 h))
    obtain ⟨a1, a2, a3, a4⟩ := earFold_get (l := l) (beforeL es T ord[i]) (earPre es T l ord i) (by rw [earPre_len]; exact hlt) hself
    have hnin : ord[i] ∉ ord.take i := fun h => by
      obtain ⟨j, hj, he⟩ := List.mem_take_iff_getElem.1 h
      have := List.pairwise_iff_getElem.1 ho.nodup j i (by omega) hio (by omega)
      exact this he
    have hz := ih.rest _ hnin
    rw [hpre]
    change EarInv es T l ord (i + 1) ((beforeL es T ord[i]).foldl (earStep l ord[i]) (earPre es T l ord i))
    generalize (beforeL es T ord[i]).foldl (earStep l ord[i]) (earPre es T l ord i) = R at *
    have hold : ∀ j (h : j < ord.length), j < i → R.getD ord[j] 0 = (earPre es T l ord i).getD ord[j] 0 := fun j h hji => a1 _ (fun e => hnin (by rw [← e]; exact List.mem_take_iff_getElem.2 ⟨j, by omega, rfl⟩))
    have hpred : ∀ j (h : j < ord.length), j ≤ i → ∀ a, (a, ord[j]) ∈ es → R.getD a 0 = (earPre es T l ord i).getD a 0 := by
      intro j h hji a ha
      have hm := ho.closed j h a ha
      refine a1 _ (fun e => ?_)
      rw [e] at hm
      obtain ⟨k, hk, he⟩ := List.mem_take_iff_getElem.1 hm
      exact hnin (List.mem_take_iff_getElem.2 ⟨k, by omega, he⟩)
    refine ⟨?_, ?_, ?_, ?_⟩
    · intro t ht
      rw [take_snoc ord i hio] at ht
      simp only [List.mem_append, List.mem_singleton, not_or] at ht
      rw [a1 t ht.2]
      exact ih.rest t ht.1
    · intro t
      by_cases e : t = ord[i]
      · rw [e]; omega
      · rw [a1 t e]; exact ih.nn t
    · intro j h hji a ha
      rw [hpred j h (by omega) a ha]
      by_cases e : j = i
      · subst e
        exact a3 a ((beforeL_iff h1).2 ha)
      · rw [hold j h (by omega)]
        exact ih.le j h (by omega) a ha
    · intro j h hji
      by_cases e : j = i
      · subst e
        rcases a4 with a4 | ⟨b, hb, a4⟩
        · exact .inl (by rw [a4, hz])
        · exact .inr ⟨b, (beforeL_iff h1).1 hb, by rw [a4, hpred j h (by omega) b ((beforeL_iff h1).1 hb)]⟩
      · rw [hold j h (by omega)]
        rcases ih.eq j h (by omega) with h0 | ⟨a, ha, h0⟩
        · exact .inl h0
        · exact .inr ⟨a, ha, by rw [h0, hpred j h (by omega) a ha]⟩
end

/-- the facts on the earliest and the latest times of a plan that is right -/
structure Times (es : List (Nat × Nat)) (T : Nat) (l E D : List Int) (L : Int) : Prop where
  elen : E.length = T
  enn : ∀ t, 0 ≤ E.getD t 0
  ele : ∀ e ∈ es, E.getD e.1 0 + l.getD e.1 0 ≤ E.getD e.2 0
  eeq : ∀ t, t < T → E.getD t 0 = 0 ∨ ∃ a, (a, t) ∈ es ∧ E.getD t 0 = E.getD a 0 + l.getD a 0
  elong : ∀ t, t < T → E.getD t 0 + l.getD t 0 ≤ L
  emax : ∃ t, t < T ∧ E.getD t 0 + l.getD t 0 = L
  dlen : D.length = T
  dle : ∀ e ∈ es, D.getD e.1 0 + l.getD e.1 0 ≤ D.getD e.2 0
  dlong : ∀ t, t < T → D.getD t 0 + l.getD t 0 ≤ L
  ed : ∀ t, t < T → E.getD t 0 ≤ D.getD t 0
  lwork : L ≤ l.sum

theorem longUpto_is {E l : List Int} (hE : ∀ t, 0 ≤ E.getD t 0) : ∀ k, (∀ t, t < k → E.getD t 0 + l.getD t 0 ≤ longUpto E l k) ∧ (longUpto E l k = 0 ∨ ∃ t, t < k ∧ E.getD t 0 + l.getD t 0 = longUpto E l k) ∧ 0 ≤ longUpto E l k
  | 0 => ⟨fun t h => absurd h (by omega), .inl rfl, Int.le_refl _⟩
  | k + 1 => by
    obtain ⟨a1, a2, a3⟩ := longUpto_is (l := l) hE k
    have hd : longUpto E l (k + 1) = max (longUpto E l k) (E.getD k 0 + l.getD k 0) := rfl
    rw [hd]
    refine ⟨?_, ?_, by omega⟩
    · intro t ht
      by_cases e : t = k
      · subst e; omega
      · have := a1 t (by omega); omega
    · rcases Int.le_total (longUpto E l k) (E.getD k 0 + l.getD k 0) with hle | hle
      · exact .inr ⟨k, by omega, by rw [Int.max_eq_right hle]⟩
      · rw [Int.max_eq_left hle]
        rcases a2 with a2 | ⟨t, ht, a2⟩
        · exact .inl a2
        · exact .inr ⟨t, by omega, a2⟩

theorem latEnd_is {o : List Int} : ∀ (B : List Nat) (L : Int), latEnd L o B ≤ L ∧ (∀ b ∈ B, latEnd L o B ≤ o.getD b 0) ∧ (latEnd L o B = L ∨ ∃ b ∈ B, latEnd L o B = o.getD b 0)
  | [], L => ⟨Int.le_refl _, fun b hb => absurd hb (by simp), .inl rfl⟩
  | b :: B, L => by
    obtain ⟨a1, a2, a3⟩ := latEnd_is (o := o) B (min L (o.getD b 0))
    have hd : latEnd L o (b :: B) = latEnd (min L (o.getD b 0)) o B := rfl
    rw [hd]
    refine ⟨by omega, ?_, ?_⟩
    · intro c hc
      rcases List.mem_cons.1 hc with rfl | hc
      · omega
      · exact a2 c hc
    · rcases a3 with a3 | ⟨c, hc, a3⟩
      · rcases Int.le_total L (o.getD b 0) with hle | hle
        · exact .inl (by rw [a3, Int.min_eq_left hle])
        · exact .inr ⟨b, List.mem_cons_self, by rw [a3, Int.min_eq_right hle]⟩
      · exact .inr ⟨c, List.mem_cons_of_mem _ hc, a3⟩
theorem latEnd_same {o o' : List Int} : ∀ (B : List Nat) (L : Int), (∀ b ∈ B, o'.getD b 0 = o.getD b 0) → latEnd L o' B = latEnd L o B
  | [], L, _ => rfl
  | b :: B, L, h => by
    show latEnd (min L (o'.getD b 0)) o' B = latEnd (min L (o.getD b 0)) o B
    rw [h b List.mem_cons_self]
    exact latEnd_same B _ fun c hc => h c (List.mem_cons_of_mem _ hc)

section
variable {es : List (Nat × Nat)} {T : Nat} {l : List Int} {ord : List Nat} {L : Int}
theorem order_next (ho : OrderInv es T T ord) {i : Nat} (hi : i < ord.length) {s : Nat} (hs : (ord[i], s) ∈ es) (hsT : s < T) : ∃ k, ∃ hk : k < ord.length, i < k ∧ ord[k] = s := by
  obtain ⟨k, hk, rfl⟩ := List.getElem_of_mem (order_all ho hsT)
  have hm := ho.closed k hk _ hs
  obtain ⟨j, hj, he⟩ := List.mem_take_iff_getElem.1 hm
  refine ⟨k, hk, ?_, rfl⟩
  rcases Nat.lt_trichotomy i j with h | h | h
  · omega
  · omega
  · exact absurd he (List.pairwise_iff_getElem.1 ho.nodup j i (by omega) hi h)
theorem lat_inv (h2 : ∀ e ∈ es, e.2 < T) (ho : OrderInv es T T ord) : ∀ n, n ≤ T → ∀ j (h : j < ord.length), T - n ≤ j → (latL es T L l (ord.drop (T - n))).getD ord[j] 0 = latEnd L (latL es T L l (ord.drop (T - n))) (behindL es T ord[j]) - l.getD ord[j] 0
  | 0, _ => fun j h hj => absurd h (by rw [ho.len]; omega)
  | n + 1, hn => by
    intro j h hj
    have hi : T - (n + 1) < ord.length := by rw [ho.len]; omega
    have hsucc : T - (n + 1) + 1 = T - n := by omega
    have hc := latL_cons es T L l ord hi
    rw [hsucc] at hc
    have ih := lat_inv h2 ho n (by omega)
    rw [hc]
    generalize hD : latL es T L l (ord.drop (T - n)) = D at *
    have hDl : D.length = T := by rw [← hD, latL_len]
    have hne : ∀ k (hk : k < ord.length), T - (n + 1) < k → ord[T - (n + 1)] ≠ ord[k] := fun k hk hlt => List.pairwise_iff_getElem.1 ho.nodup _ k hi hk hlt
    have hsame : ∀ i (hi' : i < ord.length), T - (n + 1) ≤ i → ∀ b ∈ behindL es T ord[i], (D.set ord[T - (n + 1)] (latEnd L D (behindL es T ord[T - (n + 1)]) - l.getD ord[T - (n + 1)] 0)).getD b 0 = D.getD b 0 := by
      intro i hi' hle b hb
      obtain ⟨k, hk, hik, rfl⟩ := order_next ho hi' ((behindL_iff h2).1 hb) (h2 _ ((behindL_iff h2).1 hb))
      rw [setD _ _ _ _ _ (by rw [hDl]; exact ho.lt _ (List.getElem_mem hi)), if_neg (hne k hk (by omega))]
    by_cases e : j = T - (n + 1)
    · subst e
      rw [latEnd_same _ _ (hsame _ hi (Nat.le_refl _)), setD _ _ _ _ _ (by rw [hDl]; exact ho.lt _ (List.getElem_mem hi)), if_pos rfl]
    · rw [latEnd_same _ _ (hsame j h hj), setD _ _ _ _ _ (by rw [hDl]; exact ho.lt _ (List.getElem_mem hi)), if_neg (hne j h (by omega))]
      exact ih j h (by omega)

/-- sums over the first tasks of the order -/
def ordSum (l : List Int) (ord : List Nat) (i : Nat) : Int := ((ord.take i).map fun t => l.getD t 0).sum
theorem ordSum_succ (l : List Int) {ord : List Nat} {i : Nat} (h : i < ord.length) : ordSum l ord (i + 1) = ordSum l ord i + l.getD ord[i] 0 := by
  unfold ordSum
  rw [take_snoc ord i h, List.map_append, List.sum_append, List.map_singleton, List.sum_singleton]
theorem ordSum_mono (hl : ∀ x ∈ l, 1 ≤ x ∧ x ≤ 1000) {i : Nat} : ∀ n, i + n ≤ ord.length → ordSum l ord i ≤ ordSum l ord (i + n)
  | 0, _ => Int.le_refl _
  | n + 1, h => by
    have := ordSum_mono hl (i := i) n (by omega)
    rw [← Nat.add_assoc, ordSum_succ l (show i + n < ord.length by omega)]
    have h2 : 0 ≤ l.getD ord[i + n] 0 := by
      rw [List.getD_eq_getElem?_getD]
      cases hk : l[ord[i + n]]? with
      | none => simp
      | some y => have := hl y (List.mem_of_getElem? hk); simp; omega
    omega
theorem sum_range (l : List Int) : ((List.range l.length).map fun t => l.getD t 0) = l := by
  apply List.ext_getElem (by simp)
  intro i h1 h2
  simp [List.getD_eq_getElem?_getD, h2]
theorem perm_sum {a b : List Int} (h : a.Perm b) : a.sum = b.sum := by
  induction h with
  | nil => rfl
  | cons x _ ih => simp [ih]
  | swap x y l => simp only [List.sum_cons]; omega
  | trans _ _ h1 h2 => rw [h1, h2]
theorem ordSum_all (ho : OrderInv es T T ord) (hl : l.length = T) : ordSum l ord T = l.sum := by
  have hp : ord.Perm (List.range T) := by
    refine (List.perm_ext_iff_of_nodup ho.nodup List.nodup_range).2 fun t => ?_
    exact ⟨fun h => List.mem_range.2 (ho.lt t h), fun h => order_all ho (List.mem_range.1 h)⟩
  unfold ordSum
  rw [List.take_of_length_le (by rw [ho.len]; omega)]
  have h1 := perm_sum (hp.map fun t => l.getD t 0)
  rw [h1, ← hl, sum_range]
end

theorem times_of {p : Plan} {l : List Int} (hf : weightsOk p l = true) : Times (esOf p) p.tasks.toNat l (earliestOf p l) (latestOf p l) (longestOf p l) := by
  obtain ⟨g1, g2, g3⟩ := weightsOk_all hf
  obtain ⟨q1, q2, q3, q4⟩ := planFault_zero.1 g1
  have hT := manyOk_tasks q1
  obtain ⟨h1, h2⟩ := esOf_lt q2
  have ho := orderOf_inv g1
  have hac := plan_ac g1
  have hlen : l.length = p.tasks.toNat := by omega
  have he : earliestOf p l = earPre (esOf p) p.tasks.toNat l (orderOf p) p.tasks.toNat := by
    unfold earliestOf earPre
    rw [if_pos hf, List.take_of_length_le (by rw [ho.len]; exact Nat.le_refl _)]
    rfl
  have hd : latestOf p l = latL (esOf p) p.tasks.toNat (longestOf p l) l (orderOf p) := by
    unfold latestOf
    rw [if_pos hf]
  have hEi := earPre_inv (l := l) h1 hac ho _ (Nat.le_refl _)
  rw [← he] at hEi
  have hel : (earliestOf p l).length = p.tasks.toNat := by rw [he, earPre_len]
  obtain ⟨u1, u2, u3⟩ := longUpto_is (l := l) hEi.nn (earliestOf p l).length
  have hL : longestOf p l = longUpto (earliestOf p l) l p.tasks.toNat := by unfold longestOf; rw [hel]
  rw [hel] at u1 u2
  rw [← hL] at u1 u2
  have hDi := lat_inv (l := l) (L := longestOf p l) h2 ho p.tasks.toNat (Nat.le_refl _)
  rw [Nat.sub_self, List.drop_zero, ← hd] at hDi
  have hw : ∀ t, t < p.tasks.toNat → 1 ≤ l.getD t 0 := fun t ht => (g3 _ (getD_mem (by omega) 0)).1
  have eeq : ∀ t, t < p.tasks.toNat → (earliestOf p l).getD t 0 = 0 ∨ ∃ a, (a, t) ∈ esOf p ∧ (earliestOf p l).getD t 0 = (earliestOf p l).getD a 0 + l.getD a 0 := by
    intro t ht
    obtain ⟨j, hj, rfl⟩ := List.getElem_of_mem (order_all ho ht)
    exact hEi.eq j hj (by rw [← ho.len]; exact hj)
  have ele : ∀ e ∈ esOf p, (earliestOf p l).getD e.1 0 + l.getD e.1 0 ≤ (earliestOf p l).getD e.2 0 := by
    rintro ⟨a, b⟩ hab
    obtain ⟨j, hj, hjb⟩ := List.getElem_of_mem (order_all ho (h2 _ hab))
    simp only at hjb ⊢
    subst hjb
    exact hEi.le j hj (by rw [← ho.len]; exact hj) a hab
  have hDat : ∀ t, t < p.tasks.toNat → (latestOf p l).getD t 0 = latEnd (longestOf p l) (latestOf p l) (behindL (esOf p) p.tasks.toNat t) - l.getD t 0 := by
    intro t ht
    obtain ⟨j, hj, rfl⟩ := List.getElem_of_mem (order_all ho ht)
    exact hDi j hj (Nat.zero_le _)
  refine ⟨hel, hEi.nn, ele, eeq, u1, ?_, by rw [hd, latL_len], ?_, ?_, ?_, ?_⟩
  · rcases u2 with u2 | u2
    · have h3 := u1 0 (by omega)
      have h4 := hEi.nn 0
      have h5 := hw 0 (by omega)
      omega
    · exact u2
  · rintro ⟨a, b⟩ hab
    have h3 := hDat a (h1 _ hab)
    have h4 := (latEnd_is (o := latestOf p l) (behindL (esOf p) p.tasks.toNat a) (longestOf p l)).2.1 b ((behindL_iff h2).2 hab)
    simp only
    omega
  · intro t ht
    have h3 := hDat t ht
    have h4 := (latEnd_is (o := latestOf p l) (behindL (esOf p) p.tasks.toNat t) (longestOf p l)).1
    omega
  · -- from the order's end on
    have key : ∀ n j (h : j < (orderOf p).length), p.tasks.toNat - n ≤ j → (earliestOf p l).getD (orderOf p)[j] 0 ≤ (latestOf p l).getD (orderOf p)[j] 0 := by
      intro n
      induction n with
      | zero => intro j h hj; exact absurd h (by rw [ho.len]; omega)
      | succ n ih =>
        intro j h hj
        have hjT := ho.lt _ (List.getElem_mem h)
        rw [hDat _ hjT]
        rcases (latEnd_is (o := latestOf p l) (behindL (esOf p) p.tasks.toNat (orderOf p)[j]) (longestOf p l)).2.2 with h3 | ⟨b, hb, h3⟩
        · have := u1 _ hjT
          omega
        · have hes := (behindL_iff h2).1 hb
          obtain ⟨k, hk, hjk, rfl⟩ := order_next ho h hes (h2 _ hes)
          have h4 := ih k hk (by omega)
          have h5 := ele _ hes
          simp only at h5
          omega
    intro t ht
    obtain ⟨j, hj, rfl⟩ := List.getElem_of_mem (order_all ho ht)
    exact key p.tasks.toNat j hj (by omega)
  · have key : ∀ j (h : j < (orderOf p).length), (earliestOf p l).getD (orderOf p)[j] 0 ≤ ordSum l (orderOf p) j := by
      intro j
      induction j using Nat.strongRecOn with
      | _ j ih =>
        intro h
        have hjT := ho.lt _ (List.getElem_mem h)
        have h0 : 0 ≤ ordSum l (orderOf p) j := by
          have := ordSum_mono (ord := orderOf p) (i := 0) g3 j (by omega)
          rw [Nat.zero_add] at this
          simpa [ordSum] using this
        rcases eeq _ hjT with h3 | ⟨a, ha, h3⟩
        · omega
        · have hm := ho.closed j h a ha
          obtain ⟨k, hk, hka⟩ := List.mem_take_iff_getElem.1 hm
          subst hka
          have h4 := ih k (by omega) (by omega)
          have h5 := ordSum_succ l (ord := orderOf p) (i := k) (by omega)
          have h6 := ordSum_mono (ord := orderOf p) (i := k + 1) g3 (j - (k + 1)) (by omega)
          rw [show k + 1 + (j - (k + 1)) = j from by omega] at h6
          omega
    have hall := ordSum_all ho hlen
    rcases u2 with u2 | ⟨t, ht, u2⟩
    · rw [u2]
      have := ordSum_mono (ord := orderOf p) (i := 0) g3 p.tasks.toNat (by rw [ho.len]; omega)
      rw [Nat.zero_add, hall] at this
      simpa [ordSum] using this
    · obtain ⟨j, hj, rfl⟩ := List.getElem_of_mem (order_all ho ht)
      have h4 := key j hj
      have hj' : j < p.tasks.toNat := by have := ho.len; omega
      have h5 := ordSum_succ l (ord := orderOf p) (i := j) hj
      have h6 := ordSum_mono (ord := orderOf p) (i := j + 1) g3 (p.tasks.toNat - (j + 1)) (by rw [ho.len]; omega)
      rw [show j + 1 + (p.tasks.toNat - (j + 1)) = p.tasks.toNat from by omega, hall] at h6
      omega
end Go.Proofs.Ytnaicippgocdfaa
end
section
namespace Go.Proofs.Ytnaicippgocdfaa
open Go.RowKit
set_option maxRecDepth 100000
set_option maxHeartbeats 2000000
set_option linter.unusedVariables false

/-! a drawn plan is right -/
structure Drawn (T : Int) (n : Nat) (es : List Edge) : Prop where
  len : es.length ≤ n
  nodup : es.Nodup
  up : ∀ e ∈ es, 0 ≤ e.fr ∧ e.fr < e.to ∧ e.to < T
theorem Drawn.add {T : Int} {n : Nat} {es : List Edge} (h : Drawn T n es) {e : Edge} (he : 0 ≤ e.fr ∧ e.fr < e.to ∧ e.to < T) : Drawn T (n + 1) (addE es e) := by
  unfold addE
  split
  · exact ⟨by have := h.len; omega, h.nodup, h.up⟩
  · rename_i hn
    refine ⟨by have := h.len; simp; omega, nodup_snoc.2 ⟨h.nodup, hn⟩, fun x hx => ?_⟩
    rcases List.mem_append.1 hx with hx | hx
    · exact h.up x hx
    · rw [List.mem_singleton.1 hx]; exact he
theorem planGo_drawn (code : List UInt8) (T : Int) : ∀ (f i : Nat) (es : List Edge) (c : Cur) (n : Nat), Drawn T n es → Drawn T (n + f) (planGo code T f i es c).1
  | 0, i, es, c, n, h => h
  | f + 1, i, es, c, n, h => by
    rw [planGo]
    split
    · rename_i hg
      have h1 := curBelow_bd code (n := T - 1) (curBelow code 9 c).2 (by omega)
      have h2 : 1 ≤ newTo code T c ∧ newTo code T c < T := by unfold newTo; omega
      have h3 := curBelow_bd code (n := newTo code T c) (curBelow code (T - 1) (curBelow code 9 c).2).2 (by omega)
      have := planGo_drawn code T f (i + 1) _ (newC code T c) (n + 1) (h.add (e := newE code T c) (by unfold newE; simp only; omega))
      rw [show n + (f + 1) = n + 1 + f by omega]
      exact this
    · exact ⟨by have := h.len; simp only; omega, h.nodup, h.up⟩
theorem reach_lt_of {es : List (Nat × Nat)} (h : ∀ e ∈ es, e.1 < e.2) {a b : Nat} (hr : Pg.Reach es a b) : a < b := by
  obtain ⟨l, hne, hw⟩ := hr
  induction hw with
  | nil a => exact absurd rfl hne
  | @cons a c b l h1 h2 ih =>
    have h3 := h _ h1
    by_cases hl : l = []
    · subst hl
      cases h2
      exact h3
    · have := ih hl
      simp only at h3
      omega
theorem curPlan_ok (code : List UInt8) (c : Cur) : planFault (curPlan code c).1 = 0 := by
  have b1 := curBelow_bd code (n := 4) c (by omega)
  have b2 := curBelow_bd code (n := 3) (curBelow code 4 c).2 (by omega)
  have b3 := curBelow_bd code (n := 4) (curBelow code 3 (curBelow code 4 c).2).2 (by omega)
  have b4 := curBelow_bd code (n := 6) (curBelow code 4 (curBelow code 3 (curBelow code 4 c).2).2).2 (by omega)
  unfold curPlan
  simp only
  generalize curBelow code 4 c = r1 at *
  generalize curBelow code 3 r1.2 = r2 at *
  generalize curBelow code 4 r2.2 = r3 at *
  generalize curBelow code 6 r3.2 = r4 at *
  generalize curOnce code 10 r4.2 = r5 at *
  have hT : 1 ≤ planT r5.1 r4.1 ∧ planT r5.1 r4.1 ≤ 12 := by unfold planT; split <;> omega
  generalize planT r5.1 r4.1 = T at *
  have h := planGo_drawn code T 10 0 [] r5.2 0 ⟨by simp, by simp, by simp⟩
  generalize (planGo code T 10 0 [] r5.2).1 = es at *
  refine planFault_zero.2 ⟨?_, fun e he => ?_, h.nodup, ?_⟩
  · have := h.len
    simp only [manyOk, Bool.and_eq_true, decide_eq_true_eq, inB_iff]
    omega
  · have := h.up e he
    simp only [edgeIn, Bool.and_eq_true, inB_iff]
    omega
  · rintro ⟨t, ht, hr⟩
    have : t < t := reach_lt_of (fun e he => by
      simp only [esOf, esL, List.mem_map] at he
      obtain ⟨x, hx, rfl⟩ := he
      have := h.up x hx
      simp only
      omega) hr
    omega

/-! drawn weights -/
def curWeights (code : List UInt8) : Nat → Cur → List Int × Cur
  | 0, c => ([], c)
  | k + 1, c => ((curWeights code k c).1 ++ [1 + (curBelow code 9 (curWeights code k c).2).1], (curBelow code 9 (curWeights code k c).2).2)
theorem curWeights_len (code : List UInt8) (c : Cur) : ∀ k, (curWeights code k c).1.length = k
  | 0 => rfl
  | k + 1 => by rw [curWeights]; simp [curWeights_len code c k]
theorem curWeights_bd (code : List UInt8) (c : Cur) : ∀ k, ∀ x ∈ (curWeights code k c).1, 1 ≤ x ∧ x ≤ 1000
  | 0 => by simp [curWeights]
  | k + 1 => by
    intro x hx
    rw [curWeights] at hx
    have hb := curBelow_bd code (n := 9) (curWeights code k c).2 (by omega)
    rcases List.mem_append.1 hx with hx | hx
    · exact curWeights_bd code c k x hx
    · rw [List.mem_singleton.1 hx]; omega
theorem weights_any (b : Nat) (v : Value) (code : List UInt8) (c : Cur) (p : Plan) (ve : Value) (w : World) (hT : 1 ≤ p.tasks ∧ p.tasks ≤ 12) (h : Drw b v code c w) :
    Calls Try.prog 47 #[.pointer (some ⟨b, 0, none⟩), planV p ve] w fun e w' => ∃ u, e = .returned u ∧ Ow intE 3 w' w.heap.size u (curWeights code p.tasks.toNat c).1 ∧ Drw b v code (curWeights code p.tasks.toNat c).2 w' ∧ Chg [b] w w' := by
  have hb := h.box.lt
  obtain ⟨i0, hi0, hz0, hz1, hz2⟩ := info_parts int_info
  have hb0 := planBox_below 26 p ve w
  have k0 := h.below hb0
  have P0 := BoxAt.new 26 p ve w
  have C0 := (Chg.refl [b] w).belowNew hb0
  have s0 := planBox_size 26 p ve w
  unfold planV
  go_enter Try.func47, Try.ntmps47
  go_wp2
  have ha : Below (planBox 26 p ve w).heap.size (planBox 26 p ve w) ((planBox 26 p ve w).alloc (.cells #[] 3)) := (Below.refl _ _).alloc (Nat.le_refl _) _
  have O0 := Ow.empty intE 3 (planBox 26 p ve w) (g := w.heap.size + 1) (by rw [planBox_size])
  have k1 := k0.below ha
  have P1 := P0.below ha
  have C1 := C0.belowNew ha
  have hz : ((planBox 26 p ve w).alloc (.cells #[] 3)).heap.size = w.heap.size + 2 := by simp [planBox]
  unfold planBox at O0 k1 P1 C1 hz
  clear ha k0 P0 C0 hb0 s0
  generalize ((w.alloc (.cells #[.int .i64 p.prio, .int .i64 p.most, .int .i64 p.wait, .int .i64 p.tasks, ve] 26)).alloc (.cells #[] 3)) = w1 at *
  go_loopw [5, 6] (fun u i wr => ∃ k : Nat, k ≤ p.tasks.toNat ∧ i = .int .i64 k ∧ Drw b v code (curWeights code k c).2 wr ∧ Ow intE 3 wr (w.heap.size + 1) u (curWeights code k c).1 ∧ BoxAt w.heap.size p ve wr ∧ Chg [b] w wr ∧ w.heap.size + 2 ≤ wr.heap.size) (fun _ i _ => p.tasks.toNat - (intOf i).toNat)
  case atStart => exact ⟨0, Nat.zero_le _, rfl, k1, O0, P1, C1, by omega⟩
  case round =>
    clear k1 O0 P1 C1 hz
    obtain ⟨k, hk, rfl, K, O, P, C, hsz⟩ := hrel
    have hlen := curWeights_len code c k
    have HL := Lib.hid hlen
    clear hlen
    obtain ⟨p0, p1, p2, p3, p4, ps⟩ := P.cells
    by_cases hlt : k < p.tasks.toNat
    · have i1 : (k : Int) < p.tasks := by omega
      have i2 : (k : Int) < 12 := by omega
      obtain ⟨A, cap, rfl, -⟩ := id (Rd.of_own O)
      rw [HL.out] at O ⊢
      go_wp2_with fail
      refine (below_any 9 b v code _ _ (by omega) K).mono ?_
      rintro e w2 ⟨rfl, k2, c2⟩
      have Bq := curBelow_bd code (n := 9) (curWeights code k c).2 (by omega)
      have e1 : curWeights code (k + 1) c = ((curWeights code k c).1 ++ [1 + (curBelow code 9 (curWeights code k c).2).1], (curBelow code 9 (curWeights code k c).2).2) := rfl
      have E1 := Lib.hid e1
      clear e1
      generalize curBelow code 9 (curWeights code k c).2 = q at *
      have O2 := O.chg c2 (by omega)
      have P2 := P.chg c2 (by simp; omega)
      have C2 := C.trans c2
      have z2 := c2.size
      have z3 : (curWeights code k c).1.length ≤ 3000000 := by rw [HL.out]; omega
      have z3 := Lib.hid z3
      clear K O P C c2 p0 p1 p2 p3 p4 ps
      have hax : Below w2.heap.size w2 (w2.alloc (.cells #[.int .i64 (1 + q.1)] 3)) := (Below.refl _ _).alloc (Nat.le_refl _) _
      go_wp2_with (at_builtin; refine wpList_push_all _ intE (by decide) rfl (.tmp 18) (.tmp 22) rfl Try.underlying27 hi0 hz0 hz1 hz2 rfl (v := .slice A k cap) (l := (curWeights code k c).1) rfl (O2.below hax) rfl (Rd.one intE _ _ (1 + q.1) rfl rfl 1 (Nat.le_refl _) (Nat.lt_succ_self _)) z3.out (by simp) (by decide) (by simp; omega) ?_; intro v5 w5 o5 g5 f5)
      have hb5 : ∀ g, (Value.slice A k cap).ownBlock = some g → w.heap.size + 1 ≤ g := fun g hg => (O2.within g hg).1
      refine ⟨⟨k + 1, by omega, by go_num, ?_, ?_, (P2.below hax).far g5 (fun e => by have := hb5 _ e.symm; omega), (C2.belowNew hax).grownNew g5 (fun g hg => by have := hb5 g hg; omega), by have := g5.size; simp at this; omega⟩, by simp [intOf]; omega⟩
      · rw [E1.out]; exact (k2.below hax).grownNew g5 (fun g hg => by have := hb5 g hg; omega)
      · rw [E1.out]; exact o5
    · have hke : k = p.tasks.toNat := by omega
      by_cases h12 : (k : Int) < p.tasks
      · omega
      · go_wp2
        go_ret
        subst hke
        exact ⟨_, rfl, O.more (by omega), K, C⟩

/-! DrawPlans, DrawWork -/
def TwoPlans (c : Plan × Cur) (d : Plan × Cur) (w : World) (e : Ending) (w' : World) : Prop :=
  ∃ u u', e = .returned (.tuple #[planV c.1 u, planV d.1 u']) ∧ Ow edgeE 52 w' w.heap.size u c.1.edges ∧ Ow edgeE 52 w' w.heap.size u' d.1.edges ∧ Below w.heap.size w w'
theorem drawPlans_any (v : Value) (code : List UInt8) (w : World) (hs : code.length ≤ 1048576) (h : Rd byteE w w.heap.size v code) :
    Calls Try.prog 17 #[v] w (TwoPlans (curPlan code (curNew code)) (curPlan code (curPlan code (curNew code)).2) w) := by
  go_enter Try.func17, Try.ntmps17
  go_wp2_with fail
  obtain ⟨W, hW, Z0, Z1, B0, hz⟩ : ∃ W, W = (w.alloc (.cells #[.int .i64 0, .int .i64 0, .int .i64 0, .int .i64 0, .slice none 0 0] 26)).alloc (.cells #[.int .i64 0, .int .i64 0, .int .i64 0, .int .i64 0, .slice none 0 0] 26) ∧
      BoxAt w.heap.size ⟨0, 0, 0, 0, []⟩ (.slice none 0 0) W ∧ BoxAt (w.heap.size + 1) ⟨0, 0, 0, 0, []⟩ (.slice none 0 0) W ∧ Below w.heap.size w W ∧ W.heap.size = w.heap.size + 2 := by
    refine ⟨_, rfl, ?_, ?_, ?_, by simp⟩
    · exact (BoxAt.new' 26 ⟨0, 0, 0, 0, []⟩ (.slice none 0 0) w rfl).below ((Below.refl _ _).alloc (Nat.le_refl _) _)
    · exact BoxAt.new' 26 ⟨0, 0, 0, 0, []⟩ (.slice none 0 0) _ (by simp)
    · exact bnext ((Below.refl _ _).alloc (Nat.le_refl _) _) ((Below.refl _ _).alloc (Nat.le_refl _) _)
  rw [← hW]
  have HW := Lib.hid hW
  clear hW
  refine (new_any v code W hs ((h.below B0).more B0.size)).mono ?_
  rintro e w1 ⟨g, rfl, hg, k1, b1⟩
  have HG := Lib.hid hg
  have hgz : g = w.heap.size + 2 := by omega
  have HZ := Lib.hid hgz
  clear hgz hg
  have Y0 := Z0.below b1
  have Y1 := Z1.below b1
  have C1 := Chg.of_below [g] (bnext B0 b1)
  have g1 : w.heap.size + 2 ≤ g := by rw [HZ.out]; omega
  clear Z0 Z1 B0 hz b1
  go_wp2_with fail
  refine (drawPlan_any g v code _ w1 k1).mono ?_
  rintro e w2 ⟨u1, rfl, o2, k2, c2⟩
  have X0 := Y0.chg c2 (by simp; omega)
  have X1 := Y1.chg c2 (by simp; omega)
  have C2 := C1.trans c2
  have l2 : g < w1.heap.size := k1.box.lt
  go_wp2_with fail
  refine (drawPlan_any g v code _ w2 k2).mono ?_
  rintro e w3 ⟨u2, rfl, o3, k3, c3⟩
  have l3 := c2.size
  have V0 := X0.chg c3 (by simp; omega)
  have V1 := X1.chg c3 (by simp; omega)
  have C3 := C2.trans c3
  have o2' := o2.chg c3 l2
  clear X0 X1 Y0 Y1 C1 C2 c2 c3 k1 k2 o2
  obtain ⟨A1, e1, rfl, -⟩ := id (Rd.of_own o2')
  obtain ⟨A2, e2, rfl, -⟩ := id (Rd.of_own o3)
  obtain ⟨x0, x1, x2, x3, x4, xs⟩ := V0.cells
  obtain ⟨y0, y1, y2, y3, y4, ys⟩ := V1.cells
  have xf := V0.free
  have yf := V1.free
  generalize curPlan code (curNew code) = P1 at *
  generalize curPlan code P1.2 = P2 at *
  go_wp2
  have hfin : TwoPlans P1 P2 w (.returned (.tuple #[planV P1.1 (.slice A1 P1.1.edges.length e1), planV P2.1 (.slice A2 P2.1.edges.length e2)])) ((((((((((w3.setCell ⟨w.heap.size, 0, none⟩ (.int .i64 P1.1.prio)).setCell ⟨w.heap.size, 1, none⟩ (.int .i64 P1.1.most)).setCell ⟨w.heap.size, 2, none⟩ (.int .i64 P1.1.wait)).setCell ⟨w.heap.size, 3, none⟩ (.int .i64 P1.1.tasks)).setCell ⟨w.heap.size, 4, none⟩ (.slice A1 P1.1.edges.length e1)).setCell ⟨w.heap.size + 1, 0, none⟩ (.int .i64 P2.1.prio)).setCell ⟨w.heap.size + 1, 1, none⟩ (.int .i64 P2.1.most)).setCell ⟨w.heap.size + 1, 2, none⟩ (.int .i64 P2.1.wait)).setCell ⟨w.heap.size + 1, 3, none⟩ (.int .i64 P2.1.tasks)).setCell ⟨w.heap.size + 1, 4, none⟩ (.slice A2 P2.1.edges.length e2)) := by
    refine ⟨_, _, rfl, Ow.more (base := w1.heap.size) ?_ (by omega), Ow.more (base := w2.heap.size) ?_ (by omega), ?_⟩
    · repeat (first | (with_reducible exact o2') | refine Ow.setLow ?_ (by first | (show w.heap.size < _; omega) | (show w.heap.size + 1 < _; omega)) _)
    · repeat (first | (with_reducible exact o3) | refine Ow.setLow ?_ (by first | (show w.heap.size < _; omega) | (show w.heap.size + 1 < _; omega)) _)
    · have hB : Below w.heap.size w w3 := C3.below (Nat.le_refl _) (fun x hx => by simp at hx; omega)
      repeat (first | (with_reducible exact hB) | refine Below.setCell ?_ (by simp <;> omega) _)
  refine bodyPost_ret (v := .tuple #[planV P1.1 (.slice A1 P1.1.edges.length e1), planV P2.1 (.slice A2 P2.1.edges.length e2)]) ?_ rfl hfin
  simp [planV, results, Try.results17, go_sem, *]

def drawnWork (code : List UInt8) : (Plan × Cur) × (List Int × Cur) := (curPlan code (curNew code), curWeights code (curPlan code (curNew code)).1.tasks.toNat (curPlan code (curNew code)).2)
def WorkP (code : List UInt8) (w : World) (e : Ending) (w' : World) : Prop :=
  ∃ u u', e = .returned (.tuple #[planV (drawnWork code).1.1 u, u', .int .i64 (1 + (curBelow code 4 (drawnWork code).2.2).1)]) ∧ Ow edgeE 52 w' w.heap.size u (drawnWork code).1.1.edges ∧ Ow intE 3 w' w.heap.size u' (drawnWork code).2.1 ∧ Below w.heap.size w w'
theorem drawWork_any (v : Value) (code : List UInt8) (w : World) (hs : code.length ≤ 1048576) (h : Rd byteE w w.heap.size v code) :
    Calls Try.prog 7 #[v] w (WorkP code w) := by
  go_enter Try.func7, Try.ntmps7
  go_wp2_with fail
  obtain ⟨W, hW, Z0, B0, hz⟩ : ∃ W, W = (w.alloc (.cells #[.int .i64 0, .int .i64 0, .int .i64 0, .int .i64 0, .slice none 0 0] 26)) ∧
      BoxAt w.heap.size ⟨0, 0, 0, 0, []⟩ (.slice none 0 0) W ∧ Below w.heap.size w W ∧ W.heap.size = w.heap.size + 1 := by
    refine ⟨_, rfl, ?_, ?_, by simp⟩
    · exact BoxAt.new' 26 ⟨0, 0, 0, 0, []⟩ (.slice none 0 0) w rfl
    · exact (Below.refl _ _).alloc (Nat.le_refl _) _
  rw [← hW]
  have HW := Lib.hid hW
  clear hW
  refine (new_any v code W hs ((h.below B0).more B0.size)).mono ?_
  rintro e w1 ⟨g, rfl, hg, k1, b1⟩
  have hgz : g = w.heap.size + 1 := by omega
  have HZ := Lib.hid hgz
  clear hgz hg
  have Y0 := Z0.below b1
  have C1 := Chg.of_below [g] (bnext B0 b1)
  have g1 : w.heap.size + 1 ≤ g := by rw [HZ.out]; omega
  clear Z0 B0 hz b1
  go_wp2_with fail
  refine (drawPlan_any g v code _ w1 k1).mono ?_
  rintro e w2 ⟨u1, rfl, o2, k2, c2⟩
  have X0 := Y0.chg c2 (by simp; omega)
  have C2 := C1.trans c2
  have l2 : g < w1.heap.size := k1.box.lt
  have l3 := c2.size
  have hok := curPlan_ok code (curNew code)
  have HT := manyOk_tasks (planFault_zero.1 hok).1
  have hD : ∀ W e, (∃ u u', e = Ending.returned (.tuple #[planV (curPlan code (curNew code)).1 u, u', .int .i64 (1 + (curBelow code 4 (curWeights code (curPlan code (curNew code)).1.tasks.toNat (curPlan code (curNew code)).2).2).1)]) ∧ Ow edgeE 52 W w.heap.size u (curPlan code (curNew code)).1.edges ∧ Ow intE 3 W w.heap.size u' (curWeights code (curPlan code (curNew code)).1.tasks.toNat (curPlan code (curNew code)).2).1 ∧ Below w.heap.size w W) → WorkP code w e W := fun _ _ h => h
  have HD := Lib.hid hD
  clear hD hok
  generalize curPlan code (curNew code) = P1 at *
  obtain ⟨A1, e1, rfl, -⟩ := id (Rd.of_own o2)
  have ha : Below w2.heap.size w2 (w2.alloc (.cells #[.int .i64 P1.1.prio, .int .i64 P1.1.most, .int .i64 P1.1.wait, .int .i64 P1.1.tasks, .slice A1 P1.1.edges.length e1] 26)) := (Below.refl _ _).alloc (Nat.le_refl _) _
  have P2 := BoxAt.new' 26 P1.1 (.slice A1 P1.1.edges.length e1) w2 rfl
  have V0 := X0.below ha
  have C3 := C2.belowNew ha
  have o3 := o2.below ha
  have k3 := k2.below ha
  have hpb : g < w2.heap.size := k2.box.lt
  obtain ⟨pb, hpb2⟩ : ∃ pb, pb = w2.heap.size := ⟨_, rfl⟩
  go_wp2_with fail
  rw [← hpb2] at P2 hpb ⊢
  have l4 : w1.heap.size ≤ pb := by omega
  clear X0 C2 o2 k2 Y0 C1 k1 c2 hpb2 l3
  generalize (w2.alloc (.cells #[.int .i64 P1.1.prio, .int .i64 P1.1.most, .int .i64 P1.1.wait, .int .i64 P1.1.tasks, .slice A1 P1.1.edges.length e1] 26)) = w3 at *
  obtain ⟨x0, x1, x2, x3, x4, xs⟩ := V0.cells
  obtain ⟨y0, y1, y2, y3, y4, ys⟩ := P2.cells
  have xf := V0.free
  have hne : ¬ pb = w.heap.size := by omega
  go_region_held3 (fun w' => w'.cell? ⟨pb, 0, none⟩ = some (.int .i64 P1.1.prio) ∧ w'.cell? ⟨pb, 1, none⟩ = some (.int .i64 P1.1.most) ∧ w'.cell? ⟨pb, 2, none⟩ = some (.int .i64 P1.1.wait) ∧ w'.cell? ⟨pb, 3, none⟩ = some (.int .i64 P1.1.tasks) ∧ w'.cell? ⟨pb, 4, none⟩ = some (.slice A1 P1.1.edges.length e1)) (first | (refine ⟨?_, ?_, ?_, ?_, ?_⟩ <;> (rw [setBox_cell _ _ _ _ _ hne]; assumption)) | go_keep)
    (first
      | (go_at_call 47; (with_reducible refine (weights_any g v code P1.2 P1.1 _ _ HT (k3.below (Below.refl _ _).drew)).mono ?_); rintro e w4 ⟨u4, rfl, o4, k4, c4⟩; have P4 := (P2.below (Below.refl _ _).drew).chg c4 (by simp; omega); obtain ⟨Y0, Y1, Y2, Y3, Y4, Ys⟩ := P4.cells)
      | (go_at_call 48; (with_reducible refine (below_any 4 g v code _ _ (by omega) k4).mono ?_); rintro e w5 ⟨rfl, k5, c5⟩; have P5 := P4.chg c5 (by simp; omega); obtain ⟨q0, q1, q2, q3, q4, qs⟩ := P5.cells; have V5 := ((V0.below (Below.refl _ _).drew).chg c4 (by simp; omega)).chg c5 (by simp; omega); obtain ⟨v0, v1, v2, v3, v4, vs⟩ := V5.cells; have vf := V5.free))
  go_wp2
  refine bodyPost_ret (v := .tuple #[planV P1.1 (.slice A1 P1.1.edges.length e1), u4, .int .i64 (1 + (curBelow code 4 (curWeights code P1.1.tasks.toNat P1.2).2).1)]) ?_ rfl (HD.out _ _ ⟨_, _, rfl, Ow.more (base := w1.heap.size) ?_ (by omega), Ow.more (base := w3.heap.size) ?_ (by omega), ?_⟩)
  · have hb4 := curBelow_bd code (n := 4) (curWeights code P1.1.tasks.toNat P1.2).2 (by omega)
    have hw4 : IntKind.i64.wrap (1 + (curBelow code 4 (curWeights code P1.1.tasks.toNat P1.2).2).1) = 1 + (curBelow code 4 (curWeights code P1.1.tasks.toNat P1.2).2).1 := IntWalk.i64_in _ (by omega)
    simp [planV, results, Try.results7, go_sem, *]
  · have o5 := ((o3.below (Below.refl _ _).drew).chg c4 l2).chg c5 l2
    repeat (first | (with_reducible exact o5) | refine Ow.setLow ?_ (by show w.heap.size < _; omega) _)
  · have l5 : g < w3.heap.size := k3.box.lt
    have o5 : Ow intE 3 w5 w3.heap.size u4 (curWeights code P1.1.tasks.toNat P1.2).1 := o4.chg c5 l5
    repeat (first | (with_reducible exact o5) | refine Ow.setLow ?_ (by show w.heap.size < _; have := xs; omega) _)
  · have hB : Below w.heap.size w w5 := (((C3.belowNew (Below.refl _ _).drew).trans c4).trans c5).below (Nat.le_refl _) (fun x hx => by simp at hx; omega)
    repeat (first | (with_reducible exact hB) | refine Below.setCell ?_ (by simp <;> omega) _)
end Go.Proofs.Ytnaicippgocdfaa
end
section
namespace Go.Proofs.Ytnaicippgocdfaa
open Go.RowKit
set_option maxRecDepth 100000
set_option maxHeartbeats 1000000
set_option linter.unusedVariables false

theorem Way.mono {es es' : List (Nat × Nat)} (hs : ∀ e ∈ es, e ∈ es') {a b : Nat} {l : List Nat} (h : Pg.Way es a l b) : Pg.Way es' a l b := by
  induction h with
  | nil a => exact .nil a
  | cons h1 _ ih => exact .cons (hs _ h1) ih
theorem Reach.mono {es es' : List (Nat × Nat)} (hs : ∀ e ∈ es, e ∈ es') {a b : Nat} (h : Pg.Reach es a b) : Pg.Reach es' a b := by
  obtain ⟨l, hl, hw⟩ := h
  exact ⟨l, hl, Way.mono hs hw⟩
theorem Way.flip {es es' : List (Nat × Nat)} (hs : ∀ e ∈ es, (e.2, e.1) ∈ es') {a b : Nat} {l : List Nat} (h : Pg.Way es a l b) : l ≠ [] → Pg.Reach es' b a := by
  induction h with
  | nil a => intro h; exact absurd rfl h
  | @cons a c b l h1 h2 ih =>
    intro _
    by_cases hl : l = []
    · subst hl
      cases h2
      exact Pg.Reach.one (hs _ h1)
    · exact Pg.Reach.snoc (ih hl) (hs _ h1)
theorem Reach.flip {es es' : List (Nat × Nat)} (hs : ∀ e ∈ es, (e.2, e.1) ∈ es') {a b : Nat} (h : Pg.Reach es a b) : Pg.Reach es' b a := by
  obtain ⟨l, hl, hw⟩ := h
  exact Way.flip hs hw hl
theorem mem_esOf {p : Plan} {x : Nat × Nat} : x ∈ esOf p ↔ ∃ e ∈ p.edges, x = (e.fr.toNat, e.to.toNat) := by
  simp only [esOf, esL, List.mem_map]
  constructor
  · rintro ⟨e, he, rfl⟩; exact ⟨e, he, rfl⟩
  · rintro ⟨e, he, rfl⟩; exact ⟨e, he, rfl⟩

/-! turned round -/
theorem rev_eq {p : Plan} (hf : planFault p = 0) : reversed p = { p with edges := p.edges.map flipE } := by unfold reversed; rw [if_pos hf]
theorem flipE_inj {a b : Edge} (h : flipE a = flipE b) : a = b := by
  cases a; cases b
  simp only [flipE, Edge.mk.injEq] at h
  rw [h.1, h.2]
theorem rev_es {p : Plan} (hf : planFault p = 0) {x y : Nat} : (x, y) ∈ esOf (reversed p) ↔ (y, x) ∈ esOf p := by
  rw [mem_esOf, mem_esOf, rev_eq hf]
  constructor
  · rintro ⟨e, he, hx⟩
    obtain ⟨e0, he0, rfl⟩ := List.mem_map.1 he
    simp only [flipE, Prod.mk.injEq] at hx
    exact ⟨e0, he0, by rw [hx.1, hx.2]⟩
  · rintro ⟨e, he, hx⟩
    simp only [Prod.mk.injEq] at hx
    exact ⟨flipE e, List.mem_map.2 ⟨e, he, rfl⟩, by simp only [flipE]; rw [hx.1, hx.2]⟩
theorem nodup_map_flip : ∀ {l : List Edge}, l.Nodup → (l.map flipE).Nodup
  | [], _ => by simp
  | e :: l, h => by
    rw [List.nodup_cons] at h
    rw [List.map_cons, List.nodup_cons]
    refine ⟨fun hm => ?_, nodup_map_flip h.2⟩
    obtain ⟨x, hx, he⟩ := List.mem_map.1 hm
    rw [flipE_inj he] at hx
    exact h.1 hx
theorem rev_fault {p : Plan} (hf : planFault p = 0) : planFault (reversed p) = 0 := by
  obtain ⟨h1, h2, h3, h4⟩ := planFault_zero.1 hf
  refine planFault_zero.2 ⟨?_, ?_, ?_, ?_⟩
  · rw [rev_eq hf]
    simpa [manyOk] using h1
  · rw [rev_eq hf]
    intro e he
    obtain ⟨e0, he0, rfl⟩ := List.mem_map.1 he
    have := h2 e0 he0
    simp only [edgeIn, flipE, Bool.and_eq_true] at this ⊢
    exact ⟨this.2, this.1⟩
  · rw [rev_eq hf]
    exact nodup_map_flip h3
  · rintro ⟨t, ht, hr⟩
    refine h4 ⟨t, by rw [rev_eq hf] at ht; exact ht, Reach.flip (fun e he => ?_) hr⟩
    exact (rev_es hf).1 he
theorem rev_tasks {p : Plan} (hf : planFault p = 0) : (reversed p).tasks = p.tasks := by rw [rev_eq hf]
theorem rev_rev {p : Plan} (hf : planFault p = 0) : reversed (reversed p) = p := by
  rw [rev_eq (rev_fault hf), rev_eq hf]
  simp only [List.map_map]
  have : (flipE ∘ flipE) = id := by
    funext e
    rfl
  rw [this, List.map_id]
theorem rev_sources {p : Plan} (hf : planFault p = 0) : sourcesOf (reversed p) = sinksOf p := by
  unfold sourcesOf sinksOf
  rw [if_pos (rev_fault hf), if_pos hf, rev_tasks hf]
  congr 1
  funext t
  unfold beforeL behindL
  apply List.filter_congr
  intro s _
  exact decide_eq_decide.2 (rev_es hf)
theorem rev_sinks {p : Plan} (hf : planFault p = 0) : sinksOf (reversed p) = sourcesOf p := by
  unfold sourcesOf sinksOf
  rw [if_pos (rev_fault hf), if_pos hf, rev_tasks hf]
  congr 1
  funext t
  unfold beforeL behindL
  apply List.filter_congr
  intro s _
  exact decide_eq_decide.2 (rev_es hf)

/-! ones -/
def onesL (p : Plan) : List Int := List.replicate p.tasks.toNat 1
theorem ones_getD {n t : Nat} (h : t < n) : (List.replicate n (1 : Int)).getD t 0 = 1 := by
  rw [List.getD_eq_getElem?_getD, List.getElem?_replicate, if_pos h]; rfl
theorem ones_ok {p : Plan} (hf : planFault p = 0) : weightsOk p (onesL p) = true := by
  have hT := manyOk_tasks (planFault_zero.1 hf).1
  unfold weightsOk onesL
  simp only [Bool.and_eq_true, decide_eq_true_eq, List.all_eq_true, List.length_replicate]
  refine ⟨⟨hf, by omega⟩, fun x hx => ?_⟩
  rw [(List.mem_replicate.1 hx).2]
  decide
/-- the earliest rises along a way -/
theorem reach_up {p : Plan} (hf : planFault p = 0) {a b : Nat} (h : Pg.Reach (esOf p) a b) : (earliestOf p (onesL p)).getD a 0 < (earliestOf p (onesL p)).getD b 0 := by
  have ht := times_of (ones_ok hf)
  have hl := esOf_lt (planFault_zero.1 hf).2.1
  obtain ⟨l, hne, hw⟩ := h
  induction hw with
  | nil a => exact absurd rfl hne
  | @cons a c b l h1 h2 ih =>
    have h3 := ht.ele _ h1
    have h4 : (onesL p).getD a 0 = 1 := ones_getD (hl.1 _ h1)
    simp only at h3
    by_cases hl0 : l = []
    · subst hl0
      cases h2
      omega
    · have := ih hl0
      omega
/-! reduced -/
theorem red_eq {p : Plan} (hf : planFault p = 0) : reduced p = { p with edges := p.edges.filter fun e => !redUpto p e p.tasks.toNat } := by unfold reduced; rw [if_pos hf]
theorem red_tasks {p : Plan} (hf : planFault p = 0) : (reduced p).tasks = p.tasks := by rw [red_eq hf]
theorem red_mem {p : Plan} (hf : planFault p = 0) {e : Edge} : e ∈ (reduced p).edges ↔ e ∈ p.edges ∧ redUpto p e p.tasks.toNat = false := by
  rw [red_eq hf]
  simp
theorem red_len {p : Plan} (hf : planFault p = 0) : (reduced p).edges.length ≤ p.edges.length := by
  rw [red_eq hf]
  exact List.length_filter_le _ _
theorem red_sub {p : Plan} (hf : planFault p = 0) : ∀ x ∈ esOf (reduced p), x ∈ esOf p := by
  intro x hx
  rw [mem_esOf] at hx ⊢
  obtain ⟨e, he, rfl⟩ := hx
  exact ⟨e, ((red_mem hf).1 he).1, rfl⟩
theorem reachB_is {p : Plan} (hf : planFault p = 0) {a b : Int} (ha : 0 ≤ a ∧ a < p.tasks) (hb : 0 ≤ b ∧ b < p.tasks) : reachB p a b = true ↔ Pg.Reach (esOf p) a.toNat b.toNat := by
  have h1 : isTaskB p a = true := by
    unfold isTaskB
    simp only [Bool.and_eq_true, decide_eq_true_eq, inB_iff]
    exact ⟨hf, by omega⟩
  have h2 : isTaskB p b = true := by
    unfold isTaskB
    simp only [Bool.and_eq_true, decide_eq_true_eq, inB_iff]
    exact ⟨hf, by omega⟩
  unfold reachB
  rw [h1, h2]
  simp
theorem redUpto_iff {p : Plan} (hf : planFault p = 0) {e : Edge} (he : e ∈ p.edges) : redUpto p e p.tasks.toNat = true ↔ ∃ k, Pg.Reach (esOf p) e.fr.toNat k ∧ Pg.Reach (esOf p) k e.to.toNat := by
  have hin := (planFault_zero.1 hf).2.1 e he
  simp only [edgeIn, Bool.and_eq_true, inB_iff] at hin
  have hl := esOf_lt (planFault_zero.1 hf).2.1
  have hT := manyOk_tasks (planFault_zero.1 hf).1
  unfold redUpto
  rw [List.any_eq_true]
  constructor
  · rintro ⟨k, hk, hb⟩
    rw [List.mem_range] at hk
    rw [Bool.and_eq_true, reachB_is hf (by omega) (by omega), reachB_is hf (by omega) (by omega)] at hb
    exact ⟨k, by simpa using hb⟩
  · rintro ⟨k, h1, h2⟩
    have hk : k < p.tasks.toNat := by
      obtain ⟨l, hne, hw⟩ := h2
      cases hw with
      | nil => exact absurd rfl hne
      | cons h3 _ => exact hl.1 _ h3
    refine ⟨k, List.mem_range.2 hk, ?_⟩
    rw [Bool.and_eq_true, reachB_is hf (by omega) (by omega), reachB_is hf (by omega) (by omega)]
    simpa using ⟨h1, h2⟩
theorem red_reach {p : Plan} (hf : planFault p = 0) : ∀ (n : Nat) (a b : Nat), Pg.Reach (esOf p) a b → ((earliestOf p (onesL p)).getD b 0 - (earliestOf p (onesL p)).getD a 0).toNat ≤ n → Pg.Reach (esOf (reduced p)) a b
  | 0, a, b, h, hn => by
    have := reach_up hf h
    omega
  | n + 1, a, b, h, hn => by
    by_cases hk : ∃ k, Pg.Reach (esOf p) a k ∧ Pg.Reach (esOf p) k b
    · obtain ⟨k, h1, h2⟩ := hk
      have e1 := reach_up hf h1
      have e2 := reach_up hf h2
      exact Pg.Reach.trans (red_reach hf n a k h1 (by omega)) (red_reach hf n k b h2 (by omega))
    · obtain ⟨l, hne, hw⟩ := h
      cases hw with
      | nil => exact absurd rfl hne
      | @cons _ c _ l h1 h2 =>
        by_cases hl : l = []
        · subst hl
          cases h2
          obtain ⟨e, he, hx⟩ := mem_esOf.1 h1
          simp only [Prod.mk.injEq] at hx
          refine Pg.Reach.one (mem_esOf.2 ⟨e, (red_mem hf).2 ⟨he, ?_⟩, by rw [hx.1, hx.2]⟩)
          rw [← Bool.not_eq_true, redUpto_iff hf he, ← hx.1, ← hx.2]
          exact hk
        · exact absurd ⟨c, Pg.Reach.one h1, l, hl, h2⟩ hk
theorem red_reach_iff {p : Plan} (hf : planFault p = 0) {a b : Nat} : Pg.Reach (esOf p) a b ↔ Pg.Reach (esOf (reduced p)) a b :=
  ⟨fun h => red_reach hf _ a b h (Nat.le_refl _), Reach.mono (red_sub hf)⟩
theorem red_fault {p : Plan} (hf : planFault p = 0) : planFault (reduced p) = 0 := by
  obtain ⟨h1, h2, h3, h4⟩ := planFault_zero.1 hf
  refine planFault_zero.2 ⟨?_, fun e he => ?_, ?_, ?_⟩
  · have hl := red_len hf
    rw [red_eq hf] at hl ⊢
    simp only [manyOk, Bool.and_eq_true, decide_eq_true_eq] at h1 ⊢
    simp only at hl
    exact ⟨⟨⟨⟨h1.1.1.1.1, by omega⟩, h1.1.1.2⟩, h1.1.2⟩, h1.2⟩
  · rw [red_tasks hf]
    exact h2 e ((red_mem hf).1 he).1
  · rw [red_eq hf]
    exact h3.filter _
  · rintro ⟨t, ht, hr⟩
    exact h4 ⟨t, by rw [red_tasks hf] at ht; exact ht, (red_reach_iff hf).2 hr⟩
theorem red_same {p : Plan} (hf : planFault p = 0) : sameOrder p (reduced p) = true := by
  simp only [sameOrder, decide_eq_true_eq]
  exact ⟨hf, red_fault hf, (red_tasks hf).symm, fun a b _ _ => red_reach_iff hf⟩
theorem red_red {p : Plan} (hf : planFault p = 0) : reduced (reduced p) = reduced p := by
  have h : (reduced p).edges.filter (fun e => !redUpto (reduced p) e (reduced p).tasks.toNat) = (reduced p).edges := by
    rw [List.filter_eq_self]
    intro e he
    rw [Bool.not_eq_true', ← Bool.not_eq_true, redUpto_iff (red_fault hf) he]
    rintro ⟨k, h1, h2⟩
    have h3 := ((red_mem hf).1 he)
    have h4 := (redUpto_iff hf h3.1).2 ⟨k, (red_reach_iff hf).2 h1, (red_reach_iff hf).2 h2⟩
    rw [h3.2] at h4
    exact absurd h4 (by simp)
  rw [red_eq (red_fault hf), h]

/-! one plan beside or behind another one -/
structure EarF (es : List (Nat × Nat)) (T : Nat) (l : List Int) (E : Nat → Int) : Prop where
  nn : ∀ t, t < T → 0 ≤ E t
  le : ∀ e ∈ es, E e.1 + l.getD e.1 0 ≤ E e.2
  eq : ∀ t, t < T → E t = 0 ∨ ∃ a, (a, t) ∈ es ∧ E t = E a + l.getD a 0
theorem EarF.unique_le {es : List (Nat × Nat)} {T : Nat} {l : List Int} {ord : List Nat} (hI : OrderInv es T T ord) {E F : Nat → Int} (hE : EarF es T l E) (hF : EarF es T l F) : ∀ n i (hi : i < ord.length), i < n → E ord[i] ≤ F ord[i]
  | 0, _, _, h => absurd h (by omega)
  | n + 1, i, hi, hn => by
    have ht := hI.lt _ (List.getElem_mem hi)
    rcases hE.eq _ ht with h0 | ⟨a, ha, h0⟩
    · have := hF.nn _ ht
      omega
    · have h1 := hF.le _ ha
      have h2 := hI.closed i hi a ha
      obtain ⟨j, hj, he⟩ := List.getElem_of_mem h2
      rw [List.length_take] at hj
      rw [List.getElem_take] at he
      have h3 := EarF.unique_le hI hE hF n j (by omega) (by omega)
      rw [he] at h3
      simp only at h1
      omega
theorem EarF.unique {es : List (Nat × Nat)} {T : Nat} {l : List Int} {ord : List Nat} (hI : OrderInv es T T ord) {E F : Nat → Int} (hE : EarF es T l E) (hF : EarF es T l F) {t : Nat} (ht : t < T) : E t = F t := by
  obtain ⟨i, hi, rfl⟩ := List.getElem_of_mem (order_all hI ht)
  have h1 := EarF.unique_le hI hE hF (i + 1) i hi (by omega)
  have h2 := EarF.unique_le hI hF hE (i + 1) i hi (by omega)
  omega
theorem Times.earF {es : List (Nat × Nat)} {T : Nat} {l E D : List Int} {L : Int} (h : Times es T l E D L) : EarF es T l (fun t => E.getD t 0) :=
  ⟨fun t _ => h.enn t, h.ele, h.eeq⟩
theorem join_tasks (p q : Plan) (m : List Edge) : (joinP p q m).tasks = p.tasks + q.tasks := rfl
theorem join_es {p q : Plan} (hf : planFault p = 0) (hg : planFault q = 0) (m : List Edge) {x : Nat × Nat} : x ∈ esOf (joinP p q m) ↔ x ∈ esOf p ∨ (∃ y ∈ esOf q, x = (y.1 + p.tasks.toNat, y.2 + p.tasks.toNat)) ∨ x ∈ esL m := by
  have hT := manyOk_tasks (planFault_zero.1 hf).1
  have hq := (planFault_zero.1 hg).2.1
  have e : (joinP p q m).edges = (p.edges ++ q.edges.map (shiftE p.tasks)) ++ m := by
    simp [joinP, joinL]
  unfold esOf
  rw [e]
  simp only [esL, List.map_append, List.mem_append, List.map_map]
  rw [or_assoc]
  refine or_congr Iff.rfl (or_congr ?_ Iff.rfl)
  simp only [List.mem_map, Function.comp]
  constructor
  · rintro ⟨a, ha, rfl⟩
    have := hq a ha
    simp only [edgeIn, Bool.and_eq_true, inB_iff] at this
    refine ⟨_, ⟨a, ha, rfl⟩, ?_⟩
    simp only [shiftE, Prod.mk.injEq]
    omega
  · rintro ⟨y, ⟨a, ha, rfl⟩, rfl⟩
    have := hq a ha
    simp only [edgeIn, Bool.and_eq_true, inB_iff] at this
    refine ⟨a, ha, ?_⟩
    simp only [shiftE, Prod.mk.injEq]
    omega
theorem mem_cross {t : Int} (ht : 0 ≤ t) {A B : List Nat} {x : Nat × Nat} : x ∈ esL (crossL t A B) ↔ ∃ a ∈ A, ∃ b ∈ B, x = (a, b + t.toNat) := by
  simp only [esL, crossL, crossRow, List.mem_map, List.mem_flatMap]
  constructor
  · rintro ⟨e, ⟨a, ha, b, hb, rfl⟩, rfl⟩
    refine ⟨a, ha, b, hb, ?_⟩
    simp only [crossE, Prod.mk.injEq]
    omega
  · rintro ⟨a, ha, b, hb, rfl⟩
    refine ⟨crossE t a b, ⟨a, ha, b, hb, rfl⟩, ?_⟩
    simp only [crossE, Prod.mk.injEq]
    omega
theorem mem_sinks {p : Plan} (hf : planFault p = 0) {t : Nat} : t ∈ sinksOf p ↔ t < p.tasks.toNat ∧ ∀ s, (t, s) ∉ esOf p := by
  have hl := esOf_lt (planFault_zero.1 hf).2.1
  unfold sinksOf
  rw [if_pos hf]
  unfold endsL
  rw [List.mem_filter, List.mem_range, List.isEmpty_iff, List.eq_nil_iff_forall_not_mem]
  refine and_congr Iff.rfl (forall_congr' fun s => ?_)
  rw [behindL_iff hl.2]
theorem mem_sources {p : Plan} (hf : planFault p = 0) {t : Nat} : t ∈ sourcesOf p ↔ t < p.tasks.toNat ∧ ∀ s, (s, t) ∉ esOf p := by
  have hl := esOf_lt (planFault_zero.1 hf).2.1
  unfold sourcesOf
  rw [if_pos hf]
  unfold endsL
  rw [List.mem_filter, List.mem_range, List.isEmpty_iff, List.eq_nil_iff_forall_not_mem]
  refine and_congr Iff.rfl (forall_congr' fun s => ?_)
  rw [beforeL_iff hl.1]

theorem behind_long {p q : Plan} (hf : planFault p = 0) (hg : planFault q = 0) (hj : planFault (joinP p q (moreL p q)) = 0) :
    longestOf (joinP p q (moreL p q)) (onesL (joinP p q (moreL p q))) = longestOf p (onesL p) + longestOf q (onesL q) := by
  have tp := times_of (ones_ok hf)
  have tq := times_of (ones_ok hg)
  have tj := times_of (ones_ok hj)
  have hT := manyOk_tasks (planFault_zero.1 hf).1
  have hU := manyOk_tasks (planFault_zero.1 hg).1
  have lp := esOf_lt (planFault_zero.1 hf).2.1
  have lq := esOf_lt (planFault_zero.1 hg).2.1
  have hes : ∀ {x : Nat × Nat}, x ∈ esOf (joinP p q (moreL p q)) ↔ x ∈ esOf p ∨ (∃ y ∈ esOf q, x = (y.1 + p.tasks.toNat, y.2 + p.tasks.toNat)) ∨ ∃ a ∈ sinksOf p, ∃ b ∈ sourcesOf q, x = (a, b + p.tasks.toNat) := by
    intro x
    rw [join_es hf hg]
    unfold moreL
    rw [mem_cross (by omega)]
  have hJ : (joinP p q (moreL p q)).tasks.toNat = p.tasks.toNat + q.tasks.toNat := by rw [join_tasks]; omega
  have o1 : ∀ t, t < p.tasks.toNat → (onesL p).getD t 0 = 1 := fun t h => ones_getD h
  have o2 : ∀ t, t < q.tasks.toNat → (onesL q).getD t 0 = 1 := fun t h => ones_getD h
  have o3 : ∀ t, t < p.tasks.toNat + q.tasks.toNat → (onesL (joinP p q (moreL p q))).getD t 0 = 1 := fun t h => ones_getD (by rw [hJ]; exact h)
  have hI := orderOf_inv hj
  rw [hJ] at hI tj
  generalize longestOf p (onesL p) = x at *
  generalize longestOf q (onesL q) = y at *
  generalize earliestOf p (onesL p) = Ep at *
  generalize earliestOf q (onesL q) = Eq at *
  generalize longestOf (joinP p q (moreL p q)) (onesL (joinP p q (moreL p q))) = z at *
  generalize earliestOf (joinP p q (moreL p q)) (onesL (joinP p q (moreL p q))) = Ej at *
  -- the last of p is a sink
  obtain ⟨s, hs, hsx⟩ := tp.emax
  rw [o1 s hs] at hsx
  have hsink : s ∈ sinksOf p := (mem_sinks hf).2 ⟨hs, fun b hb => by
    have h1 := tp.ele _ hb
    have h2 := tp.elong b (lp.2 _ hb)
    rw [o1 b (lp.2 _ hb)] at h2
    simp only [o1 s hs] at h1
    omega⟩
  have hF : EarF (esOf (joinP p q (moreL p q))) (p.tasks.toNat + q.tasks.toNat) (onesL (joinP p q (moreL p q))) (fun t => if t < p.tasks.toNat then Ep.getD t 0 else x + Eq.getD (t - p.tasks.toNat) 0) := by
    have hx0 : 0 ≤ x := by have := tp.enn s; omega
    refine ⟨fun t ht => ?_, fun e he => ?_, fun t ht => ?_⟩
    · have h1 := tp.enn t
      have h2 := tq.enn (t - p.tasks.toNat)
      split <;> omega
    · rcases hes.1 he with h | ⟨y, hy, rfl⟩ | ⟨a, ha, b, hb, rfl⟩
      · have h1 := lp.1 _ h
        have h2 := lp.2 _ h
        have h3 := tp.ele _ h
        rw [o1 _ h1] at h3
        simp only [if_pos h1, if_pos h2]
        rw [o3 _ (by omega)]
        exact h3
      · have h1 := lq.1 _ hy
        have h2 := lq.2 _ hy
        have h3 := tq.ele _ hy
        rw [o2 _ h1] at h3
        simp only [if_neg (show ¬ y.1 + p.tasks.toNat < p.tasks.toNat by omega), if_neg (show ¬ y.2 + p.tasks.toNat < p.tasks.toNat by omega), Nat.add_sub_cancel]
        rw [o3 _ (by omega)]
        omega
      · have h1 := ((mem_sinks hf).1 ha).1
        have h2 := ((mem_sources hg).1 hb).1
        have h3 := tp.elong a h1
        rw [o1 _ h1] at h3
        have h4 := tq.enn b
        simp only [if_pos h1, if_neg (show ¬ b + p.tasks.toNat < p.tasks.toNat by omega), Nat.add_sub_cancel]
        rw [o3 _ (by omega)]
        omega
    · by_cases hlt : t < p.tasks.toNat
      · simp only [if_pos hlt]
        rcases tp.eeq t hlt with h | ⟨a, ha, h⟩
        · exact .inl h
        · have h1 := lp.1 _ ha
          rw [o1 _ h1] at h
          refine .inr ⟨a, hes.2 (.inl ha), ?_⟩
          rw [if_pos h1, o3 _ (by omega)]
          exact h
      · simp only [if_neg hlt]
        rcases tq.eeq (t - p.tasks.toNat) (by omega) with h | ⟨a, ha, h⟩
        · have hsrc : t - p.tasks.toNat ∈ sourcesOf q := (mem_sources hg).2 ⟨by omega, fun b hb => by
            have h1 := tq.ele _ hb
            have h2 := tq.enn b
            have h3 := o2 b (lq.1 _ hb)
            simp only [h3] at h1
            omega⟩
          refine .inr ⟨s, hes.2 (.inr (.inr ⟨s, hsink, _, hsrc, by congr 1; omega⟩)), ?_⟩
          rw [if_pos hs, o3 _ (by omega), h]
          omega
        · have h1 := lq.1 _ ha
          rw [o2 _ h1] at h
          refine .inr ⟨a + p.tasks.toNat, hes.2 (.inr (.inl ⟨_, ha, by simp only [Prod.mk.injEq, true_and]; omega⟩)), ?_⟩
          rw [if_neg (by omega), o3 _ (by omega), Nat.add_sub_cancel]
          omega
  have hu : ∀ t, t < p.tasks.toNat + q.tasks.toNat → Ej.getD t 0 = if t < p.tasks.toNat then Ep.getD t 0 else x + Eq.getD (t - p.tasks.toNat) 0 := fun t ht => EarF.unique hI tj.earF hF ht
  obtain ⟨m, hm, hmy⟩ := tq.emax
  rw [o2 m hm] at hmy
  have h1 := tj.elong (m + p.tasks.toNat) (by omega)
  rw [hu _ (by omega), o3 _ (by omega), if_neg (by omega), Nat.add_sub_cancel] at h1
  obtain ⟨t, ht, hz⟩ := tj.emax
  rw [hu _ ht, o3 _ ht] at hz
  have hm0 := tq.enn m
  by_cases hlt : t < p.tasks.toNat
  · rw [if_pos hlt] at hz
    have h2 := tp.elong t hlt
    rw [o1 _ hlt] at h2
    omega
  · rw [if_neg hlt] at hz
    have h2 := tq.elong (t - p.tasks.toNat) (by omega)
    rw [o2 _ (by omega)] at h2
    omega
theorem beside_long {p q : Plan} (hf : planFault p = 0) (hg : planFault q = 0) (hj : planFault (joinP p q []) = 0) :
    longestOf (joinP p q []) (onesL (joinP p q [])) = max (longestOf p (onesL p)) (longestOf q (onesL q)) := by
  have tp := times_of (ones_ok hf)
  have tq := times_of (ones_ok hg)
  have tj := times_of (ones_ok hj)
  have hT := manyOk_tasks (planFault_zero.1 hf).1
  have hU := manyOk_tasks (planFault_zero.1 hg).1
  have lp := esOf_lt (planFault_zero.1 hf).2.1
  have lq := esOf_lt (planFault_zero.1 hg).2.1
  have hes : ∀ {x : Nat × Nat}, x ∈ esOf (joinP p q []) ↔ x ∈ esOf p ∨ (∃ y ∈ esOf q, x = (y.1 + p.tasks.toNat, y.2 + p.tasks.toNat)) := by
    intro x
    rw [join_es hf hg]
    simp [esL]
  have hJ : (joinP p q []).tasks.toNat = p.tasks.toNat + q.tasks.toNat := by rw [join_tasks]; omega
  have o1 : ∀ t, t < p.tasks.toNat → (onesL p).getD t 0 = 1 := fun t h => ones_getD h
  have o2 : ∀ t, t < q.tasks.toNat → (onesL q).getD t 0 = 1 := fun t h => ones_getD h
  have o3 : ∀ t, t < p.tasks.toNat + q.tasks.toNat → (onesL (joinP p q [])).getD t 0 = 1 := fun t h => ones_getD (by rw [hJ]; exact h)
  have hI := orderOf_inv hj
  rw [hJ] at hI tj
  generalize longestOf p (onesL p) = x at *
  generalize longestOf q (onesL q) = y at *
  generalize earliestOf p (onesL p) = Ep at *
  generalize earliestOf q (onesL q) = Eq at *
  generalize longestOf (joinP p q []) (onesL (joinP p q [])) = z at *
  generalize earliestOf (joinP p q []) (onesL (joinP p q [])) = Ej at *
  have hF : EarF (esOf (joinP p q [])) (p.tasks.toNat + q.tasks.toNat) (onesL (joinP p q [])) (fun t => if t < p.tasks.toNat then Ep.getD t 0 else Eq.getD (t - p.tasks.toNat) 0) := by
    refine ⟨fun t ht => ?_, fun e he => ?_, fun t ht => ?_⟩
    · have h1 := tp.enn t
      have h2 := tq.enn (t - p.tasks.toNat)
      split <;> omega
    · rcases hes.1 he with h | ⟨y, hy, rfl⟩
      · have h1 := lp.1 _ h
        have h2 := lp.2 _ h
        have h3 := tp.ele _ h
        rw [o1 _ h1] at h3
        simp only [if_pos h1, if_pos h2]
        rw [o3 _ (by omega)]
        exact h3
      · have h1 := lq.1 _ hy
        have h2 := lq.2 _ hy
        have h3 := tq.ele _ hy
        rw [o2 _ h1] at h3
        simp only [if_neg (show ¬ y.1 + p.tasks.toNat < p.tasks.toNat by omega), if_neg (show ¬ y.2 + p.tasks.toNat < p.tasks.toNat by omega), Nat.add_sub_cancel]
        rw [o3 _ (by omega)]
        omega
    · by_cases hlt : t < p.tasks.toNat
      · simp only [if_pos hlt]
        rcases tp.eeq t hlt with h | ⟨a, ha, h⟩
        · exact .inl h
        · have h1 := lp.1 _ ha
          rw [o1 _ h1] at h
          refine .inr ⟨a, hes.2 (.inl ha), ?_⟩
          rw [if_pos h1, o3 _ (by omega)]
          exact h
      · simp only [if_neg hlt]
        rcases tq.eeq (t - p.tasks.toNat) (by omega) with h | ⟨a, ha, h⟩
        · exact .inl h
        · have h1 := lq.1 _ ha
          rw [o2 _ h1] at h
          refine .inr ⟨a + p.tasks.toNat, hes.2 (.inr ⟨_, ha, by simp only [Prod.mk.injEq, true_and]; omega⟩), ?_⟩
          rw [if_neg (by omega), o3 _ (by omega), Nat.add_sub_cancel]
          omega
  have hu : ∀ t, t < p.tasks.toNat + q.tasks.toNat → Ej.getD t 0 = if t < p.tasks.toNat then Ep.getD t 0 else Eq.getD (t - p.tasks.toNat) 0 := fun t ht => EarF.unique hI tj.earF hF ht
  obtain ⟨s, hs, hsx⟩ := tp.emax
  rw [o1 s hs] at hsx
  obtain ⟨m, hm, hmy⟩ := tq.emax
  rw [o2 m hm] at hmy
  have h1 := tj.elong (m + p.tasks.toNat) (by omega)
  rw [hu _ (by omega), o3 _ (by omega), if_neg (by omega), Nat.add_sub_cancel] at h1
  have h0 := tj.elong s (by omega)
  rw [hu _ (by omega), o3 _ (by omega), if_pos hs] at h0
  obtain ⟨t, ht, hz⟩ := tj.emax
  rw [hu _ ht, o3 _ ht] at hz
  by_cases hlt : t < p.tasks.toNat
  · rw [if_pos hlt] at hz
    have h2 := tp.elong t hlt
    rw [o1 _ hlt] at h2
    omega
  · rw [if_neg hlt] at hz
    have h2 := tq.elong (t - p.tasks.toNat) (by omega)
    rw [o2 _ (by omega)] at h2
    omega
/-- two single tasks, one behind the other -/
theorem behind_reach {p q : Plan} (hf : planFault p = 0) (hg : planFault q = 0) (hj : planFault (joinP p q (moreL p q)) = 0) (h1 : p.tasks = 1) (h2 : q.tasks = 1) : reachB (joinP p q (moreL p q)) 0 ((joinP p q (moreL p q)).tasks - 1) = true := by
  have hJ : (joinP p q (moreL p q)).tasks = 2 := by rw [join_tasks]; omega
  have lp := esOf_lt (planFault_zero.1 hf).2.1
  have lq := esOf_lt (planFault_zero.1 hg).2.1
  have np : ∀ a b, (a, b) ∉ esOf p := fun a b h => by
    have e1 := lp.1 _ h
    have e2 := lp.2 _ h
    refine (planFault_zero.1 hf).2.2.2 ⟨a, e1, ?_⟩
    have : a = b := by simp only at e1 e2; omega
    subst this
    exact Pg.Reach.one h
  have nq : ∀ a b, (a, b) ∉ esOf q := fun a b h => by
    have e1 := lq.1 _ h
    have e2 := lq.2 _ h
    refine (planFault_zero.1 hg).2.2.2 ⟨a, e1, ?_⟩
    have : a = b := by simp only at e1 e2; omega
    subst this
    exact Pg.Reach.one h
  rw [reachB_is hj (by omega) (by omega), hJ]
  refine Pg.Reach.one ((join_es hf hg _).2 (.inr (.inr ?_)))
  unfold moreL
  rw [mem_cross (by omega)]
  exact ⟨0, (mem_sinks hf).2 ⟨by omega, fun s => np _ _⟩, 0, (mem_sources hg).2 ⟨by omega, fun s => nq _ _⟩, by rw [h1]; rfl⟩
end Go.Proofs.Ytnaicippgocdfaa
end
