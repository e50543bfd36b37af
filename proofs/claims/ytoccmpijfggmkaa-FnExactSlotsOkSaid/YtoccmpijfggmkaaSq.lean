/-
  SlotsOk of the program.
-/
import Derived.Test.YtoccmpijfggmkaaSd
import Derived.Test.YtoccmpijfggmkaaLe
import Derived.Test.YtoccmpijfggmkaaPh
import Derived.Test.YtoccmpijfggmkaaBx
import Derived.Test.YtoccmpijfggmkaaIn
namespace Go.Proofs.Ytoccmpijfggmkaa
open Go.RowKit
set_option maxRecDepth 100000
set_option maxHeartbeats 2000000

/-- block b is the variable of the slot x -/
structure SlotAt (b : Nat) (x : Slot) (w : World) : Prop where
  cells : w.cell? ⟨b, 0, none⟩ = some (.int .i64 x.task) ∧ w.cell? ⟨b, 1, none⟩ = some (.int .i64 x.worker) ∧ w.cell? ⟨b, 2, none⟩ = some (.int .i64 x.fr) ∧ w.cell? ⟨b, 3, none⟩ = some (.int .i64 x.to) ∧ b < w.heap.size
theorem SlotAt.new (T : TypeId) (x : Slot) (w : World) : SlotAt w.heap.size x (w.alloc (.cells #[.int .i64 x.task, .int .i64 x.worker, .int .i64 x.fr, .int .i64 x.to] T)) := by
  refine ⟨?_, ?_, ?_, ?_, by simp⟩
  all_goals simp [go_sem]
theorem SlotAt.below {b : Nat} {x : Slot} {w w' : World} (h : SlotAt b x w) (hb : Below w.heap.size w w') : SlotAt b x w' := by
  obtain ⟨h0, h1, h2, h3, h4⟩ := h.cells
  exact ⟨(hb.cell (p := ⟨b, 0, none⟩) h4).trans h0, (hb.cell (p := ⟨b, 1, none⟩) h4).trans h1, (hb.cell (p := ⟨b, 2, none⟩) h4).trans h2, (hb.cell (p := ⟨b, 3, none⟩) h4).trans h3, Nat.lt_of_lt_of_le h4 hb.size⟩

theorem metN_snoc : ∀ (s : List Slot) (x : Slot), metN (s ++ [x]) = metN s ||| 1 <<< x.task.toNat
  | [], x => by simp [metN]
  | y :: s, x => by
    rw [List.cons_append, metN, metN, metN_snoc s x, Nat.or_assoc, Nat.or_assoc, Nat.or_comm (1 <<< x.task.toNat)]

theorem implSlotsOk_any (p : Plan) (ve v : Value) (l : List Int) (many : Int) (u : Value) (s : List Slot) (w : World) (hl : p.edges.length ≤ 2000000) (hl2 : l.length ≤ 2000000) (hl3 : s.length ≤ 2000000)
    (h : Rd edgeE w w.heap.size ve p.edges) (h2 : Rd intE w w.heap.size v l) (h3 : Rd slotE w w.heap.size u s) :
    Calls Try.prog 56 #[planV p ve, v, .int .i64 many, u] w fun e w' => e = .returned (.bool (slotsOk p l many s)) ∧ Below w.heap.size w w' := by
  obtain ⟨A, c, rfl, -⟩ := id h2
  obtain ⟨A3, cp3, rfl, -⟩ := id h3
  have hb0 := planBox_below 47 p ve w
  have D0 := BoxAt.new 47 p ve w
  cases hf : weightsOk p l
  · have H := Lib.hid (slotsOk_no (p := p) (l := l) (many := many) (s := s) (fun x => by have := x.1; rw [hf] at this; cases this))
    have HF := Lib.hid hf
    clear hf
    unfold planV
    go_enter Try.func56, Try.ntmps56
    go_wp2_with fail
    refine (implWeightsOk_any p ve (.slice A l.length c) l _ hl hl2 ((h.below hb0).more hb0.size) ((h2.below hb0).more hb0.size)).mono ?_
    rintro e w1 ⟨rfl, hb1⟩
    rw [HF.out]
    go_wp2
    go_ret
    exact ⟨ret_bool H.out.symm, bnext hb0 hb1⟩
  cases hm : inB many 1 8
  · have H := Lib.hid (slotsOk_no (p := p) (l := l) (many := many) (s := s) (fun x => by have := x.2.1; rw [hm] at this; cases this))
    have HF := Lib.hid hf
    clear hf
    unfold planV
    go_enter Try.func56, Try.ntmps56
    go_wp2_with fail
    refine (implWeightsOk_any p ve (.slice A l.length c) l _ hl hl2 ((h.below hb0).more hb0.size) ((h2.below hb0).more hb0.size)).mono ?_
    rintro e w1 ⟨rfl, hb1⟩
    rw [HF.out]
    have hb := bnext hb0 hb1
    go_wp2_with (go_at_call 114; refine (within_any _ _ _ _).mono ?_; rintro e w' ⟨rfl, rfl⟩)
    go_ret
    exact ⟨ret_bool H.out.symm, hb⟩
  by_cases hn : (s.length : Int) = p.tasks
  case neg =>
    have H := Lib.hid (slotsOk_no (p := p) (l := l) (many := many) (s := s) (fun x => hn x.2.2.1))
    have hnb : ((s.length : Int) != p.tasks) = true := by simpa using hn
    have HF := Lib.hid hf
    clear hf hn
    unfold planV
    go_enter Try.func56, Try.ntmps56
    go_wp2_with fail
    refine (implWeightsOk_any p ve (.slice A l.length c) l _ hl hl2 ((h.below hb0).more hb0.size) ((h2.below hb0).more hb0.size)).mono ?_
    rintro e w1 ⟨rfl, hb1⟩
    rw [HF.out]
    have hb := bnext hb0 hb1
    have D := D0.below hb1
    obtain ⟨x0, x1, x2, x3, x4, xs⟩ := D.cells
    go_wp2_with (go_at_call 114; refine (within_any _ _ _ _).mono ?_; rintro e w' ⟨rfl, rfl⟩)
    go_ret
    exact ⟨ret_bool H.out.symm, hb⟩
  obtain ⟨g1, g2, g3⟩ := weightsOk_all hf
  have G := Lib.hid (planFault_zero.1 g1)
  obtain ⟨t1, t2⟩ := manyOk_tasks G.out.1
  obtain ⟨T, hT⟩ := Int.eq_ofNat_of_zero_le (show 0 ≤ p.tasks by omega)
  have HT := Lib.hid hT
  have hT12 : T ≤ 12 := by omega
  have hlT : l.length = T := by omega
  have hsT : s.length = T := by omega
  have hnb : ((s.length : Int) != p.tasks) = false := by simpa using hn
  have HF := Lib.hid hf
  have HG3 := Lib.hid g3
  have HN := Lib.hid hn
  have HM := Lib.hid (inB_iff.1 hm)
  obtain ⟨m1, m2⟩ := inB_iff.1 hm
  have hP : SlotsFit p l many s ↔ slsOk p.tasks l many s s.length ∧ edOk p s p.edges.length := ⟨fun x => x.2.2.2, fun x => ⟨hf, hm, hn, x⟩⟩
  have HP := Lib.hid hP
  obtain ⟨j0, hj0, jz0, jz1, jz2⟩ := info_parts slot_info
  have hmk : ∀ w : World, (Instr.makeSlice 25 (.int .i64 p.tasks) (.int .i64 p.tasks)).run Try.prog w = .ok (.slice (some ⟨w.heap.size, 0, none⟩) T T) (w.alloc (.cells (madeCells #[.int .i64 0, .int .i64 0, .int .i64 0, .int .i64 0] (T * 4)) 62)) := by
    intro w
    have := run_make (P := Try.prog) w 25 62 j0 _ Try.underlying25 hj0 jz0 .i64 .i64 T T (by omega) (by omega) (by rw [jz2]; omega) (by omega)
    rw [jz1] at this
    rw [hT]
    simpa [slotV, Value.cells] using this
  have HL := Lib.hid hlT
  have HS := Lib.hid hsT
  have hw63 : IntKind.i64.wrap (p.tasks - 1) = p.tasks - 1 := IntWalk.i64_in _ (by omega)
  have hm63 : IntKind.i64.wrap (many - 1) = many - 1 := IntWalk.i64_in _ (by omega)
  clear hf g1 g2 g3 hT hlT hsT hn hP
  unfold planV
  go_enter Try.func56, Try.ntmps56
  go_wp2_with fail
  refine (implWeightsOk_any p ve (.slice A l.length c) l _ hl hl2 ((h.below hb0).more hb0.size) ((h2.below hb0).more hb0.size)).mono ?_
  rintro e w1 ⟨rfl, hb1⟩
  rw [HF.out]
  have hb := bnext hb0 hb1
  have D := D0.below hb1
  have hw01 := D.lt
  clear hb0 hb1 D0
  obtain ⟨x0, x1, x2, x3, x4, xs⟩ := D.cells
  go_wp2_with (go_at_call 114; refine (within_any _ _ _ _).mono ?_; rintro e w' ⟨rfl, rfl⟩)
  have O0 := Ow.made slotE 62 w1 ⟨0, 0, 0, 0⟩ T (by decide) (by simp [maxLen]; omega) (z := #[.int .i64 0, .int .i64 0, .int .i64 0, .int .i64 0]) rfl (m := T * 4) rfl
  rw [← slotTab_nil] at O0
  have c1 : Below w1.heap.size w1 (w1.alloc (.cells (madeCells #[.int .i64 0, .int .i64 0, .int .i64 0, .int .i64 0] (T * 4)) 62)) := (Below.refl _ _).alloc (Nat.le_refl _) _
  have D := D.below c1
  have hb := bnext hb c1
  clear x0 x1 x2 x3 x4 xs c1
  go_loopw [10, 38] (fun mt i wr => ∃ k : Nat, k ≤ s.length ∧ i = .int .i64 k ∧ mt = .int .i64 (metN (s.take k)) ∧ Hid (slsOk p.tasks l many s k) ∧
    Ow slotE 62 wr w1.heap.size (.slice (some ⟨w1.heap.size, 0, none⟩) T T) (slotTab T (s.take k)) ∧ BoxAt w.heap.size p ve wr ∧ Below w.heap.size w wr) (fun _ i _ => s.length - (intOf i).toNat)
  case atStart => exact ⟨0, Nat.zero_le _, rfl, rfl, slsOk_zero _ _ _ _, O0, D, hb⟩
  case round =>
    clear O0 D hb
    obtain ⟨k, hk, rfl, rfl, hok, O, D, hb⟩ := hrel
    by_cases hlt : k < s.length
    · obtain ⟨b3, o3, rfl, hbb3, c0, c1, c2, c3⟩ := (h3.below hb).slot hlt
      obtain ⟨x0, x1, x2, x3, x4, xs⟩ := D.cells
      go_wp2
      obtain ⟨wr0, rfl⟩ : ∃ wr0 : World, wr0 = wr := ⟨_, rfl⟩
      have ha : Below wr0.heap.size wr0 (wr0.alloc (.cells #[.int .i64 s[k].task, .int .i64 s[k].worker, .int .i64 s[k].fr, .int .i64 s[k].to] 62)) := (Below.refl _ _).alloc (Nat.le_refl _) _
      have S2 := SlotAt.new 62 s[k] wr0
      have O := O.below ha
      have D := D.below ha
      have hb := bnext hb ha
      have bad : slotOk1 p.tasks l many (s.take k) s[k] = false → Hid (slotsOk p l many s = false) := fun h => slsOk_bad hlt h
      have hmet := metN_bit (s.take k)
      have htab := Lib.hid (fun t => slotTab_snoc (T := T) hlt (t := t))
      have hmn := Lib.hid (show metN (s.take (k + 1)) = metN (s.take k) ||| 1 <<< s[k].task.toNat by rw [take_snoc s k hlt, metN_snoc])
      have hnx := Lib.hid (fun h => slsOk_next (T := p.tasks) (l := l) (many := many) hok.out hlt h)
      have hlr := ha.size
      generalize hsk : s[k] = x at *
      obtain ⟨xt, xw, xf, xo⟩ := x
      simp only at S2 hmn htab ha c0 c1 c2 c3
      clear c0 c1 c2 c3 x0 x1 x2 x3 x4 xs
      obtain ⟨x0, x1, x2, x3, x4, xs⟩ := D.cells
      obtain ⟨y0, y1, y2, y3, ys⟩ := S2.cells
      simp only at y0 y1 y2 y3
      generalize wr0.alloc (.cells #[.int .i64 xt, .int .i64 xw, .int .i64 xf, .int .i64 xo] 62) = W2 at *
      cases g1 : inB xt 0 (p.tasks - 1)
      · have H := bad (by simp [slotOk1, g1])
        clear bad
        have hlc := later_cell W2
        refine wp_region_pure (by kernel_rfl) (by kernel_rfl) ?_
        repeat (go_big_quiet_step ((go_at_call 114; exact pure_same (fun u => within_any _ _ _ u.1))))
        refine wpQuiet_nil ?_
        rintro _ ⟨⟨w4, hb4⟩, rfl⟩
        clear hlc
        go_wp2
        go_ret
        exact ⟨ret_bool H.out.symm, bnext hb hb4⟩
      obtain ⟨q1, q2⟩ := inB_iff.1 g1
      obtain ⟨t, rfl⟩ := Int.eq_ofNat_of_zero_le q1
      have ht : t < T := by have := HT.out; omega
      have htl : t < l.length := by rw [HL.out]; exact ht
      obtain ⟨b2, o2, rfl, hbb2, d0⟩ := (h2.below hb).int htl
      have htlI : (t : Int) < (l.length : Int) := by omega
      have hbb2' : b2 < W2.heap.size := Nat.lt_of_lt_of_le hbb2 hb.size
      obtain ⟨w1', w2'⟩ := HG3.out l[t] (List.getElem_mem _)
      have hgd : l.getD t 0 = l[t] := getD_at htl 0
      have htk : ∀ y ∈ s.take k, 0 ≤ y.task ∧ y.task.toNat < T := fun y hy => by
        obtain ⟨j, hj, rfl⟩ := List.mem_take_iff_getElem.1 hy
        have h1 := (slotOk1_parts (hok.out j (by omega) (by omega))).1
        have h2 := HT.out
        omega
      have hml : metN (s.take k) < 4096 := Nat.lt_of_lt_of_le (metN_lt _ T fun y hy => (htk y hy).2) (Nat.le_trans (Nat.pow_le_pow_right (by omega) hT12) (by decide))
      have hbt := bit_test (metN (s.take k)) t (by omega)
      have hmet := hmet t (fun y hy => (htk y hy).1)
      have hHid := Lib.hid htk
      clear htk
      generalize l[t] = lt at *
      have Hgd := Lib.hid hgd
      clear hgd
      have htT : (t : Int) < (T : Int) := by omega
      cases g2 : (metN (s.take k)).testBit t
      case true =>
        rw [g2] at hbt hmet
        have Hmet := Lib.hid hmet
        clear hmet g2
        have H := bad (by simp only [slotOk1]; rw [← Hmet.out]; simp)
        clear bad
        have hlc := later_cell W2
        refine wp_region_pure (by kernel_rfl) (by kernel_rfl) ?_
        repeat (go_big_quiet_step ((go_at_call 114; exact pure_same (fun u => within_any _ _ _ u.1))))
        refine wpQuiet_nil ?_
        rintro _ ⟨⟨w4, hb4⟩, rfl⟩
        clear hlc
        go_wp2
        go_ret
        exact ⟨ret_bool H.out.symm, bnext hb hb4⟩
      rw [g2] at hbt hmet
      have Hmet := Lib.hid hmet
      clear hmet g2
      cases g3 : inB xf 0 1000000000
      · have H := bad (by simp [slotOk1, g3])
        clear bad
        have hlc := later_cell W2
        refine wp_region_pure (by kernel_rfl) (by kernel_rfl) ?_
        repeat (go_big_quiet_step ((go_at_call 114; exact pure_same (fun u => within_any _ _ _ u.1))))
        refine wpQuiet_nil ?_
        rintro _ ⟨⟨w4, hb4⟩, rfl⟩
        clear hlc
        go_wp2
        go_ret
        exact ⟨ret_bool H.out.symm, bnext hb hb4⟩
      obtain ⟨r1, r2⟩ := inB_iff.1 g3
      have hsum : IntKind.i64.wrap (xf + lt) = xf + lt := IntWalk.i64_in _ (by omega)
      cases g4 : (xo != xf + lt)
      case true =>
        have G4 := Lib.hid g4
        have H := bad (by simp only [slotOk1, Int.toNat_natCast]; rw [Hgd.out]; have := G4.out; simp at this; simp [this])
        clear bad
        have hlc := later_cell W2
        refine wp_region_pure (by kernel_rfl) (by kernel_rfl) ?_
        repeat (go_big_quiet_step ((go_at_call 114; exact pure_same (fun u => within_any _ _ _ u.1))))
        refine wpQuiet_nil ?_
        rintro _ ⟨⟨w4, hb4⟩, rfl⟩
        clear hlc
        go_wp2
        go_ret
        exact ⟨ret_bool H.out.symm, bnext hb hb4⟩
      cases g5 : inB xw 0 (many - 1)
      · have H := bad (by simp [slotOk1, g5])
        clear bad
        have hlc := later_cell W2
        refine wp_region_pure (by kernel_rfl) (by kernel_rfl) ?_
        repeat (go_big_quiet_step ((go_at_call 114; exact pure_same (fun u => within_any _ _ _ u.1))))
        refine wpQuiet_nil ?_
        rintro _ ⟨⟨w4, hb4⟩, rfl⟩
        clear hlc
        go_wp2
        go_ret
        exact ⟨ret_bool H.out.symm, bnext hb hb4⟩
      have G4 := Lib.hid (show xo = xf + lt by simpa using g4)
      have G1 := Lib.hid g1
      have G3 := Lib.hid g3
      have G5 := Lib.hid g5
      have S2 := S2
      have hlc := later_cell W2
      refine wp_region_pure (by kernel_rfl) (by kernel_rfl) ?_
      repeat (go_big_quiet_step ((go_at_call 114; exact pure_same (fun u => within_any _ _ _ u.1))))
      refine wpQuiet_nil ?_
      rintro _ ⟨⟨w4, hb4⟩, rfl⟩
      clear hlc
      have hb := bnext hb hb4
      have D := D.below hb4
      have O := O.below hb4
      have S2 := S2.below hb4
      clear g1 g3 g4 g5 hsum hbt d0 x0 x1 x2 x3 x4 xs y0 y1 y2 y3 ys
      have hkc : (k : Int) ≤ (cp3 : Int) := by have := h3.cap; omega
      have hcp0 : ¬ cp3 = 0 := by have := h3.cap; omega
      have Bad := Lib.hid bad
      clear bad
      go_wp2
      go_loopw [89] (fun i wr => ∃ j : Nat, j ≤ k ∧ i = .int .i64 j ∧ Hid (∀ n (hn : n < s.length), n < j → clash ⟨(t : Int), xw, xf, xo⟩ s[n] = false) ∧ SlotAt wr0.heap.size ⟨(t : Int), xw, xf, xo⟩ wr ∧
        Ow slotE 62 wr w1.heap.size (.slice (some ⟨w1.heap.size, 0, none⟩) T T) (slotTab T (s.take k)) ∧ BoxAt w.heap.size p ve wr ∧ Below w.heap.size w wr) (fun i _ => k - (intOf i).toNat)
      case atStart => exact ⟨0, Nat.zero_le _, rfl, fun n _ hn => absurd hn (by omega), S2, O, D, hb⟩
      case round =>
        clear S2 O D hb hb4 ha
        obtain ⟨j, hj, rfl, hcl, S2, O, D, hb⟩ := hrel
        obtain ⟨y0, y1, y2, y3, ys⟩ := S2.cells
        simp only at y0 y1 y2 y3
        by_cases hjk : j < k
        · have hjs : j < s.length := by omega
          obtain ⟨b5, o5, he5, hbb5, e0, e1, e2, e3⟩ := (h3.below hb).slot hjs
          simp only [Option.some.injEq, Addr.mk.injEq, and_true] at he5
          obtain ⟨rfl, rfl⟩ := he5
          have hjI : (j : Int) < (k : Int) := by omega
          have hjsI : (j : Int) < (s.length : Int) := by omega
          have ha5 : Below wr.heap.size wr (wr.alloc (.cells #[.int .i64 s[j].task, .int .i64 s[j].worker, .int .i64 s[j].fr, .int .i64 s[j].to] 62)) := (Below.refl _ _).alloc (Nat.le_refl _) _
          have S' : clash ⟨(t : Int), xw, xf, xo⟩ s[j] = false → Hid (∀ n (hn : n < s.length), n < j + 1 → clash ⟨(t : Int), xw, xf, xo⟩ s[n] = false) := by
            intro hh n hn hnj
            by_cases e : n = j
            · subst e; exact hh
            · exact hcl.out n hn (by omega)
          have D := Lib.hid D
          have O := Lib.hid O
          have HA5 := Lib.hid ha5
          have HB := Lib.hid hb
          have HS2 := Lib.hid S2
          clear ha5
          cases u1 : (xw == s[j].worker)
          · have S' := S' (by simp [clash, u1])
            go_wp2
            exact ⟨⟨j + 1, by omega, by go_num, S', HS2.out.below HA5.out, O.out.below HA5.out, D.out.below HA5.out, bnext HB.out HA5.out⟩, by simp [intOf]; omega⟩
          cases u2 : decide (xf < s[j].to)
          · have S' := S' (by simp [clash, u2])
            go_wp2
            exact ⟨⟨j + 1, by omega, by go_num, S', HS2.out.below HA5.out, O.out.below HA5.out, D.out.below HA5.out, bnext HB.out HA5.out⟩, by simp [intOf]; omega⟩
          cases u3 : decide (s[j].fr < xo)
          · have S' := S' (by simp [clash, u3])
            go_wp2
            exact ⟨⟨j + 1, by omega, by go_num, S', HS2.out.below HA5.out, O.out.below HA5.out, D.out.below HA5.out, bnext HB.out HA5.out⟩, by simp [intOf]; omega⟩
          have H := Bad.out (by
            cases hq : slotOk1 p.tasks l many (s.take k) ⟨(t : Int), xw, xf, xo⟩
            · rfl
            · have := (slotOk1_parts hq).2.2.2.2.2 s[j] (List.mem_take_iff_getElem.2 ⟨j, by omega, rfl⟩)
              simp [clash, u1, u2, u3] at this)
          clear S'
          go_wp2
          go_ret
          exact ⟨ret_bool H.out.symm, bnext HB.out HA5.out⟩
        · have hjI : ¬ (j : Int) < (k : Int) := by omega
          have hsh := shl_one t (by omega)
          have h12 : 1 <<< t < 4096 := by rw [Nat.shiftLeft_eq, Nat.one_mul]; exact Nat.lt_of_lt_of_le (Nat.pow_lt_pow_right (by omega) ht) (Nat.le_trans (Nat.pow_le_pow_right (by omega) hT12) (by decide))
          have Hor := Lib.hid (or_i64 (metN (s.take k)) (1 <<< t) (by omega) (by omega))
          have hmn' := hmn.out
          simp only [Int.toNat_natCast] at hmn'
          have Hmn := Lib.hid hmn'
          clear hmn'
          have Hno : Hid (∀ y ∈ s.take k, y.task ≠ (t : Int)) := by
            have := Hmet.out
            intro y hy he
            have h1 := List.any_eq_false.1 this.symm y hy
            simp [he] at h1
          have Htb := Lib.hid (htab.out t rfl Hno.out)
          have Hok := Lib.hid (hnx.out (slotOk1_mk (by simp only; have := inB_iff.1 G1.out; omega) Hno.out (inB_iff.1 G3.out) (by simp only [Int.toNat_natCast]; rw [Hgd.out]; exact G4.out) (inB_iff.1 G5.out) (fun o ho => by
            obtain ⟨n, hn, rfl⟩ := List.mem_take_iff_getElem.1 ho
            exact hcl.out n (by omega) (by omega))))
          have hlen : (slotTab T (s.take k)).length = T := slotTab_len _ _
          have hfz := O.free
          obtain ⟨z0, z1, z2, z3⟩ := O.slot (k := t) (by rw [hlen]; exact ht)
          have hp := Ow.put O hlen t ht ⟨(t : Int), xw, xf, xo⟩
          have hp1 := Lib.hid hp.1
          have hp2 := Lib.hid hp.2
          clear hp
          have HD := Lib.hid D
          have HB := Lib.hid hb
          clear hcl D O
          have hsI : (t : Int) < (T : Int) := by omega
          go_wp2
          refine ⟨⟨k + 1, by omega, by go_num, ?_, Hok.out, ?_, HD.out.far hp2.out (by simp; omega), HB.out.grown hp2.out HB.out.size (fun g hg => by simp at hg; omega)⟩, by simp [intOf]; omega⟩
          · rw [Hmn.out, ← Hor.out]; simp
          · rw [Htb.out]; exact hp1.out
    · have hk' : k = s.length := by omega
      have hltI : ¬ (k : Int) < (s.length : Int) := by omega
      rw [List.take_of_length_le (by omega)] at O
      have Hok := Lib.hid (show slsOk p.tasks l many s s.length from hk' ▸ hok.out)
      clear hok hk'
      obtain ⟨Ae, ce, hve, -⟩ := id h
      subst hve
      obtain ⟨x0, x1, x2, x3, x4, xs⟩ := D.cells
      obtain ⟨wo, rfl⟩ : ∃ wo : World, wo = wr := ⟨_, rfl⟩
      go_wp2
      clear x0 x1 x2 x3 x4 xs
      go_loopw [127] (fun i wr => ∃ j : Nat, j ≤ p.edges.length ∧ i = .int .i64 j ∧ Hid (edOk p s j) ∧ Ow slotE 62 wr w1.heap.size (.slice (some ⟨w1.heap.size, 0, none⟩) T T) (slotTab T s) ∧ Below w.heap.size w wr) (fun i _ => p.edges.length - (intOf i).toNat)
      case atStart => exact ⟨0, Nat.zero_le _, rfl, fun n _ hn => absurd hn (by omega), O, hb⟩
      case round =>
        clear O D hb
        obtain ⟨j, hj, rfl, hed, O, hb⟩ := hrel
        by_cases hjt : j < p.edges.length
        · obtain ⟨b4, o4, rfl, hbb4, e0, e1⟩ := (h.below hb).edge hjt
          obtain ⟨f1, f2, f3, f4⟩ := edgesIn_get G.out.2.1 hjt
          rw [HT.out] at f2 f4
          have ha5 : Below wr.heap.size wr (wr.alloc (.cells #[.int .i64 p.edges[j].fr, .int .i64 p.edges[j].to] 91)) := (Below.refl _ _).alloc (Nat.le_refl _) _
          have hnext : ¬ (taskSlot s p.edges[j].to).fr < (taskSlot s p.edges[j].fr).to → Hid (edOk p s (j + 1)) := by
            intro hh n hn hnj
            by_cases e : n = j
            · subst e; exact hh
            · exact hed.out n hn (by omega)
          have hbad : (taskSlot s p.edges[j].to).fr < (taskSlot s p.edges[j].fr).to → Hid (slotsOk p l many s = false) := fun hh => slotsOk_no fun x => (HP.out.1 x).2 j hjt hjt hh
          generalize p.edges[j].fr = fx at *
          generalize p.edges[j].to = tx at *
          obtain ⟨a, rfl⟩ := Int.eq_ofNat_of_zero_le f1
          obtain ⟨d, rfl⟩ := Int.eq_ofNat_of_zero_le f3
          have hjtI : (j : Int) < (p.edges.length : Int) := by omega
          have hlen : (slotTab T s).length = T := slotTab_len _ _
          obtain ⟨z0, z1, z2, z3⟩ := O.slot (k := a) (by rw [hlen]; omega)
          obtain ⟨v0, v1, v2, v3⟩ := O.slot (k := d) (by rw [hlen]; omega)
          have hblk := O.blk
          rw [slotTab_get] at z0 z1 z2 z3 v0 v1 v2 v3
          clear z0 z1 z2 v0 v1 v3
          have HO := Lib.hid O
          have HB := Lib.hid hb
          have HA5 := Lib.hid ha5
          clear O hb ha5
          generalize (taskSlot s (d : Int)).fr = fd at *
          generalize (taskSlot s (a : Int)).to = ta at *
          by_cases hlt2 : fd < ta
          · have H := hbad hlt2
            clear hbad hnext
            go_wp2
            go_quiet (fail)
            go_wp2
            go_ret
            exact ⟨ret_bool H.out.symm, bdrewN (bnext HB.out HA5.out) _⟩
          · have H := hnext hlt2
            clear hbad hnext
            go_wp2
            go_quiet (fail)
            go_wp2
            exact ⟨⟨j + 1, by omega, by go_num, H, (HO.out.below HA5.out).below (bdrewN (Below.refl _ _) _), bdrewN (bnext HB.out HA5.out) _⟩, by simp [intOf]; omega⟩
        · have hjtI : ¬ (j : Int) < (p.edges.length : Int) := by omega
          have hje : j = p.edges.length := by omega
          have H := Lib.hid (slotsOk_iff.2 (HP.out.2 ⟨Hok.out, hje ▸ hed.out⟩))
          clear hje
          go_wp2
          go_ret
          exact ⟨ret_bool H.out.symm, hb⟩
end Go.Proofs.Ytoccmpijfggmkaa
