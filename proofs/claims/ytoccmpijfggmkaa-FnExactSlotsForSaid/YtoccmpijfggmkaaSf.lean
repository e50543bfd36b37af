/-
  SlotsFor of both. Written by program (sf.py).
-/
import Derived.Test.YtoccmpijfggmkaaNx
import Derived.Test.YtoccmpijfggmkaaGr
import Derived.Test.YtoccmpijfggmkaaIn
import Derived.Test.YtoccmpijfggmkaaMk
namespace Go.Proofs.Ytoccmpijfggmkaa
open Go.RowKit
set_option maxRecDepth 100000
set_option maxHeartbeats 4000000

theorem schedOf_no {p : Plan} {l : List Int} {many : Int} (h : ¬ (weightsOk p l = true ∧ inB many 1 8 = true)) : schedOf p l many = [] := by unfold schedOf; rw [if_neg h]
theorem schedOf_yes {p : Plan} {l : List Int} {many : Int} (h : weightsOk p l = true ∧ inB many 1 8 = true) : schedOf p l many = sGo (esOf p) p.tasks.toNat l many.toNat 12001 0 (sStart p.tasks.toNat many.toNat) := by unfold schedOf; rw [if_pos h]; rfl
theorem nextI_succ {now : Int} {L : List Int} {k : Nat} (h : k < L.length) : nextI now (L.take (k + 1)) = if now < L[k] ∧ (nextI now (L.take k) = 0 ∨ L[k] < nextI now (L.take k)) then L[k] else nextI now (L.take k) := by
  unfold nextI
  rw [take_snoc L k h, List.foldl_append]
  rfl
theorem nextS_succ {now : Int} {L : List Int} {k : Nat} (h : k < L.length) : nextS now (L.take (k + 1)) = if now < L[k] ∧ (nextS now (L.take k) < 0 ∨ L[k] < nextS now (L.take k)) then L[k] else nextS now (L.take k) := by
  unfold nextS
  rw [take_snoc L k h, List.foldl_append]
  rfl
theorem fill_zero (T : Nat) : (List.replicate T (-1 : Int)).take 0 ++ List.replicate (T - 0) 0 = List.replicate T 0 := by simp
theorem fill_next {T k : Nat} (h : k < T) : ((List.replicate T (-1 : Int)).take k ++ List.replicate (T - k) 0).set k (-1) = (List.replicate T (-1 : Int)).take (k + 1) ++ List.replicate (T - (k + 1)) 0 := by
  have := mix_set (List.replicate T (-1 : Int)) 0 k (by simpa using h)
  simpa using this
theorem ap_of {v v' : Value} {a b n : Nat} (h : v'.ownBlock = v.ownBlock ∨ v'.ownBlock = some n) (ha : v.ownBlock ≠ some a ∧ v.ownBlock ≠ some b) (h1 : a < n) (h2 : b < n) : Hid (v'.ownBlock ≠ some a ∧ v'.ownBlock ≠ some b) := by
  rcases h with h | h
  · rw [h]; exact ha
  · rw [h]
    refine ⟨fun e => ?_, fun e => ?_⟩ <;> (injection e with e; omega)
theorem put1 (w : World) (g t : Nat) (x : Int) : wSeq w g (t * 1) (intE.cells x) = w.setCell ⟨g, t, none⟩ (.int .i64 x) := by simp [wSeq, intE]
theorem Ow.put1 {E : TypeId} {w : World} {base g cap n : Nat} {l : List Int} (h : Ow intE E w base (.slice (some ⟨g, 0, none⟩) n cap) l) (hn : l.length = n) (k : Nat) (hk : k < n) (x : Int) :
    Ow intE E (w.setCell ⟨g, k, none⟩ (.int .i64 x)) base (.slice (some ⟨g, 0, none⟩) n cap) (l.set k x) := by
  have := (Ow.put h hn k hk x).1
  rw [← Go.Proofs.Ytoccmpijfggmkaa.put1]
  exact this

theorem implSlotsFor_any (p : Plan) (ve v : Value) (l : List Int) (many : Int) (w : World) (hl : p.edges.length ≤ 2000000) (hl2 : l.length ≤ 2000000) (h : Rd edgeE w w.heap.size ve p.edges) (h2 : Rd intE w w.heap.size v l) :
    Calls Try.prog 54 #[planV p ve, v, .int .i64 many] w fun e w' => ∃ u, e = .returned u ∧ Ow slotE 62 w' w.heap.size u (schedOf p l many) ∧ Below w.heap.size w w' := by
  obtain ⟨A, c, rfl, -⟩ := id h2
  have hb0 := planBox_below 47 p ve w
  have D0 := BoxAt.new 47 p ve w
  cases hf : weightsOk p l
  · have H := Lib.hid (schedOf_no (p := p) (l := l) (many := many) (fun x => by rw [hf] at x; cases x.1))
    have HF := Lib.hid hf
    clear hf
    
    unfold planV
    go_enter Try.func54, Try.ntmps54
    go_wp2_with fail
    refine (implWeightsOk_any p ve (.slice A l.length c) l _ hl hl2 ((h.below hb0).more hb0.size) ((h2.below hb0).more hb0.size)).mono ?_
    rintro e w1 ⟨rfl, hb1⟩
    rw [HF.out]
    have hb := bnext hb0 hb1
    go_wp2
    go_ret
    exact ⟨_, rfl, by rw [H.out]; exact Ow.nil _ _ _ _, hb⟩
  cases hm : inB many 1 8
  · have H := Lib.hid (schedOf_no (p := p) (l := l) (many := many) (fun x => by rw [hm] at x; cases x.2))
    have HF := Lib.hid hf
    clear hf
    
    unfold planV
    go_enter Try.func54, Try.ntmps54
    go_wp2_with fail
    refine (implWeightsOk_any p ve (.slice A l.length c) l _ hl hl2 ((h.below hb0).more hb0.size) ((h2.below hb0).more hb0.size)).mono ?_
    rintro e w1 ⟨rfl, hb1⟩
    rw [HF.out]
    have hb := bnext hb0 hb1
    go_wp2_with (go_at_call 114; refine (within_any _ _ _ _).mono ?_; rintro e w' ⟨rfl, rfl⟩)
    go_ret
    exact ⟨_, rfl, by rw [H.out]; exact Ow.nil _ _ _ _, hb⟩
  have H := Lib.hid (schedOf_yes ⟨hf, hm⟩)
  have HO := Lib.hid (sOk_of hf hm)
  obtain ⟨g1, g2, g3⟩ := weightsOk_all hf
  have G := Lib.hid (planFault_zero.1 g1)
  have HP := Lib.hid g1
  obtain ⟨t1, t2⟩ := manyOk_tasks G.out.1
  obtain ⟨T, hT⟩ := Int.eq_ofNat_of_zero_le (show 0 ≤ p.tasks by omega)
  have HT := Lib.hid hT
  have HTn := Lib.hid (show p.tasks.toNat = T by omega)
  have hT12 : T ≤ 12 := by omega
  have hT1 : 1 ≤ T := by omega
  obtain ⟨m1, m2⟩ := inB_iff.1 hm
  obtain ⟨M, rfl⟩ := Int.eq_ofNat_of_zero_le (show 0 ≤ many by omega)
  rw [Int.toNat_natCast, HTn.out] at HO H
  have HF := Lib.hid hf
  have HL := Lib.hid (show l.length = T by omega)
  have HG3 := Lib.hid g3
  have HM := Lib.hid hm
  obtain ⟨j0, hj0, jz0, jz1, jz2⟩ := info_parts slot_info
  obtain ⟨i0, hi0, iz0, iz1, iz2⟩ := info_parts int_info
  have hmk : ∀ w : World, (Instr.makeSlice 50 (.int .i64 p.tasks) (.int .i64 p.tasks)).run Try.prog w = .ok (.slice (some ⟨w.heap.size, 0, none⟩) T T) (w.alloc (.cells (madeCells #[.int .i64 0] (T * 1)) 3)) := by
    intro w
    have := run_make (P := Try.prog) w 50 3 i0 _ Try.underlying50 hi0 iz0 .i64 .i64 T T (by omega) (by omega) (by rw [iz2]; omega) (by omega)
    rw [iz1] at this
    rw [hT]
    simpa [Value.cells] using this
  have hmk2 : ∀ w : World, (Instr.makeSlice 50 (.int .i64 (M : Int)) (.int .i64 (M : Int))).run Try.prog w = .ok (.slice (some ⟨w.heap.size, 0, none⟩) M M) (w.alloc (.cells (madeCells #[.int .i64 0] (M * 1)) 3)) := by
    intro w
    have := run_make (P := Try.prog) w 50 3 i0 _ Try.underlying50 hi0 iz0 .i64 .i64 M M (by omega) (by omega) (by rw [iz2]; omega) (by omega)
    rw [iz1] at this
    simpa [Value.cells] using this
  clear hf g1 g2 g3 hT
  
  unfold planV
  go_enter Try.func54, Try.ntmps54
  go_wp2_with fail
  refine (implWeightsOk_any p ve (.slice A l.length c) l _ hl hl2 ((h.below hb0).more hb0.size) ((h2.below hb0).more hb0.size)).mono ?_
  rintro e w1 ⟨rfl, hb1⟩
  rw [HF.out]
  have hb := bnext hb0 hb1
  have D := D0.below hb1
  have hw01 := D.lt
  clear hb0 hb1 D0
  obtain ⟨x0, x1, x2, x3, x4, xs⟩ := D.cells
  have c1 : Below w1.heap.size w1 (w1.alloc (.cells (madeCells #[.int .i64 0] T) 3)) := (Below.refl _ _).alloc (Nat.le_refl _) _
  have E0 := Ow.made intE 3 w1 0 T (by decide) (by simp [maxLen]; omega) (z := #[.int .i64 0]) rfl (m := T) (by simp [intE])
  rw [← fill_zero T] at E0
  have hs1 : (w1.alloc (.cells (madeCells #[.int .i64 0] T) 3)).heap.size = w1.heap.size + 1 := by simp
  have Hs1 := Lib.hid hs1
  clear hs1
  go_wp2_with (go_at_call 114; refine (within_any _ _ _ _).mono ?_; rintro e w' ⟨rfl, rfl⟩)
  have D := D.below c1
  have hb := bnext hb c1
  clear x0 x1 x2 x3 x4 xs c1 hm
  go_loopw [31] (fun i wr => ∃ k : Nat, k ≤ T ∧ i = .int .i64 k ∧ Ow intE 3 wr w1.heap.size (.slice (some ⟨w1.heap.size, 0, none⟩) T T) ((List.replicate T (-1 : Int)).take k ++ List.replicate (T - k) 0) ∧ BoxAt w.heap.size p ve wr ∧ Hid (w1.heap.size + 1 ≤ wr.heap.size) ∧ Below w.heap.size w wr) (fun i _ => T - (intOf i).toNat)
  case atStart => exact ⟨0, Nat.zero_le _, rfl, E0, D, by rw [Hs1.out]; exact Nat.le_refl _, hb⟩
  case round =>
    clear E0 D  hb
    obtain ⟨k, hk, rfl, E, D, hsz, hb⟩ := hrel
    obtain ⟨x0, x1, x2, x3, x4, xs⟩ := D.cells
    by_cases hlt : k < T
    · have hltI : (k : Int) < (T : Int) := by omega
      have hltP : (k : Int) < p.tasks := by rw [HT.out]; omega
      have hlen := Lib.hid (show ((List.replicate T (-1 : Int)).take k ++ List.replicate (T - k) 0).length = T by simp; omega)
      have cE := E.int (k := k) (by rw [hlen.out]; exact hlt)
      have hfz := E.free
      have hP := Lib.hid (E.put1 hlen.out k hlt (-1))
      rw [fill_next hlt] at hP
      have hsz2 := hsz.out
      go_wp2
      exact ⟨⟨k + 1, by omega, by go_num, hP.out, D.other (by simp; omega) _, by simpa [Hid, World.setCell] using hsz2, hb.setCell (by simp; omega) _⟩, by simp [intOf]; omega⟩
    have hltI : ¬ (k : Int) < (T : Int) := by omega
    have hltP : ¬ (k : Int) < p.tasks := by rw [HT.out]; omega
    have hk' : k = T := by omega
    have hfull : (List.replicate T (-1 : Int)).take k ++ List.replicate (T - k) 0 = List.replicate T (-1) := by rw [hk']; simp
    rw [hfull] at E
    clear hfull hk'
    obtain ⟨w2, rfl⟩ : ∃ w2 : World, w2 = wr := ⟨_, rfl⟩
    have c2 : Below w2.heap.size w2 (w2.alloc (.cells (madeCells #[.int .i64 0] M) 3)) := (Below.refl _ _).alloc (Nat.le_refl _) _
    have B0 := Ow.made intE 3 w2 0 M (by decide) (by simp [maxLen]; omega) (z := #[.int .i64 0]) rfl (m := M) (by simp [intE])
    have hs2 := Lib.hid (show (w2.alloc (.cells (madeCells #[.int .i64 0] M) 3)).heap.size = w2.heap.size + 1 by simp)
    have hgE := Lib.hid (show w1.heap.size < w2.heap.size by have := hsz.out; omega)
    go_wp2
    have D := D.below c2
    have hb := bnext hb c2
    have E0 := E.below c2
    have O0 := Ow.nil slotE 62 (w2.alloc (.cells (madeCells #[.int .i64 0] M) 3)) (w.heap.size + 1)
    have hap0 : Hid ((Value.slice none 0 0).ownBlock ≠ some w1.heap.size ∧ (Value.slice none 0 0).ownBlock ≠ some w2.heap.size) := ⟨by simp [Value.ownBlock], by simp [Value.ownBlock]⟩
    have I0 := Lib.hid (SInv.start HO.out)
    clear x0 x1 x2 x3 x4 xs c2 E hsz
    go_loopw [10, 11] (fun vo nw wr => ∃ (f : Nat) (now : Int) (st : Sst), Hid (SInv (esOf p) T l M now st) ∧ Hid (12000 - now < f) ∧ Hid (sGo (esOf p) T l M f now st = schedOf p l M) ∧ nw = .int .i64 now ∧ Ow slotE 62 wr (w.heap.size + 1) vo st.out ∧
      Ow intE 3 wr w1.heap.size (.slice (some ⟨w1.heap.size, 0, none⟩) T T) st.ends ∧ Ow intE 3 wr w2.heap.size (.slice (some ⟨w2.heap.size, 0, none⟩) M M) st.busy ∧ Hid (vo.ownBlock ≠ some w1.heap.size ∧ vo.ownBlock ≠ some w2.heap.size) ∧ BoxAt w.heap.size p ve wr ∧ Hid (w2.heap.size + 1 ≤ wr.heap.size) ∧ Below w.heap.size w wr) (fun _ nw _ => (12001 - intOf nw).toNat)
    case atStart => exact ⟨12001, 0, sStart T M, I0.out, (by simp [Hid]), H.out.symm, rfl, O0, E0, B0, hap0, D, by rw [hs2.out]; exact Nat.le_refl _, hb⟩
    case round =>
      clear O0 E0 B0 hap0 D hb I0
      obtain ⟨f, now, st, hI, hf, hgo, rfl, O, E, B, hap, D, hsz, hb⟩ := hrel
      obtain ⟨x0, x1, x2, x3, x4, xs⟩ := D.cells
      obtain ⟨Ao, co, rfl, -⟩ := id (Rd.of_own O)
      have hn0 := hI.out.now0
      by_cases hmore : st.out.length < T
      case neg =>
        have hmI : ¬ (st.out.length : Int) < p.tasks := by rw [HT.out]; omega
        have Hd := Lib.hid (sGo_done (es := esOf p) (l := l) (m := M) (now := now) (f := f) (show T ≤ st.out.length by omega))
        go_wp2
        go_ret
        exact ⟨_, rfl, by rw [← hgo.out, Hd.out]; exact O.more (by omega), hb⟩
      have hmI : (st.out.length : Int) < p.tasks := by rw [HT.out]; omega
      have hR := Lib.hid (hI.out.round HO.out hmore)
      have hpart := Lib.hid (hI.out.part HO.out)
      have hnL := Lib.hid (show now ≤ 12000 by have := hI.out.nowL; have := hI.out.short; omega)
      have hMore := Lib.hid hmore
      obtain ⟨wo, rfl⟩ : ∃ wo : World, wo = wr := ⟨_, rfl⟩
      go_wp2
      clear x0 x1 x2 x3 x4 xs
      go_loopw [10, 47] (fun vo i wr => ∃ k : Nat, k ≤ M ∧ i = .int .i64 k ∧ Ow slotE 62 wr (w.heap.size + 1) vo (sPart (esOf p) T l now st k).out ∧
        Ow intE 3 wr w1.heap.size (.slice (some ⟨w1.heap.size, 0, none⟩) T T) (sPart (esOf p) T l now st k).ends ∧ Ow intE 3 wr w2.heap.size (.slice (some ⟨w2.heap.size, 0, none⟩) M M) (sPart (esOf p) T l now st k).busy ∧ Hid (vo.ownBlock ≠ some w1.heap.size ∧ vo.ownBlock ≠ some w2.heap.size) ∧ BoxAt w.heap.size p ve wr ∧ Hid (w2.heap.size + 1 ≤ wr.heap.size) ∧ Below w.heap.size w wr) (fun _ i _ => M - (intOf i).toNat)
      case atStart => exact ⟨0, Nat.zero_le _, rfl, O, E, B, hap, D, hsz, hb⟩
      case round =>
        clear O E B hap D hsz hb
        obtain ⟨k, hk, rfl, O, E, B, hap, D, hsz, hb⟩ := hrel
        obtain ⟨x0, x1, x2, x3, x4, xs⟩ := D.cells
        have hIk := Lib.hid (hpart.out k hk)
        have hle := hIk.out.le
        have hlb := hIk.out.lb
        have Hle := Lib.hid hle
        have Hlb := Lib.hid hlb
        have hsz2 := hsz.out
        have hgE2 := hgE.out
        have sB := E.blk.2
        by_cases hlt : k < M
        · have hltI : (k : Int) < (M : Int) := by omega
          have hkM : k < (sPart (esOf p) T l now st k).busy.length := by omega
          go_wp2_with fail
          clear x0 x1 x2 x3 x4 xs hle hlb
          refine (implNext_any p ve _ (sPart (esOf p) T l now st k).ends now _ HP.out (by rw [HTn.out]; exact Hle.out) ((h.below hb).more hb.size) (Rd.of_own E)).mono ?_
          rintro e w4 ⟨rfl, b4⟩
          rw [HTn.out]
          have O := O.below b4
          have E := E.below b4
          have B := B.below b4
          have D := D.below b4
          have hb := bnext hb b4
          have hsz := Lib.hid (show w2.heap.size + 1 ≤ w4.heap.size by have := b4.size; omega)
          have hsz2 := hsz.out
          have cB := B.int hkM
          have sB := E.blk.2
          have sB2 := B.blk.2
          clear b4
          by_cases hbz : now < (sPart (esOf p) T l now st k).busy[k]
          · have hst := Lib.hid (show sPart (esOf p) T l now st (k + 1) = sPart (esOf p) T l now st k from sStep_busy (by rw [getD_at hkM]; exact hbz))
            go_wp2
            exact ⟨⟨k + 1, by omega, by go_num, by rw [hst.out]; exact O, by rw [hst.out]; exact E, by rw [hst.out]; exact B, hap, D, hsz, hb⟩, by simp [intOf]; omega⟩
          cases hn : nextT (esOf p) T (sPart (esOf p) T l now st k).ends now with
          | none =>
            have hst := Lib.hid (show sPart (esOf p) T l now st (k + 1) = sPart (esOf p) T l now st k from sStep_none hn)
            clear hn
            simp only [nextZ]
            go_wp2
            exact ⟨⟨k + 1, by omega, by go_num, by rw [hst.out]; exact O, by rw [hst.out]; exact E, by rw [hst.out]; exact B, hap, D, hsz, hb⟩, by simp [intOf]; omega⟩
          | some t =>
            simp only [nextZ]
            replace hn := Lib.hid hn
            have htT : t < T := (nextT_some hn.out).1
            have hroom := next_room HO.out hIk.out hn.out
            have hst := Lib.hid (show sPart (esOf p) T l now st (k + 1) = sTake l now (sPart (esOf p) T l now st k) k t from sStep_some (by rw [getD_at (by rw [Hlb.out]; exact hlt)]; omega) hn.out)
            have htl : t < l.length := by rw [HL.out]; exact htT
            obtain ⟨bw, ow, rfl, hbw, cw0⟩ := h2.int htl
            have cw := (hb.cell (p := ⟨bw, ow + t, none⟩) (by simpa using hbw)).trans cw0
            have Hcw := Lib.hid cw0
            clear cw0
            have htlI : (t : Int) < (l.length : Int) := by omega
            have htTI : (t : Int) < (T : Int) := by omega
            have hw := HG3.out l[t] (List.getElem_mem htl)
            have hnl := hnL.out
            have hsum : IntKind.i64.wrap (now + l[t]) = now + l[t] := IntWalk.i64_in _ (by omega)
            have Hgt := Lib.hid (getD_at htl (0 : Int))
            generalize hq : sPart (esOf p) T l now st k = s at *
            have Hq := Lib.hid hq
            clear hq
            have htE : t < s.ends.length := by rw [Hle.out]; exact htT
            have hkB : k < s.busy.length := by rw [Hlb.out]; exact hlt
            have ha : Hid (∀ w : World, Below w.heap.size w (w.alloc (.cells #[.int .i64 (t : Int), .int .i64 (k : Int), .int .i64 now, .int .i64 (now + l[t])] 62))) := fun w => (Below.refl _ _).alloc (Nat.le_refl _) _
            have hbwI : bw < w1.heap.size := by omega
            have htn : ¬ (t : Int) < 0 := by omega
            have hso := Lib.hid O.within
            clear hw
            obtain ⟨Aq, cq, rfl, -⟩ := id (Rd.of_own O)
            go_wp2_with (at_builtin; refine wpList_push_all _ slotE (by decide) rfl (.tmp 64) (.tmp 75) rfl Try.underlying25 hj0 jz0 jz1 jz2 rfl (l := s.out) rfl (O.below (ha.out _)) rfl (Rd.one slotE _ _ ⟨(t : Int), (k : Int), now, now + l[t]⟩ rfl rfl 1 (Nat.le_refl _) (Nat.lt_succ_self _)) (by omega) (by simp) (by decide) (by simp; omega) ?_; intro v5 w5 o5 g5 f5; have hb5 : Below w.heap.size w w5 := (bnext hb (ha.out _)).grown g5 (bnext hb (ha.out _)).size (fun g hg => by have := hso.out g hg; omega); have E5 := (E.below (ha.out _)).grown g5 (.inr (Ne.symm hap.out.1)); have B5 := (B.below (ha.out _)).grown g5 (.inr (Ne.symm hap.out.2)); have D5 := (D.below (ha.out _)).mark g5 hso.out (.inl (Nat.lt_succ_self _)); have z5 := g5.size; have fE5 := E5.free; have fB5 := B5.free; have cE5 := E5.int htE; have cB5 := B5.int hkB; have cw5 := (hb5.cell (p := ⟨bw, ow + t, none⟩) (by simpa using hbw)).trans Hcw.out; have hv5 := ap_of f5 hap.out (by simp; omega) (by simp; omega); have hE5 := Lib.hid E5; have hB5 := Lib.hid B5; have hD5 := Lib.hid D5; have hbH := Lib.hid hb5; have ho5 := Lib.hid o5; have hz5 := Lib.hid z5; clear E5 B5 D5 hb5 o5 f5)
            refine ⟨⟨k + 1, by omega, by go_num, ?_, ?_, ?_, hv5, (hD5.out.other (by simp; omega) _).other (by simp; omega) _, ?_, (hbH.out.setCell (by simp; omega) _).setCell (by simp; omega) _⟩, by simp [intOf]; omega⟩
            · rw [hst.out]
              show Ow _ _ _ _ _ (s.out ++ [⟨(t : Int), (k : Int), now, now + l.getD t 0⟩])
              rw [Hgt.out]
              exact (ho5.out.setOther hv5.out.1 _).setOther hv5.out.2 _
            · rw [hst.out]
              show Ow _ _ _ _ _ (s.ends.set t (now + l.getD t 0))
              rw [Hgt.out]
              exact (hE5.out.put1 Hle.out t htT _).setOther (by simp [Value.ownBlock]; omega) _
            · rw [hst.out]
              show Ow _ _ _ _ _ (s.busy.set k (now + l.getD t 0))
              rw [Hgt.out]
              exact (hB5.out.setOther (by simp [Value.ownBlock]; omega) _).put1 Hlb.out k hlt _
            · have h1 := hz5.out
              simp at h1
              simp [Hid, World.setCell]
              omega

        · have hltI : ¬ (k : Int) < (M : Int) := by omega
          have hkM : k = M := by omega
          subst hkM
          obtain ⟨f', rfl⟩ : ∃ f', f = f' + 1 := ⟨f - 1, by have := hf.out; have := hnL.out; omega⟩
          have hg2 := Lib.hid ((sGo_more hMore.out).symm.trans hgo.out)
          generalize sPart (esOf p) T l now st k = s at *
          clear hpart
          go_wp2
          clear x0 x1 x2 x3 x4 xs hle hlb
          go_loop [14, 96] (fun n i => ∃ j : Nat, j ≤ k ∧ i = .int .i64 j ∧ n = .int .i64 (nextI now (s.busy.take j))) (fun _ i => k - (intOf i).toNat)
          case atStart => exact ⟨0, Nat.zero_le _, rfl, rfl⟩
          case round =>
            obtain ⟨j, hj, rfl, rfl⟩ := hrel
            by_cases hjt : j < k
            · have hjI : (j : Int) < (k : Int) := by omega
              have hjB : j < s.busy.length := by rw [Hlb.out]; exact hjt
              have cB := B.int hjB
              have sB2 := B.blk.2
              have hs := Lib.hid (nextI_succ (now := now) hjB)
              generalize nextI now (s.busy.take j) = n at *
              generalize s.busy[j] = b at *
              by_cases c1 : now < b
              case neg =>
                rw [if_neg (fun x => c1 x.1)] at hs
                go_wp2
                exact ⟨⟨j + 1, by omega, by go_num, by rw [hs.out]⟩, by simp [intOf]; omega⟩
              by_cases c2 : n = 0
              · have c2b : (n == 0) = true := by simpa using c2
                rw [if_pos ⟨c1, .inl c2⟩] at hs
                clear c2
                go_wp2
                exact ⟨⟨j + 1, by omega, by go_num, by rw [hs.out]⟩, by simp [intOf]; omega⟩
              have c2b : (n == 0) = false := by simpa using c2
              by_cases c3 : b < n
              · rw [if_pos ⟨c1, .inr c3⟩] at hs
                clear c2
                go_wp2
                exact ⟨⟨j + 1, by omega, by go_num, by rw [hs.out]⟩, by simp [intOf]; omega⟩
              · rw [if_neg (fun x => by rcases x.2 with h | h; exact c2 h; exact c3 h)] at hs
                clear c2
                go_wp2
                exact ⟨⟨j + 1, by omega, by go_num, by rw [hs.out]⟩, by simp [intOf]; omega⟩
            · have hjI : ¬ (j : Int) < (k : Int) := by omega
              have hje := Lib.hid (show s.busy.take j = s.busy from List.take_of_length_le (by rw [Hlb.out]; omega))
              obtain ⟨r1, r2, r3⟩ := hR.out
              have hR1 := Lib.hid r1
              have hnl := hnL.out
              rw [hje.out]
              clear r1 r3
              go_wp2
              exact ⟨⟨f', _, s, hR1.out, (by have := hf.out; unfold Hid; omega), hg2.out, rfl, O, E, B, hap, D, hsz, hb⟩, by simp [intOf]; omega⟩

theorem specSlotsFor_any (p : Plan) (ve v : Value) (l : List Int) (many : Int) (w : World) (hl : p.edges.length ≤ 2000000) (hl2 : l.length ≤ 2000000) (h : Rd edgeE w w.heap.size ve p.edges) (h2 : Rd intE w w.heap.size v l) :
    Calls Try.prog 55 #[planV p ve, v, .int .i64 many] w fun e w' => ∃ u, e = .returned u ∧ Ow slotE 62 w' w.heap.size u (schedOf p l many) ∧ Below w.heap.size w w' := by
  obtain ⟨A, c, rfl, -⟩ := id h2
  have ha0 : ∀ w : World, Below w.heap.size w (w.alloc (.cells #[] 62)) := fun w => (Below.refl _ _).alloc (Nat.le_refl _) _
  have hb0 := bnext (planBox_below 47 p ve w) (ha0 _)
  have D0 := (BoxAt.new 47 p ve w).below (ha0 _)
  have O0 := Ow.empty slotE 62 (planBox 47 p ve w) (g := w.heap.size + 1) (by rw [planBox_size])
  clear ha0
  cases hf : weightsOk p l
  · have H := Lib.hid (schedOf_no (p := p) (l := l) (many := many) (fun x => by rw [hf] at x; cases x.1))
    have HF := Lib.hid hf
    clear hf
    obtain ⟨x0, x1, x2, x3, x4, xs⟩ := D0.cells
    unfold planV
    go_enter Try.func55, Try.ntmps55
    go_wp2_with fail
    clear x0 x1 x2 x3 x4 xs
    refine (specWeightsOk_any p ve (.slice A l.length c) l _ hl hl2 ((h.below hb0).more hb0.size) ((h2.below hb0).more hb0.size)).mono ?_
    rintro e w1 ⟨rfl, hb1⟩
    rw [HF.out]
    have hb := bnext hb0 hb1
    go_wp2
    go_ret
    exact ⟨_, rfl, by rw [H.out]; exact (O0.below hb1).more (by omega), hb⟩
  cases hm : inB many 1 8
  · have H := Lib.hid (schedOf_no (p := p) (l := l) (many := many) (fun x => by rw [hm] at x; cases x.2))
    have HF := Lib.hid hf
    clear hf
    obtain ⟨x0, x1, x2, x3, x4, xs⟩ := D0.cells
    unfold planV
    go_enter Try.func55, Try.ntmps55
    go_wp2_with fail
    clear x0 x1 x2 x3 x4 xs
    refine (specWeightsOk_any p ve (.slice A l.length c) l _ hl hl2 ((h.below hb0).more hb0.size) ((h2.below hb0).more hb0.size)).mono ?_
    rintro e w1 ⟨rfl, hb1⟩
    rw [HF.out]
    have hb := bnext hb0 hb1
    go_wp2_with (go_at_call 113; refine (l01In_any _ _ _ _).mono ?_; rintro e w' ⟨rfl, rfl⟩)
    go_ret
    exact ⟨_, rfl, by rw [H.out]; exact (O0.below hb1).more (by omega), hb⟩
  have H := Lib.hid (schedOf_yes ⟨hf, hm⟩)
  have HO := Lib.hid (sOk_of hf hm)
  obtain ⟨g1, g2, g3⟩ := weightsOk_all hf
  have G := Lib.hid (planFault_zero.1 g1)
  have HP := Lib.hid g1
  obtain ⟨t1, t2⟩ := manyOk_tasks G.out.1
  obtain ⟨T, hT⟩ := Int.eq_ofNat_of_zero_le (show 0 ≤ p.tasks by omega)
  have HT := Lib.hid hT
  have HTn := Lib.hid (show p.tasks.toNat = T by omega)
  have hT12 : T ≤ 12 := by omega
  have hT1 : 1 ≤ T := by omega
  obtain ⟨m1, m2⟩ := inB_iff.1 hm
  obtain ⟨M, rfl⟩ := Int.eq_ofNat_of_zero_le (show 0 ≤ many by omega)
  rw [Int.toNat_natCast, HTn.out] at HO H
  have HF := Lib.hid hf
  have HL := Lib.hid (show l.length = T by omega)
  have HG3 := Lib.hid g3
  have HM := Lib.hid hm
  obtain ⟨j0, hj0, jz0, jz1, jz2⟩ := info_parts slot_info
  obtain ⟨i0, hi0, iz0, iz1, iz2⟩ := info_parts int_info
  have hmk : ∀ w : World, (Instr.makeSlice 50 (.int .i64 p.tasks) (.int .i64 p.tasks)).run Try.prog w = .ok (.slice (some ⟨w.heap.size, 0, none⟩) T T) (w.alloc (.cells (madeCells #[.int .i64 0] (T * 1)) 3)) := by
    intro w
    have := run_make (P := Try.prog) w 50 3 i0 _ Try.underlying50 hi0 iz0 .i64 .i64 T T (by omega) (by omega) (by rw [iz2]; omega) (by omega)
    rw [iz1] at this
    rw [hT]
    simpa [Value.cells] using this
  have hmk2 : ∀ w : World, (Instr.makeSlice 50 (.int .i64 (M : Int)) (.int .i64 (M : Int))).run Try.prog w = .ok (.slice (some ⟨w.heap.size, 0, none⟩) M M) (w.alloc (.cells (madeCells #[.int .i64 0] (M * 1)) 3)) := by
    intro w
    have := run_make (P := Try.prog) w 50 3 i0 _ Try.underlying50 hi0 iz0 .i64 .i64 M M (by omega) (by omega) (by rw [iz2]; omega) (by omega)
    rw [iz1] at this
    simpa [Value.cells] using this
  clear hf g1 g2 g3 hT
  obtain ⟨x0, x1, x2, x3, x4, xs⟩ := D0.cells
  unfold planV
  go_enter Try.func55, Try.ntmps55
  go_wp2_with fail
  clear x0 x1 x2 x3 x4 xs
  refine (specWeightsOk_any p ve (.slice A l.length c) l _ hl hl2 ((h.below hb0).more hb0.size) ((h2.below hb0).more hb0.size)).mono ?_
  rintro e w1 ⟨rfl, hb1⟩
  rw [HF.out]
  have hb := bnext hb0 hb1
  have D := D0.below hb1
  have O0 := O0.below hb1
  have hO0 : Hid ((Value.slice (some ⟨w.heap.size + 1, 0, none⟩) 0 0).ownBlock ≠ some w1.heap.size) := by have := hb1.size; simp [Hid, Value.ownBlock, planBox_size] at this ⊢; omega
  have hO1 : Hid (w.heap.size + 1 < w1.heap.size) := by have := hb1.size; simp [Hid, planBox_size] at this ⊢; omega
  have hw01 := D.lt
  clear hb0 hb1 D0
  obtain ⟨x0, x1, x2, x3, x4, xs⟩ := D.cells
  have c1 : Below w1.heap.size w1 (w1.alloc (.cells (madeCells #[.int .i64 0] T) 3)) := (Below.refl _ _).alloc (Nat.le_refl _) _
  have E0 := Ow.made intE 3 w1 0 T (by decide) (by simp [maxLen]; omega) (z := #[.int .i64 0]) rfl (m := T) (by simp [intE])
  rw [← fill_zero T] at E0
  have hs1 : (w1.alloc (.cells (madeCells #[.int .i64 0] T) 3)).heap.size = w1.heap.size + 1 := by simp
  have Hs1 := Lib.hid hs1
  clear hs1
  go_wp2_with (go_at_call 113; refine (l01In_any _ _ _ _).mono ?_; rintro e w' ⟨rfl, rfl⟩)
  have D := D.below c1
  have hb := bnext hb c1
  have O0 := O0.below c1
  clear x0 x1 x2 x3 x4 xs c1 hm
  go_loopw [9] (fun i wr => ∃ k : Nat, k ≤ T ∧ i = .int .i64 k ∧ Ow intE 3 wr w1.heap.size (.slice (some ⟨w1.heap.size, 0, none⟩) T T) ((List.replicate T (-1 : Int)).take k ++ List.replicate (T - k) 0) ∧ BoxAt w.heap.size p ve wr ∧ Ow slotE 62 wr (w.heap.size + 1) (.slice (some ⟨w.heap.size + 1, 0, none⟩) 0 0) [] ∧ Hid (w1.heap.size + 1 ≤ wr.heap.size) ∧ Below w.heap.size w wr) (fun i _ => T - (intOf i).toNat)
  case atStart => exact ⟨0, Nat.zero_le _, rfl, E0, D, O0, by rw [Hs1.out]; exact Nat.le_refl _, hb⟩
  case round =>
    clear E0 D O0 hb
    obtain ⟨k, hk, rfl, E, D, O0, hsz, hb⟩ := hrel
    obtain ⟨x0, x1, x2, x3, x4, xs⟩ := D.cells
    by_cases hlt : k < T
    · have hltI : (k : Int) < (T : Int) := by omega
      have hltP : (k : Int) < p.tasks := by rw [HT.out]; omega
      have hlen := Lib.hid (show ((List.replicate T (-1 : Int)).take k ++ List.replicate (T - k) 0).length = T by simp; omega)
      have cE := E.int (k := k) (by rw [hlen.out]; exact hlt)
      have hfz := E.free
      have hP := Lib.hid (E.put1 hlen.out k hlt (-1))
      rw [fill_next hlt] at hP
      have hsz2 := hsz.out
      go_wp2
      exact ⟨⟨k + 1, by omega, by go_num, hP.out, D.other (by simp; omega) _, O0.setOther hO0.out _, by simpa [Hid, World.setCell] using hsz2, hb.setCell (by simp; omega) _⟩, by simp [intOf]; omega⟩
    have hltI : ¬ (k : Int) < (T : Int) := by omega
    have hltP : ¬ (k : Int) < p.tasks := by rw [HT.out]; omega
    have hk' : k = T := by omega
    have hfull : (List.replicate T (-1 : Int)).take k ++ List.replicate (T - k) 0 = List.replicate T (-1) := by rw [hk']; simp
    rw [hfull] at E
    clear hfull hk'
    obtain ⟨w2, rfl⟩ : ∃ w2 : World, w2 = wr := ⟨_, rfl⟩
    have c2 : Below w2.heap.size w2 (w2.alloc (.cells (madeCells #[.int .i64 0] M) 3)) := (Below.refl _ _).alloc (Nat.le_refl _) _
    have B0 := Ow.made intE 3 w2 0 M (by decide) (by simp [maxLen]; omega) (z := #[.int .i64 0]) rfl (m := M) (by simp [intE])
    have hs2 := Lib.hid (show (w2.alloc (.cells (madeCells #[.int .i64 0] M) 3)).heap.size = w2.heap.size + 1 by simp)
    have hgE := Lib.hid (show w1.heap.size < w2.heap.size by have := hsz.out; omega)
    go_wp2
    have D := D.below c2
    have hb := bnext hb c2
    have E0 := E.below c2
    have O0 := O0.below c2
    have hap0 : Hid ((Value.slice (some ⟨w.heap.size + 1, 0, none⟩) 0 0).ownBlock ≠ some w1.heap.size ∧ (Value.slice (some ⟨w.heap.size + 1, 0, none⟩) 0 0).ownBlock ≠ some w2.heap.size) := ⟨hO0.out, by have := hO1.out; have := hgE.out; simp [Value.ownBlock]; omega⟩
    have I0 := Lib.hid (SInv.start HO.out)
    clear x0 x1 x2 x3 x4 xs c2 E hsz
    go_loopw [7, 11] (fun vo nw wr => ∃ (f : Nat) (now : Int) (st : Sst), Hid (SInv (esOf p) T l M now st) ∧ Hid (12000 - now < f) ∧ Hid (sGo (esOf p) T l M f now st = schedOf p l M) ∧ nw = .int .i64 now ∧ Ow slotE 62 wr (w.heap.size + 1) vo st.out ∧
      Ow intE 3 wr w1.heap.size (.slice (some ⟨w1.heap.size, 0, none⟩) T T) st.ends ∧ Ow intE 3 wr w2.heap.size (.slice (some ⟨w2.heap.size, 0, none⟩) M M) st.busy ∧ Hid (vo.ownBlock ≠ some w1.heap.size ∧ vo.ownBlock ≠ some w2.heap.size) ∧ BoxAt w.heap.size p ve wr ∧ Hid (w2.heap.size + 1 ≤ wr.heap.size) ∧ Below w.heap.size w wr) (fun _ nw _ => (12001 - intOf nw).toNat)
    case atStart => exact ⟨12001, 0, sStart T M, I0.out, (by simp [Hid]), H.out.symm, rfl, O0, E0, B0, hap0, D, by rw [hs2.out]; exact Nat.le_refl _, hb⟩
    case round =>
      clear O0 E0 B0 hap0 D hb I0
      obtain ⟨f, now, st, hI, hf, hgo, rfl, O, E, B, hap, D, hsz, hb⟩ := hrel
      obtain ⟨x0, x1, x2, x3, x4, xs⟩ := D.cells
      obtain ⟨Ao, co, rfl, -⟩ := id (Rd.of_own O)
      have hn0 := hI.out.now0
      by_cases hmore : st.out.length < T
      case neg =>
        have hmI : ¬ (st.out.length : Int) < p.tasks := by rw [HT.out]; omega
        have Hd := Lib.hid (sGo_done (es := esOf p) (l := l) (m := M) (now := now) (f := f) (show T ≤ st.out.length by omega))
        go_wp2
        go_ret
        exact ⟨_, rfl, by rw [← hgo.out, Hd.out]; exact O.more (by omega), hb⟩
      have hmI : (st.out.length : Int) < p.tasks := by rw [HT.out]; omega
      have hR := Lib.hid (hI.out.round HO.out hmore)
      have hpart := Lib.hid (hI.out.part HO.out)
      have hnL := Lib.hid (show now ≤ 12000 by have := hI.out.nowL; have := hI.out.short; omega)
      have hMore := Lib.hid hmore
      obtain ⟨wo, rfl⟩ : ∃ wo : World, wo = wr := ⟨_, rfl⟩
      go_wp2
      clear x0 x1 x2 x3 x4 xs
      go_loopw [7, 12] (fun vo i wr => ∃ k : Nat, k ≤ M ∧ i = .int .i64 k ∧ Ow slotE 62 wr (w.heap.size + 1) vo (sPart (esOf p) T l now st k).out ∧
        Ow intE 3 wr w1.heap.size (.slice (some ⟨w1.heap.size, 0, none⟩) T T) (sPart (esOf p) T l now st k).ends ∧ Ow intE 3 wr w2.heap.size (.slice (some ⟨w2.heap.size, 0, none⟩) M M) (sPart (esOf p) T l now st k).busy ∧ Hid (vo.ownBlock ≠ some w1.heap.size ∧ vo.ownBlock ≠ some w2.heap.size) ∧ BoxAt w.heap.size p ve wr ∧ Hid (w2.heap.size + 1 ≤ wr.heap.size) ∧ Below w.heap.size w wr) (fun _ i _ => M - (intOf i).toNat)
      case atStart => exact ⟨0, Nat.zero_le _, rfl, O, E, B, hap, D, hsz, hb⟩
      case round =>
        clear O E B hap D hsz hb
        obtain ⟨k, hk, rfl, O, E, B, hap, D, hsz, hb⟩ := hrel
        obtain ⟨x0, x1, x2, x3, x4, xs⟩ := D.cells
        have hIk := Lib.hid (hpart.out k hk)
        have hle := hIk.out.le
        have hlb := hIk.out.lb
        have Hle := Lib.hid hle
        have Hlb := Lib.hid hlb
        have hsz2 := hsz.out
        have hgE2 := hgE.out
        have sB := E.blk.2
        by_cases hC : k < M ∧ (now < (sPart (esOf p) T l now st k).busy.getD k 0 ∨ nextT (esOf p) T (sPart (esOf p) T l now st k).ends now ≠ none)
        · obtain ⟨hlt, hC⟩ := hC
          have hltI : (k : Int) < (M : Int) := by omega
          have hkM : k < (sPart (esOf p) T l now st k).busy.length := by omega
          have hgd := getD_at hkM (0 : Int)
          rw [hgd] at hC
          have Hgd := Lib.hid hgd
          clear hgd
          have cB := B.int hkM
          have sB2 := B.blk.2
          by_cases hbz : now < (sPart (esOf p) T l now st k).busy[k]
          · have hst := Lib.hid (show sPart (esOf p) T l now st (k + 1) = sPart (esOf p) T l now st k from sStep_busy (by rw [getD_at hkM]; exact hbz))
            clear hC hle hlb
            go_wp2
            exact ⟨⟨k + 1, by omega, by go_num, by rw [hst.out]; exact O, by rw [hst.out]; exact E, by rw [hst.out]; exact B, hap, D, hsz, hb⟩, by simp [intOf]; omega⟩
          obtain ⟨t, hn⟩ : ∃ t, nextT (esOf p) T (sPart (esOf p) T l now st k).ends now = some t := by
            cases hq : nextT (esOf p) T (sPart (esOf p) T l now st k).ends now with
            | none => rcases hC with hC | hC; exact absurd hC hbz; exact absurd hq hC
            | some t => exact ⟨t, rfl⟩
          replace hn := Lib.hid hn
          clear hC
          go_wp2_with fail
          clear x0 x1 x2 x3 x4 xs hle hlb cB
          refine (specNext_any p ve _ (sPart (esOf p) T l now st k).ends now _ HP.out (by rw [HTn.out]; exact Hle.out) ((h.below hb).more hb.size) (Rd.of_own E)).mono ?_
          rintro e w4 ⟨rfl, b4⟩
          rw [HTn.out, hn.out]
          simp only [nextZ]
          have O := O.below b4
          have E := E.below b4
          have B := B.below b4
          have D := D.below b4
          have hb := bnext hb b4
          have hsz := Lib.hid (show w2.heap.size + 1 ≤ w4.heap.size by have := b4.size; omega)
          have hsz2 := hsz.out
          clear b4

          have htT : t < T := (nextT_some hn.out).1
          have hroom := next_room HO.out hIk.out hn.out
          have hst := Lib.hid (show sPart (esOf p) T l now st (k + 1) = sTake l now (sPart (esOf p) T l now st k) k t from sStep_some (by rw [getD_at (by rw [Hlb.out]; exact hlt)]; omega) hn.out)
          have htl : t < l.length := by rw [HL.out]; exact htT
          obtain ⟨bw, ow, rfl, hbw, cw0⟩ := h2.int htl
          have cw := (hb.cell (p := ⟨bw, ow + t, none⟩) (by simpa using hbw)).trans cw0
          have Hcw := Lib.hid cw0
          clear cw0
          have htlI : (t : Int) < (l.length : Int) := by omega
          have htTI : (t : Int) < (T : Int) := by omega
          have hw := HG3.out l[t] (List.getElem_mem htl)
          have hnl := hnL.out
          have hsum : IntKind.i64.wrap (now + l[t]) = now + l[t] := IntWalk.i64_in _ (by omega)
          have Hgt := Lib.hid (getD_at htl (0 : Int))
          generalize hq : sPart (esOf p) T l now st k = s at *
          have Hq := Lib.hid hq
          clear hq
          have htE : t < s.ends.length := by rw [Hle.out]; exact htT
          have hkB : k < s.busy.length := by rw [Hlb.out]; exact hlt
          have ha : Hid (∀ w : World, Below w.heap.size w (w.alloc (.cells #[.int .i64 (t : Int), .int .i64 (k : Int), .int .i64 now, .int .i64 (now + l[t])] 62))) := fun w => (Below.refl _ _).alloc (Nat.le_refl _) _
          have hbwI : bw < w1.heap.size := by omega
          have htn : ¬ (t : Int) < 0 := by omega
          have hso := Lib.hid O.within
          clear hw
          have cE := E.int htE
          have cB := B.int hkB
          have fE := E.free
          have fB := B.free
          have hne : ¬ w1.heap.size = w2.heap.size := by omega
          have hne2 : ¬ w2.heap.size = w1.heap.size := by omega
          have hE1 := Lib.hid ((E.put1 Hle.out t htT (now + l[t])).setOther (a := ⟨w2.heap.size, k, none⟩) (by simp [Value.ownBlock]; omega) (.int .i64 (now + l[t])))
          have hB1 := Lib.hid ((B.setOther (a := ⟨w1.heap.size, t, none⟩) (by simp [Value.ownBlock]; omega) (.int .i64 (now + l[t]))).put1 Hlb.out k hlt (now + l[t]))
          have hO1 := Lib.hid ((O.setOther (a := ⟨w1.heap.size, t, none⟩) hap.out.1 (.int .i64 (now + l[t]))).setOther (a := ⟨w2.heap.size, k, none⟩) hap.out.2 (.int .i64 (now + l[t])))
          have hD1 := Lib.hid ((D.other (a := ⟨w1.heap.size, t, none⟩) (by simp; omega) (.int .i64 (now + l[t]))).other (a := ⟨w2.heap.size, k, none⟩) (by simp; omega) (.int .i64 (now + l[t])))
          have hb1 := Lib.hid ((hb.setCell (p := ⟨w1.heap.size, t, none⟩) (by simp; omega) (.int .i64 (now + l[t]))).setCell (p := ⟨w2.heap.size, k, none⟩) (by simp; omega) (.int .i64 (now + l[t])))
          have hs4 : ((w4.setCell ⟨w1.heap.size, t, none⟩ (.int .i64 (now + l[t]))).setCell ⟨w2.heap.size, k, none⟩ (.int .i64 (now + l[t]))).heap.size = w4.heap.size := by simp [World.setCell]
          have Hs4 := Lib.hid hs4
          clear hs4
          obtain ⟨Aq, cq, rfl, -⟩ := id (Rd.of_own O)
          clear E B O D hb
          go_wp2_with (at_builtin; refine wpList_push_all _ slotE (by decide) rfl (.tmp 79) (.tmp 88) rfl Try.underlying25 hj0 jz0 jz1 jz2 rfl (l := s.out) rfl (hO1.out.below (ha.out _)) rfl (Rd.one slotE _ _ ⟨(t : Int), (k : Int), now, now + l[t]⟩ Hs4.out.symm rfl 1 (Nat.le_refl _) (Nat.lt_succ_self _)) (by omega) (by simp) (by decide) (Nat.le_trans (show w.heap.size + 1 ≤ w4.heap.size by omega) (Nat.le_trans (Nat.le_of_eq Hs4.out.symm) (ha.out _).size)) ?_; intro v5 w5 o5 g5 f5)
          have hb5 : Below w.heap.size w w5 := (bnext hb1.out (ha.out _)).grown g5 (bnext hb1.out (ha.out _)).size (fun g hg => by have := hso.out g hg; omega)
          have E5 := (hE1.out.below (ha.out _)).grown g5 (.inr (Ne.symm hap.out.1))
          have B5 := (hB1.out.below (ha.out _)).grown g5 (.inr (Ne.symm hap.out.2))
          have D5 := (hD1.out.below (ha.out _)).mark g5 hso.out (.inl (Nat.lt_succ_self _))
          have z5 := g5.size
          have hv5 := ap_of f5 hap.out (by simp [World.setCell]; omega) (by simp [World.setCell]; omega)
          refine ⟨⟨k + 1, by omega, by go_num, ?_, ?_, ?_, hv5, D5, ?_, hb5⟩, by simp [intOf]; omega⟩
          · rw [hst.out]
            show Ow _ _ _ _ _ (s.out ++ [⟨(t : Int), (k : Int), now, now + l.getD t 0⟩])
            rw [Hgt.out]
            exact o5
          · rw [hst.out]
            show Ow _ _ _ _ _ (s.ends.set t (now + l.getD t 0))
            rw [Hgt.out]
            exact E5
          · rw [hst.out]
            show Ow _ _ _ _ _ (s.busy.set k (now + l.getD t 0))
            rw [Hgt.out]
            exact B5
          · simp [World.setCell] at z5
            simp [Hid]
            omega
        have hD2 : (k < M ∧ Hid (¬ now < (sPart (esOf p) T l now st k).busy.getD k 0) ∧ Hid (nextT (esOf p) T (sPart (esOf p) T l now st k).ends now = none)) ∨ k = M := by
          by_cases hlt : k < M
          · refine .inl ⟨hlt, fun hh => hC ⟨hlt, .inl hh⟩, ?_⟩
            refine Classical.byContradiction fun hh => hC ⟨hlt, .inr hh⟩
          · exact .inr (by omega)
        clear hC
        rcases hD2 with hD2 | hD2
        case' inl =>
          obtain ⟨hlt, hbz, hn⟩ := hD2
          have hltI : (k : Int) < (M : Int) := by omega
          have hkM : k < (sPart (esOf p) T l now st k).busy.length := by omega
          have hbz := hbz.out
          rw [getD_at hkM] at hbz
          have hend := Lib.hid (show sPart (esOf p) T l now st k = sPart (esOf p) T l now st M by
            have := sPart_none hn.out (M - k)
            rw [show k + (M - k) = M from by omega] at this
            exact this.symm)
          have cB := B.int hkM
          have sB2 := B.blk.2
          go_wp2_with fail
          clear x0 x1 x2 x3 x4 xs hle hlb cB
          refine (specNext_any p ve _ (sPart (esOf p) T l now st k).ends now _ HP.out (by rw [HTn.out]; exact Hle.out) ((h.below hb).more hb.size) (Rd.of_own E)).mono ?_
          rintro e w4 ⟨rfl, b4⟩
          rw [HTn.out, hn.out]
          simp only [nextZ]
          have O := O.below b4
          have E := E.below b4
          have B := B.below b4
          have D := D.below b4
          have hb := bnext hb b4
          have hsz := Lib.hid (show w2.heap.size + 1 ≤ w4.heap.size by have := b4.size; omega)
          clear b4 sB2 hbz
          go_upto_region 21 with fail
        case' inr =>
          have hltI : ¬ (k : Int) < (M : Int) := by omega
          have hend := Lib.hid (show sPart (esOf p) T l now st k = sPart (esOf p) T l now st M by rw [hD2])
          clear x0 x1 x2 x3 x4 xs hle hlb
          go_upto_region 21 with fail
        all_goals
          rw [hend.out] at O E B
          have hIm := Lib.hid (hpart.out M (Nat.le_refl _))
          have Hle := Lib.hid hIm.out.le
          have Hlb := Lib.hid hIm.out.lb
          obtain ⟨f', rfl⟩ : ∃ f', f = f' + 1 := ⟨f - 1, by have := hf.out; have := hnL.out; omega⟩
          have hg2 := Lib.hid ((sGo_more hMore.out).symm.trans hgo.out)
          clear hIk hend
          generalize sPart (esOf p) T l now st M = s at *
          clear hpart
          obtain ⟨x0, x1, x2, x3, x4, xs⟩ := D.cells
          go_wp2
          go_loop [14, 15] (fun n i => ∃ j : Nat, j ≤ T ∧ i = .int .i64 j ∧ n = .int .i64 (nextS now (s.ends.take j))) (fun _ i => T - (intOf i).toNat)
          case atStart => exact ⟨0, Nat.zero_le _, rfl, rfl⟩
          case round =>
            obtain ⟨j, hj, rfl, rfl⟩ := hrel
            by_cases hjt : j < T
            · have hjI : (j : Int) < (T : Int) := by omega
              have hjP : (j : Int) < p.tasks := by rw [HT.out]; omega
              have hjB : j < s.ends.length := by rw [Hle.out]; exact hjt
              have cB := E.int hjB
              have sB2 := E.blk.2
              have hs := Lib.hid (nextS_succ (now := now) hjB)
              generalize nextS now (s.ends.take j) = n at *
              generalize s.ends[j] = b at *
              by_cases c1 : now < b
              case neg =>
                rw [if_neg (fun x => c1 x.1)] at hs
                go_wp2
                exact ⟨⟨j + 1, by omega, by go_num, by rw [hs.out]⟩, by simp [intOf]; omega⟩
              by_cases c2 : n < 0
              · rw [if_pos ⟨c1, .inl c2⟩] at hs
                go_wp2
                exact ⟨⟨j + 1, by omega, by go_num, by rw [hs.out]⟩, by simp [intOf]; omega⟩
              by_cases c3 : b < n
              · rw [if_pos ⟨c1, .inr c3⟩] at hs
                go_wp2
                exact ⟨⟨j + 1, by omega, by go_num, by rw [hs.out]⟩, by simp [intOf]; omega⟩
              · rw [if_neg (fun x => by rcases x.2 with h | h; exact c2 h; exact c3 h)] at hs
                go_wp2
                exact ⟨⟨j + 1, by omega, by go_num, by rw [hs.out]⟩, by simp [intOf]; omega⟩
            · have hjI : ¬ (j : Int) < (T : Int) := by omega
              have hjP : ¬ (j : Int) < p.tasks := by rw [HT.out]; omega
              have hje := Lib.hid (show s.ends.take j = s.ends from List.take_of_length_le (by rw [Hle.out]; omega))
              obtain ⟨r1, r2, r3⟩ := hR.out
              have hR1 := Lib.hid r1
              have hnl := hnL.out
              rw [hje.out, r3]
              have hnn : ¬ nextI now s.busy < 0 := by omega
              clear r1 r3
              go_wp2
              exact ⟨⟨f', _, s, hR1.out, (by have := hf.out; unfold Hid; omega), hg2.out, rfl, O, E, B, hap, D, hsz, hb⟩, by simp [intOf]; omega⟩

theorem schedOf_len (p : Plan) (l : List Int) (many : Int) : (schedOf p l many).length ≤ 12 := by
  by_cases h : weightsOk p l = true ∧ inB many 1 8 = true
  · have ho := sOk_of h.1 h.2
    have hs := (sched_is ho).len
    have hT := ho.T12
    unfold schedOf
    rw [if_pos h]
    omega
  · rw [schedOf_no h]; simp
end Go.Proofs.Ytoccmpijfggmkaa
