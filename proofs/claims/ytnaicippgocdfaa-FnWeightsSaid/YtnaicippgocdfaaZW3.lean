/-
  LatestOf of the program.  SlackOf of both. TightOf of both. Walks of the helpers of the laws on values of the type Slot: to, eq, and the slices' own. Written by program (flat.py). Slots that fit a plan: plain facts. The handing out of tasks to workers, step by step: plain facts. The earliest and the latest times of a plan: plain facts. copyPlan of the program, l06Copy of the reference: a plan whose edges lie in memory of its own. Reversed of the program and of the reference.
-/
import Derived.Test.YtnaicippgocdfaaZW2
section
namespace Go.Proofs.Ytnaicippgocdfaa
open Go.RowKit
set_option maxRecDepth 100000
set_option maxHeartbeats 3000000

def latEnd (L : Int) (o : List Int) (B : List Nat) : Int := B.foldl (fun e b => min e (o.getD b 0)) L
def latTask (es : List (Nat × Nat)) (T : Nat) (L : Int) (l : List Int) (t : Nat) (o : List Int) : List Int := o.set t (latEnd L o (behindL es T t) - l.getD t 0)
def latL (es : List (Nat × Nat)) (T : Nat) (L : Int) (l : List Int) (ord : List Nat) : List Int := ord.foldr (latTask es T L l) (List.replicate T 0)
noncomputable def latestOf (p : Plan) (l : List Int) : List Int := if weightsOk p l = true then latL (esOf p) p.tasks.toNat (longestOf p l) l (orderOf p) else []
def Ld (o : List Int) (c : Nat) : Prop := ∀ x ∈ o, -(1000 * (c : Int)) ≤ x ∧ x ≤ 145000
theorem latL_len (es : List (Nat × Nat)) (T : Nat) (L : Int) (l : List Int) : ∀ ord : List Nat, (latL es T L l ord).length = T
  | [] => by simp [latL]
  | t :: ord => by
    have := latL_len es T L l ord
    unfold latL at *
    rw [List.foldr_cons, latTask, List.length_set, this]
theorem latL_cons (es : List (Nat × Nat)) (T : Nat) (L : Int) (l : List Int) (ord : List Nat) {n : Nat} (h : n < ord.length) : latL es T L l (ord.drop n) = (latL es T L l (ord.drop (n + 1))).set ord[n] (latEnd L (latL es T L l (ord.drop (n + 1))) (behindL es T ord[n]) - l.getD ord[n] 0) := by
  rw [List.drop_eq_getElem_cons h]
  rfl
theorem getD_ld {o : List Int} {c : Nat} (h : Ld o c) (k : Nat) : -(1000 * (c : Int)) ≤ o.getD k 0 ∧ o.getD k 0 ≤ 145000 := by
  rw [List.getD_eq_getElem?_getD]
  cases hk : o[k]? with
  | none => simp; omega
  | some x => exact h x (List.mem_of_getElem? hk)
theorem latEnd_bd {L : Int} (hL : 0 ≤ L ∧ L ≤ 145000) {o : List Int} {c : Nat} (h : Ld o c) : ∀ (B : List Nat) (L' : Int), -(1000 * (c : Int)) ≤ L' ∧ L' ≤ 145000 → -(1000 * (c : Int)) ≤ latEnd L' o B ∧ latEnd L' o B ≤ 145000
  | [], L', h' => h'
  | b :: B, L', h' => by
    have := getD_ld h b
    have h2 := latEnd_bd hL h B (min L' (o.getD b 0)) (by omega)
    simpa [latEnd] using h2
theorem Ld.step {L : Int} (hL : 0 ≤ L ∧ L ≤ 145000) {o : List Int} {c : Nat} (h : Ld o c) {l : List Int} (hl : ∀ x ∈ l, 1 ≤ x ∧ x ≤ 1000) (B : List Nat) (t : Nat) : Ld (o.set t (latEnd L o B - l.getD t 0)) (c + 1) := by
  intro x hx
  have hw : 0 ≤ l.getD t 0 ∧ l.getD t 0 ≤ 1000 := by
    rw [List.getD_eq_getElem?_getD]
    cases hk : l[t]? with
    | none => simp
    | some y => have := hl y (List.mem_of_getElem? hk); simp; omega
  rcases List.mem_or_eq_of_mem_set hx with hx | rfl
  · have := h x hx; omega
  · have h1 := latEnd_bd hL h B L (by omega)
    omega
theorem latEnd_step {L : Int} {o : List Int} {B : List Nat} {j : Nat} (hj : j < B.length) (hb : B[j] < o.length) : latEnd L o (B.take (j + 1)) = min (latEnd L o (B.take j)) o[B[j]] := by
  unfold latEnd
  rw [earTake_step hj]
  simp [List.getD_eq_getElem?_getD, hb]
theorem latestOf_len (p : Plan) (l : List Int) : (latestOf p l).length ≤ 12 := by
  unfold latestOf
  split
  · rename_i hf
    have := manyOk_tasks (planFault_zero.1 (weightsOk_all hf).1).1
    rw [latL_len]
    omega
  · simp
theorem latL_ld {es : List (Nat × Nat)} {T : Nat} {L : Int} (hL : 0 ≤ L ∧ L ≤ 145000) {l : List Int} (hl : ∀ x ∈ l, 1 ≤ x ∧ x ≤ 1000) : ∀ ord : List Nat, Ld (latL es T L l ord) ord.length
  | [] => fun x hx => by have := List.eq_of_mem_replicate hx; subst this; simp
  | t :: ord => Ld.step hL (latL_ld hL hl ord) hl _ _
theorem latestOf_bd (p : Plan) (l : List Int) : Ld (latestOf p l) 12 := by
  unfold latestOf
  split
  · rename_i hf
    obtain ⟨g1, g2, g3⟩ := weightsOk_all hf
    have h1 := manyOk_tasks (planFault_zero.1 g1).1
    have h2 := (orderOf_inv g1).len
    have h3 := latL_ld (es := esOf p) (T := p.tasks.toNat) (longUpto_bd (earliestOf_bd p l) g3 (earliestOf p l).length) g3 (orderOf p)
    intro x hx
    have := h3 x hx
    omega
  · intro x hx; cases hx

theorem implLatest_any (p : Plan) (ve v : Value) (l : List Int) (w : World) (hl : p.edges.length ≤ 2000000) (hl2 : l.length ≤ 2000000) (h : Rd edgeE w w.heap.size ve p.edges) (h2 : Rd intE w w.heap.size v l) :
    Calls Try.prog 36 #[planV p ve, v] w fun e w' => ∃ u, e = .returned u ∧ Ow intE 3 w' w.heap.size u (latestOf p l) ∧ Below w.heap.size w w' := by
  obtain ⟨A, c, rfl, -⟩ := id h2
  have hb0 := planBox_below 26 p ve w
  have D0 := BoxAt.new 26 p ve w
  cases hf : weightsOk p l
  · have H := Lib.hid (show latestOf p l = [] by simp [latestOf, hf])
    have HF := Lib.hid hf
    clear hf
    unfold planV
    go_enter Try.func36, Try.ntmps36
    go_wp2_with fail
    refine (implWeightsOk_any p ve (.slice A l.length c) l _ hl hl2 ((h.below hb0).more hb0.size) ((h2.below hb0).more hb0.size)).mono ?_
    rintro e w1 ⟨rfl, hb1⟩
    rw [HF.out]
    have hb := bnext hb0 hb1
    go_wp2
    go_ret
    exact ⟨_, rfl, by rw [H.out]; exact Ow.nil _ _ _ _, hb⟩
  obtain ⟨g1, g2, g3⟩ := weightsOk_all hf
  have G := Lib.hid (planFault_zero.1 g1)
  have HF := Lib.hid hf
  have HP := Lib.hid g1
  have HW := Lib.hid g3
  obtain ⟨t1, t2⟩ := manyOk_tasks G.out.1
  obtain ⟨T, hT⟩ := Int.eq_ofNat_of_zero_le (show 0 ≤ p.tasks by omega)
  have HT := Lib.hid hT
  have HTn := Lib.hid (show p.tasks.toNat = T by omega)
  have hT12 : T ≤ 12 := by omega
  have HLl := Lib.hid (show l.length = T by omega)
  have H := Lib.hid (show latestOf p l = latL (esOf p) T (longestOf p l) l (orderOf p) by unfold latestOf; rw [if_pos hf, HTn.out])
  have hLg : Hid (0 ≤ longestOf p l ∧ longestOf p l ≤ 145000) := Lib.hid (longUpto_bd (earliestOf_bd p l) g3 _)
  have hO := Lib.hid (orderOf_inv g1)
  obtain ⟨j0, hj0, jz0, jz1, jz2⟩ := info_parts int_info
  have hmk : ∀ w : World, (Instr.makeSlice 27 (.int .i64 p.tasks) (.int .i64 p.tasks)).run Try.prog w = .ok (.slice (some ⟨w.heap.size, 0, none⟩) T T) (w.alloc (.cells (madeCells #[.int .i64 0] (T * 1)) 3)) := by
    intro w
    have := run_make (P := Try.prog) w 27 3 j0 _ Try.underlying27 hj0 jz0 .i64 .i64 T T (by omega) (by omega) (by rw [jz2]; omega) (by omega)
    rw [jz1] at this
    rw [hT]
    simpa [Value.cells] using this
  clear hf g1 g2 g3 hT
  unfold planV
  go_enter Try.func36, Try.ntmps36
  go_wp2_with fail
  refine (implWeightsOk_any p ve (.slice A l.length c) l _ hl hl2 ((h.below hb0).more hb0.size) ((h2.below hb0).more hb0.size)).mono ?_
  rintro e w1 ⟨rfl, hb1⟩
  rw [HF.out]
  have D := D0.below hb1
  have hb := bnext hb0 hb1
  obtain ⟨x0, x1, x2, x3, x4, xs⟩ := D.cells
  go_wp2_with fail
  clear x0 x1 x2 x3 x4 hmk D0 hb0 hb1
  have O1 := Ow.made intE 3 w1 0 T (by decide) (by simp [maxLen]; omega) (z := #[.int .i64 0]) rfl (m := T) (by simp [intE])
  have ha := (Below.refl w1.heap.size w1).alloc (Nat.le_refl _) (.cells (madeCells #[.int .i64 0] T) 3)
  have hsz1 : (w1.alloc (.cells (madeCells #[.int .i64 0] T) 3)).heap.size = w1.heap.size + 1 := by simp
  have Hsz1 := Lib.hid hsz1
  have D := D.below ha
  have hb := bnext hb ha
  clear ha hsz1
  refine (implOrder_any p ve _ hl ((h.below hb).more hb.size)).mono ?_
  rintro e w2 ⟨v2, rfl, o2, hb2⟩
  have o2 := o2.more (base' := w1.heap.size + 1) (by rw [Hsz1.out]; omega)
  have O := O1.below hb2
  have D := D.below hb2
  have hb := bnext hb hb2
  have hX := xs
  clear O1 xs hb2
  have hlen : (orderOf p).length = T := by rw [hO.out.len, HTn.out]
  have hlt0 : Hid (∀ x ∈ orderOf p, x < T) := fun x hx => by have := hO.out.lt x hx; rw [HTn.out] at this; exact this
  generalize orderOf p = ord at *
  generalize hLL : longestOf p l = L at *
  have HLL := Lib.hid hLL
  clear hLL
  obtain ⟨A2, c2, rfl, -⟩ := id (Rd.of_own o2)
  rw [hlen] at o2 ⊢
  have HO2 := Lib.hid hlen
  clear hlen
  have hsT : IntKind.i64.wrap ((T : Int) - 1) = (T : Int) - 1 := IntWalk.i64_in _ (by omega)
  go_wp2
  go_loopw [7] (fun i wr => ∃ n : Nat, n ≤ T ∧ i = .int .i64 ((n : Int) - 1) ∧ Hid (Ld (latL (esOf p) T L l (ord.drop n)) (T - n)) ∧ Ow intE 3 wr w1.heap.size (.slice (some ⟨w1.heap.size, 0, none⟩) T T) (latL (esOf p) T L l (ord.drop n)) ∧ Ow natE 3 wr (w1.heap.size + 1) (.slice A2 T c2) ord ∧ BoxAt w.heap.size p ve wr ∧ Below w.heap.size w wr) (fun i _ => (intOf i + 1).toNat)
  case atStart => exact ⟨T, Nat.le_refl _, rfl, by rw [List.drop_of_length_le (by rw [HO2.out]; exact Nat.le_refl _)]; exact fun x hx => by have := List.eq_of_mem_replicate hx; subst this; omega, by rw [List.drop_of_length_le (by rw [HO2.out]; exact Nat.le_refl _)]; exact O, o2, D, hb⟩
  case round =>
    clear O o2 D hb hsT
    obtain ⟨n, hn, rfl, hbd, ho, o2, D, hb⟩ := hrel
    cases n with
    | zero =>
      have hltI : ¬ ((0 : Nat) : Int) - 1 ≥ 0 := by omega
      have hbF := hb
      rw [List.drop_zero] at ho
      go_wp2
      go_ret
      exact ⟨_, rfl, by rw [H.out]; exact ho.more (by omega), hbF⟩
    | succ n =>
      have he1 : ((n + 1 : Nat) : Int) - 1 = (n : Int) := by omega
      rw [he1]
      clear he1
      have hnT : n < T := by omega
      have hge : (n : Int) ≥ 0 := by omega
      have hnI : (n : Int) < (T : Int) := by omega
      have hko : n < ord.length := by rw [HO2.out]; exact hnT
      have S0 := Lib.hid (latL_cons (esOf p) T L l ord hko)
      have hEl := latL_len (esOf p) T L l (ord.drop (n + 1))
      have htT : ord[n] < T := hlt0.out _ (List.getElem_mem hko)
      obtain ⟨g2, rfl, hg2, hg2'⟩ := o2.some_ (by omega)
      have ct := o2.nat hko
      generalize hE : latL (esOf p) T L l (ord.drop (n + 1)) = E at *
      have HE := Lib.hid hE
      clear hE
      generalize hkt : ord[n] = t at *
      have Hkt := Lib.hid hkt
      clear hkt
      obtain ⟨x0, x1, x2, x3, x4, xs⟩ := D.cells
      have hblk := ho.blk.2
      go_wp2_with fail
      clear x0 x1 x2 x3 x4 xs ct hblk
      refine (implLongest_any p ve (.slice A l.length c) l _ hl hl2 ((h.below hb).more hb.size) ((h2.below hb).more hb.size)).mono ?_
      rintro e w3 ⟨rfl, b3⟩
      rw [HLL.out]
      have ho := ho.below b3
      have o2 := o2.below b3
      have D := D.below b3
      have hb := bnext hb b3
      clear b3
      have hblk := ho.blk.2
      obtain ⟨x0, x1, x2, x3, x4, xs⟩ := D.cells
      go_wp2_with fail
      clear x0 x1 x2 x3 x4 xs
      refine (implBehind_any p ve t _ HP.out ((h.below hb).more hb.size)).mono ?_
      rintro e w4 ⟨v3, rfl, o3, b3⟩
      rw [HTn.out] at o3
      have o3 := o3.more (base' := w1.heap.size + 1) (by omega)
      have ho := ho.below b3
      have o2 := o2.below b3
      have D := D.below b3
      have hb := bnext hb b3
      have hbl := behindL_len (esOf p) T t
      have hbm : Hid (∀ x ∈ behindL (esOf p) T t, x < T) := fun x hx => by simp [behindL] at hx; exact hx.1
      have hst := Lib.hid (hbd.out.step hLg.out HW.out (behindL (esOf p) T t) t)
      generalize behindL (esOf p) T t = B at *
      obtain ⟨A3, c3, rfl, -⟩ := id (Rd.of_own o3)
      clear b3 hblk
      go_wp2
      go_loop [9, 39] (fun e i => ∃ j : Nat, j ≤ B.length ∧ i = .int .i64 j ∧ e = .int .i64 (latEnd L E (B.take j))) (fun _ i => B.length - (intOf i).toNat)
      case atStart => exact ⟨0, Nat.zero_le _, rfl, rfl⟩
      case round =>
        obtain ⟨j, hj, rfl, rfl⟩ := hrel
        by_cases hjt : j < B.length
        · have hjI : (j : Int) < (B.length : Int) := by omega
          have hbT : B[j] < T := hbm.out _ (List.getElem_mem hjt)
          have hbE : B[j] < E.length := by omega
          have Sj := Lib.hid (latEnd_step (L := L) (o := E) hjt hbE)
          generalize latEnd L E (B.take j) = m at *
          obtain ⟨g3, rfl, hg3, hg3'⟩ := o3.some_ (by omega)
          have cb := o3.nat hjt
          have cO := ho.int hbE
          generalize hbj : B[j] = b at *
          have hbI : (b : Int) < (T : Int) := by omega
          go_wp2
          exact ⟨⟨j + 1, by omega, by go_num, by rw [Sj.out]⟩, by simp [intOf]; omega⟩
        · have hjI : ¬ (j : Int) < (B.length : Int) := by omega
          have hj' : j = B.length := by omega
          subst hj'
          rw [List.take_length]
          have hen := latEnd_bd hLg.out hbd.out B L (by have := hLg.out; omega)
          have htl : t < l.length := by rw [HLl.out]; exact htT
          have htlI : (t : Int) < (l.length : Int) := by omega
          have htI : (t : Int) < (T : Int) := by omega
          have htO : t < E.length := by omega
          obtain ⟨bw, ow, rfl, hbw, cw⟩ := (h2.below hb).int htl
          have hwt := HW.out _ (List.getElem_mem htl)
          have hS2 := Lib.hid (show l.getD t 0 = l[t] by simp [List.getD_eq_getElem?_getD, htl])
          have hput := Lib.hid (Ow.put ho hEl t htT (latEnd L E B - l[t]))
          generalize latEnd L E B = m at *
          have hs : IntKind.i64.wrap (m - l[t]) = m - l[t] := IntWalk.i64_in _ (by omega)
          have cO := ho.int htO
          have hf := ho.free
          clear hwt hen
          go_wp2
          refine ⟨⟨n, by omega, rfl, by rw [S0.out, hS2.out] at *; exact fun x hx => by have := hst.out x hx; omega, ?_, o2.setOther (by simp [Value.ownBlock]; omega) _, D.other (by simp; omega) _, hb.setCell (by simp; omega) _⟩, by simp [intOf]⟩
          rw [S0.out, hS2.out]
          have := hput.out.1
          simp only [intE, Nat.mul_one] at this
          exact this
end Go.Proofs.Ytnaicippgocdfaa
end
section
namespace Go.Proofs.Ytnaicippgocdfaa
open Go.RowKit
set_option maxRecDepth 100000
set_option maxHeartbeats 3000000

theorem specLatest_any (p : Plan) (ve v : Value) (l : List Int) (w : World) (hl : p.edges.length ≤ 2000000) (hl2 : l.length ≤ 2000000) (h : Rd edgeE w w.heap.size ve p.edges) (h2 : Rd intE w w.heap.size v l) :
    Calls Try.prog 40 #[planV p ve, v] w fun e w' => ∃ u, e = .returned u ∧ Ow intE 3 w' w.heap.size u (latestOf p l) ∧ Below w.heap.size w w' := by
  obtain ⟨A, c, rfl, -⟩ := id h2
  have hb0 := planBox_below 26 p ve w
  have D0 := BoxAt.new 26 p ve w
  cases hf : weightsOk p l
  · have H := Lib.hid (show latestOf p l = [] by simp [latestOf, hf])
    have HF := Lib.hid hf
    clear hf
    unfold planV
    go_enter Try.func40, Try.ntmps40
    go_wp2_with fail
    refine (specWeightsOk_any p ve (.slice A l.length c) l _ hl hl2 ((h.below hb0).more hb0.size) ((h2.below hb0).more hb0.size)).mono ?_
    rintro e w1 ⟨rfl, hb1⟩
    rw [HF.out]
    have hb := bnext hb0 hb1
    go_wp2
    go_ret
    exact ⟨_, rfl, by rw [H.out]; exact (Ow.empty intE 3 w1 rfl).more hb.size, hb.alloc hb.size _⟩
  obtain ⟨g1, g2, g3⟩ := weightsOk_all hf
  have G := Lib.hid (planFault_zero.1 g1)
  have HF := Lib.hid hf
  have HP := Lib.hid g1
  have HW := Lib.hid g3
  obtain ⟨t1, t2⟩ := manyOk_tasks G.out.1
  obtain ⟨T, hT⟩ := Int.eq_ofNat_of_zero_le (show 0 ≤ p.tasks by omega)
  have HT := Lib.hid hT
  have HTn := Lib.hid (show p.tasks.toNat = T by omega)
  have hT12 : T ≤ 12 := by omega
  have HLl := Lib.hid (show l.length = T by omega)
  have H := Lib.hid (show latestOf p l = latL (esOf p) T (longestOf p l) l (orderOf p) by unfold latestOf; rw [if_pos hf, HTn.out])
  have hLg : Hid (0 ≤ longestOf p l ∧ longestOf p l ≤ 145000) := Lib.hid (longUpto_bd (earliestOf_bd p l) g3 _)
  have hO := Lib.hid (orderOf_inv g1)
  obtain ⟨j0, hj0, jz0, jz1, jz2⟩ := info_parts int_info
  have hmk : ∀ w : World, (Instr.makeSlice 27 (.int .i64 p.tasks) (.int .i64 p.tasks)).run Try.prog w = .ok (.slice (some ⟨w.heap.size, 0, none⟩) T T) (w.alloc (.cells (madeCells #[.int .i64 0] (T * 1)) 3)) := by
    intro w
    have := run_make (P := Try.prog) w 27 3 j0 _ Try.underlying27 hj0 jz0 .i64 .i64 T T (by omega) (by omega) (by rw [jz2]; omega) (by omega)
    rw [jz1] at this
    rw [hT]
    simpa [Value.cells] using this
  clear hf g1 g2 g3 hT
  unfold planV
  go_enter Try.func40, Try.ntmps40
  go_wp2_with fail
  refine (specWeightsOk_any p ve (.slice A l.length c) l _ hl hl2 ((h.below hb0).more hb0.size) ((h2.below hb0).more hb0.size)).mono ?_
  rintro e w1 ⟨rfl, hb1⟩
  rw [HF.out]
  have D := D0.below hb1
  have hb := bnext hb0 hb1
  obtain ⟨x0, x1, x2, x3, x4, xs⟩ := D.cells
  go_wp2_with fail
  clear x0 x1 x2 x3 x4 hmk D0 hb0 hb1
  have O1 := Ow.made intE 3 w1 0 T (by decide) (by simp [maxLen]; omega) (z := #[.int .i64 0]) rfl (m := T) (by simp [intE])
  have ha := (Below.refl w1.heap.size w1).alloc (Nat.le_refl _) (.cells (madeCells #[.int .i64 0] T) 3)
  have hsz1 : (w1.alloc (.cells (madeCells #[.int .i64 0] T) 3)).heap.size = w1.heap.size + 1 := by simp
  have Hsz1 := Lib.hid hsz1
  have D := D.below ha
  have hb := bnext hb ha
  clear ha hsz1
  refine (specOrder_any p ve _ hl ((h.below hb).more hb.size)).mono ?_
  rintro e w2 ⟨v2, rfl, o2, hb2⟩
  have o2 := o2.more (base' := w1.heap.size + 1) (by rw [Hsz1.out]; omega)
  have O := O1.below hb2
  have D := D.below hb2
  have hb := bnext hb hb2
  have hX := xs
  clear O1 xs hb2
  have hlen : (orderOf p).length = T := by rw [hO.out.len, HTn.out]
  have hlt0 : Hid (∀ x ∈ orderOf p, x < T) := fun x hx => by have := hO.out.lt x hx; rw [HTn.out] at this; exact this
  generalize orderOf p = ord at *
  generalize hLL : longestOf p l = L at *
  have HLL := Lib.hid hLL
  clear hLL
  obtain ⟨A2, c2, rfl, -⟩ := id (Rd.of_own o2)
  rw [hlen] at o2 ⊢
  have HO2 := Lib.hid hlen
  clear hlen
  have hsT : IntKind.i64.wrap ((T : Int) - 1) = (T : Int) - 1 := IntWalk.i64_in _ (by omega)
  go_wp2
  go_loopw [7] (fun i wr => ∃ n : Nat, n ≤ T ∧ i = .int .i64 ((n : Int) - 1) ∧ Hid (Ld (latL (esOf p) T L l (ord.drop n)) (T - n)) ∧ Ow intE 3 wr w1.heap.size (.slice (some ⟨w1.heap.size, 0, none⟩) T T) (latL (esOf p) T L l (ord.drop n)) ∧ Ow natE 3 wr (w1.heap.size + 1) (.slice A2 T c2) ord ∧ BoxAt w.heap.size p ve wr ∧ Below w.heap.size w wr) (fun i _ => (intOf i + 1).toNat)
  case atStart => exact ⟨T, Nat.le_refl _, rfl, by rw [List.drop_of_length_le (by rw [HO2.out]; exact Nat.le_refl _)]; exact fun x hx => by have := List.eq_of_mem_replicate hx; subst this; omega, by rw [List.drop_of_length_le (by rw [HO2.out]; exact Nat.le_refl _)]; exact O, o2, D, hb⟩
  case round =>
    clear O o2 D hb hsT
    obtain ⟨n, hn, rfl, hbd, ho, o2, D, hb⟩ := hrel
    cases n with
    | zero =>
      have hltI : ¬ ((0 : Nat) : Int) - 1 ≥ 0 := by omega
      have hbF := hb
      rw [List.drop_zero] at ho
      go_wp2
      go_ret
      exact ⟨_, rfl, by rw [H.out]; exact ho.more (by omega), hbF⟩
    | succ n =>
      have he1 : ((n + 1 : Nat) : Int) - 1 = (n : Int) := by omega
      rw [he1]
      clear he1
      have hnT : n < T := by omega
      have hge : (n : Int) ≥ 0 := by omega
      have hnI : (n : Int) < (T : Int) := by omega
      have hko : n < ord.length := by rw [HO2.out]; exact hnT
      have S0 := Lib.hid (latL_cons (esOf p) T L l ord hko)
      have hEl := latL_len (esOf p) T L l (ord.drop (n + 1))
      have htT : ord[n] < T := hlt0.out _ (List.getElem_mem hko)
      obtain ⟨g2, rfl, hg2, hg2'⟩ := o2.some_ (by omega)
      have ct := o2.nat hko
      generalize hE : latL (esOf p) T L l (ord.drop (n + 1)) = E at *
      have HE := Lib.hid hE
      clear hE
      generalize hkt : ord[n] = t at *
      have Hkt := Lib.hid hkt
      clear hkt
      obtain ⟨x0, x1, x2, x3, x4, xs⟩ := D.cells
      have hblk := ho.blk.2
      go_wp2_with fail
      clear x0 x1 x2 x3 x4 xs ct hblk
      refine (specLongest_any p ve (.slice A l.length c) l _ hl hl2 ((h.below hb).more hb.size) ((h2.below hb).more hb.size)).mono ?_
      rintro e w3 ⟨rfl, b3⟩
      rw [HLL.out]
      have ho := ho.below b3
      have o2 := o2.below b3
      have D := D.below b3
      have hb := bnext hb b3
      clear b3
      have hblk := ho.blk.2
      obtain ⟨x0, x1, x2, x3, x4, xs⟩ := D.cells
      go_wp2_with fail
      clear x0 x1 x2 x3 x4 xs
      refine (specBehind_any p ve t _ G.out.1 G.out.2.1 G.out.2.2.1 ((h.below hb).more hb.size)).mono ?_
      rintro e w4 ⟨v3, rfl, o3, b3⟩
      rw [HTn.out] at o3
      have o3 := o3.more (base' := w1.heap.size + 1) (by omega)
      have ho := ho.below b3
      have o2 := o2.below b3
      have D := D.below b3
      have hb := bnext hb b3
      have hbl := behindL_len (esOf p) T t
      have hbm : Hid (∀ x ∈ behindL (esOf p) T t, x < T) := fun x hx => by simp [behindL] at hx; exact hx.1
      have hst := Lib.hid (hbd.out.step hLg.out HW.out (behindL (esOf p) T t) t)
      generalize behindL (esOf p) T t = B at *
      obtain ⟨A3, c3, rfl, -⟩ := id (Rd.of_own o3)
      clear b3 hblk
      go_wp2
      go_loopw [9, 11] (fun e i wr => ∃ j : Nat, j ≤ B.length ∧ i = .int .i64 j ∧ e = .int .i64 (latEnd L E (B.take j)) ∧ Ow intE 3 wr w1.heap.size (.slice (some ⟨w1.heap.size, 0, none⟩) T T) E ∧ Ow natE 3 wr (w1.heap.size + 1) (.slice (some ⟨g2, 0, none⟩) T c2) ord ∧ Ow natE 3 wr (w1.heap.size + 1) (.slice A3 B.length c3) B ∧ BoxAt w.heap.size p ve wr ∧ Below w.heap.size w wr) (fun _ i _ => B.length - (intOf i).toNat)
      case atStart => exact ⟨0, Nat.zero_le _, rfl, rfl, ho, o2, o3, D, hb⟩
      case round =>
        clear ho o2 o3 D hb
        obtain ⟨j, hj, rfl, rfl, ho, o2, o3, D, hb⟩ := hrel
        by_cases hjt : j < B.length
        · have hjI : (j : Int) < (B.length : Int) := by omega
          have hbT : B[j] < T := hbm.out _ (List.getElem_mem hjt)
          have hbE : B[j] < E.length := by omega
          have Sj := Lib.hid (latEnd_step (L := L) (o := E) hjt hbE)
          generalize latEnd L E (B.take j) = m at *
          obtain ⟨g3, rfl, hg3, hg3'⟩ := o3.some_ (by omega)
          have cb := o3.nat hjt
          have cO := ho.int hbE
          generalize hbj : B[j] = b at *
          have Hbj := Lib.hid hbj
          clear hbj
          have hbI : (b : Int) < (T : Int) := by omega
          by_cases hgt : E[b] < m
          · have hmin := Lib.hid (show min m E[b] = E[b] by omega)
            go_wp2
            exact ⟨⟨j + 1, by omega, by go_num, by rw [Sj.out, hmin.out], ho, o2, o3, D, hb⟩, by simp [intOf]; omega⟩
          · have hmin := Lib.hid (show min m E[b] = m by omega)
            have hdec : decide (E[b] < m) = false := by simpa using hgt
            go_wp2
            exact ⟨⟨j + 1, by omega, by go_num, by rw [Sj.out, hmin.out], ho, o2, o3, D, hb⟩, by simp [intOf]; omega⟩
        · have hjI : ¬ (j : Int) < (B.length : Int) := by omega
          have hj' : j = B.length := by omega
          subst hj'
          rw [List.take_length]
          have hen := latEnd_bd hLg.out hbd.out B L (by have := hLg.out; omega)
          have htl : t < l.length := by rw [HLl.out]; exact htT
          have htlI : (t : Int) < (l.length : Int) := by omega
          have htI : (t : Int) < (T : Int) := by omega
          have htO : t < E.length := by omega
          obtain ⟨bw, ow, rfl, hbw, cw⟩ := (h2.below hb).int htl
          have hwt := HW.out _ (List.getElem_mem htl)
          have hS2 := Lib.hid (show l.getD t 0 = l[t] by simp [List.getD_eq_getElem?_getD, htl])
          have hput := Lib.hid (Ow.put ho hEl t htT (latEnd L E B - l[t]))
          generalize latEnd L E B = m at *
          have hs : IntKind.i64.wrap (m - l[t]) = m - l[t] := IntWalk.i64_in _ (by omega)
          have cO := ho.int htO
          have hf := ho.free
          clear hwt hen
          go_wp2
          refine ⟨⟨n, by omega, rfl, by rw [S0.out, hS2.out] at *; exact fun x hx => by have := hst.out x hx; omega, ?_, o2.setOther (by simp [Value.ownBlock]; omega) _, D.other (by simp; omega) _, hb.setCell (by simp; omega) _⟩, by simp [intOf]⟩
          rw [S0.out, hS2.out]
          have := hput.out.1
          simp only [intE, Nat.mul_one] at this
          exact this
end Go.Proofs.Ytnaicippgocdfaa
end
section
namespace Go.Proofs.Ytnaicippgocdfaa
open Go.RowKit
set_option maxRecDepth 100000
set_option maxHeartbeats 2000000

def slackL (E L : List Int) (k : Nat) : List Int := (List.range k).map fun j => L.getD j 0 - E.getD j 0
noncomputable def slackOf (p : Plan) (l : List Int) : List Int := slackL (earliestOf p l) (latestOf p l) (latestOf p l).length
theorem slackL_len (E L : List Int) (k : Nat) : (slackL E L k).length = k := by simp [slackL]
theorem slackL_succ {E L : List Int} {k : Nat} (hE : k < E.length) (hL : k < L.length) : slackL E L (k + 1) = slackL E L k ++ [L[k] - E[k]] := by
  unfold slackL
  rw [List.range_succ, List.map_append]
  simp [List.getD_eq_getElem?_getD, hE, hL]
theorem slackOf_len (p : Plan) (l : List Int) : (slackOf p l).length ≤ 12 := by
  unfold slackOf
  rw [slackL_len]
  exact latestOf_len p l
theorem both_len (p : Plan) (l : List Int) : (earliestOf p l).length = (latestOf p l).length := by
  unfold earliestOf latestOf
  split
  · rw [earL_len, latL_len]
  · rfl
/-- the slacks so far, the latest starts from there on -/
def slackMix (E L : List Int) (k : Nat) : List Int := slackL E L k ++ L.drop k
theorem slackMix_len (E L : List Int) {k : Nat} (h : k ≤ L.length) : (slackMix E L k).length = L.length := by
  unfold slackMix
  rw [List.length_append, slackL_len, List.length_drop]
  omega
theorem slackMix_get {E L : List Int} {k : Nat} (h : k < L.length) : (slackMix E L k)[k]? = some L[k] := by
  unfold slackMix
  rw [List.getElem?_append_right (by rw [slackL_len]; exact Nat.le_refl _), slackL_len, Nat.sub_self, List.getElem?_drop]
  simp
theorem slackMix_succ {E L : List Int} {k : Nat} (hE : k < E.length) (hL : k < L.length) : slackMix E L (k + 1) = (slackMix E L k).set k (L[k] - E[k]) := by
  unfold slackMix
  rw [slackL_succ hE hL, List.set_append_right _ _ (by rw [slackL_len]; exact Nat.le_refl _), slackL_len, Nat.sub_self, List.drop_eq_getElem_cons hL, List.set_cons_zero, List.append_assoc]
  rfl

theorem implSlack_any (p : Plan) (ve v : Value) (l : List Int) (w : World) (hl : p.edges.length ≤ 2000000) (hl2 : l.length ≤ 2000000) (h : Rd edgeE w w.heap.size ve p.edges) (h2 : Rd intE w w.heap.size v l) :
    Calls Try.prog 37 #[planV p ve, v] w fun e w' => ∃ u, e = .returned u ∧ Ow intE 3 w' w.heap.size u (slackOf p l) ∧ Below w.heap.size w w' := by
  have hb0 := planBox_below 26 p ve w
  have D0 := BoxAt.new 26 p ve w
  have H := Lib.hid (show slackOf p l = slackL (earliestOf p l) (latestOf p l) (latestOf p l).length from rfl)
  have hEb := Lib.hid (earliestOf_bd p l)
  have hLb := Lib.hid (latestOf_bd p l)
  have hLen := both_len p l
  have hL12 := latestOf_len p l
  obtain ⟨j0, hj0, jz0, jz1, jz2⟩ := info_parts int_info
  unfold planV
  go_enter Try.func37, Try.ntmps37
  go_wp2_with fail
  refine (implEarliest_any p ve v l _ hl hl2 ((h.below hb0).more hb0.size) ((h2.below hb0).more hb0.size)).mono ?_
  rintro e w1 ⟨u1, rfl, o1, hb1⟩
  have D := D0.below hb1
  have hb := bnext hb0 hb1
  clear hb0 hb1 D0
  obtain ⟨x0, x1, x2, x3, x4, xs⟩ := D.cells
  go_wp2_with fail
  clear x0 x1 x2 x3 x4 xs
  refine (implLatest_any p ve v l _ hl hl2 ((h.below hb).more hb.size) ((h2.below hb).more hb.size)).mono ?_
  rintro e w2 ⟨u2, rfl, o2, hb2⟩
  have o1 := o1.below hb2
  have hb := bnext hb hb2
  have hsz := hb.size
  clear hb2 D
  generalize earliestOf p l = E at *
  generalize latestOf p l = L at *
  obtain ⟨A1, c1, rfl, -⟩ := id (Rd.of_own o1)
  obtain ⟨A2, c2, rfl, -⟩ := id (Rd.of_own o2)
  have O0 := Ow.nil intE 3 w2 w2.heap.size
  go_wp2
  go_loopw [6, 16] (fun vl i wr => ∃ k : Nat, k ≤ L.length ∧ i = .int .i64 k ∧ Ow intE 3 wr w2.heap.size vl (slackL E L k) ∧ Below w2.heap.size w2 wr) (fun _ i _ => L.length - (intOf i).toNat)
  case atStart => exact ⟨0, Nat.zero_le _, rfl, O0, Below.refl _ _⟩
  case round =>
    clear O0
    obtain ⟨k, hk, rfl, ho, hb2⟩ := hrel
    have o1 := o1.below hb2
    have o2 := o2.below hb2
    have hsz2 := hb2.size
    by_cases hlt : k < L.length
    · have hltI : (k : Int) < (L.length : Int) := by omega
      have hkE : k < E.length := by omega
      have hkEI : (k : Int) < (E.length : Int) := by omega
      have hs := Lib.hid (slackL_succ hkE hlt)
      have hsl := slackL_len E L k
      have he := hEb.out _ (List.getElem_mem hkE)
      have hla := hLb.out _ (List.getElem_mem hlt)
      have hwr : IntKind.i64.wrap (L[k] - E[k]) = L[k] - E[k] := IntWalk.i64_in _ (by omega)
      obtain ⟨g1, rfl, _, _⟩ := o1.some_ (by omega)
      obtain ⟨g2, rfl, _, _⟩ := o2.some_ (by omega)
      have ce := o1.int hkE
      have cl := o2.int hlt
      clear he hla
      have ha : Hid (∀ w : World, Below w.heap.size w (w.alloc (.cells #[.int .i64 (L[k] - E[k])] 3))) := fun w => (Below.refl _ _).alloc (Nat.le_refl _) _
      go_wp2_with (at_builtin; refine wpList_push_all _ intE (by decide) rfl (.tmp 21) (.tmp 28) rfl Try.underlying27 hj0 jz0 jz1 jz2 rfl (l := slackL E L k) rfl (ho.below (ha.out _)) rfl (Rd.one intE _ _ (L[k] - E[k]) rfl rfl 1 (Nat.le_refl _) (Nat.lt_succ_self _)) (by rw [hsl]; omega) (by simp) (by decide) (by simp; omega) ?_; intro v5 w5 o5 g5 _)
      have hb' := bnext hb2 (ha.out _)
      have W5 := hb'.grown g5 hb'.size (fun g hg => by have := ho.within _ hg; omega)
      exact ⟨⟨k + 1, by omega, by go_num, by rw [hs.out]; exact o5, W5⟩, by simp [intOf]; omega⟩
    · have hltI : ¬ (k : Int) < (L.length : Int) := by omega
      have hk' : k = L.length := by omega
      have hbF := hb
      have hb2F := hb2
      subst hk'
      go_wp2
      go_ret
      exact ⟨_, rfl, by rw [H.out]; exact ho.more hsz, bnext hbF hb2F⟩

theorem specSlack_any (p : Plan) (ve v : Value) (l : List Int) (w : World) (hl : p.edges.length ≤ 2000000) (hl2 : l.length ≤ 2000000) (h : Rd edgeE w w.heap.size ve p.edges) (h2 : Rd intE w w.heap.size v l) :
    Calls Try.prog 41 #[planV p ve, v] w fun e w' => ∃ u, e = .returned u ∧ Ow intE 3 w' w.heap.size u (slackOf p l) ∧ Below w.heap.size w w' := by
  have hb0 := planBox_below 26 p ve w
  have D0 := BoxAt.new 26 p ve w
  have H := Lib.hid (show slackOf p l = slackL (earliestOf p l) (latestOf p l) (latestOf p l).length from rfl)
  have hEb := Lib.hid (earliestOf_bd p l)
  have hLb := Lib.hid (latestOf_bd p l)
  have hLen := both_len p l
  have hL12 := latestOf_len p l
  unfold planV
  go_enter Try.func41, Try.ntmps41
  go_wp2_with fail
  refine (specEarliest_any p ve v l _ hl hl2 ((h.below hb0).more hb0.size) ((h2.below hb0).more hb0.size)).mono ?_
  rintro e w1 ⟨u1, rfl, o1, hb1⟩
  have D := D0.below hb1
  have hb := bnext hb0 hb1
  clear hb0 hb1 D0
  obtain ⟨x0, x1, x2, x3, x4, xs⟩ := D.cells
  go_wp2_with fail
  clear x0 x1 x2 x3 x4 xs
  refine (specLatest_any p ve v l _ hl hl2 ((h.below hb).more hb.size) ((h2.below hb).more hb.size)).mono ?_
  rintro e w2 ⟨u2, rfl, o2, hb2⟩
  have q1 := o1.within
  have o1 := o1.below hb2
  have hsz := hb.size
  have hb := bnext hb hb2
  clear hb2 D
  generalize earliestOf p l = E at *
  generalize latestOf p l = L at *
  obtain ⟨A1, c1, rfl, -⟩ := id (Rd.of_own o1)
  obtain ⟨A2, c2, rfl, -⟩ := id (Rd.of_own o2)
  go_wp2
  go_loopw [7] (fun i wr => ∃ k : Nat, k ≤ L.length ∧ i = .int .i64 k ∧ Ow intE 3 wr w1.heap.size (.slice A2 L.length c2) (slackMix E L k) ∧ Ow intE 3 wr (w.heap.size + 1) (.slice A1 E.length c1) E ∧ Below w.heap.size w wr) (fun i _ => L.length - (intOf i).toNat)
  case atStart => exact ⟨0, Nat.zero_le _, rfl, o2, o1.more (by rw [planBox_size]; exact Nat.le_refl _), hb⟩
  case round =>
    clear o1 o2 hb
    obtain ⟨k, hk, rfl, o2, o1, hb⟩ := hrel
    by_cases hlt : k < L.length
    · have hltI : (k : Int) < (L.length : Int) := by omega
      have hkE : k < E.length := by omega
      have hkEI : (k : Int) < (E.length : Int) := by omega
      have hs := Lib.hid (slackMix_succ hkE hlt)
      have hsl := slackMix_len E L hk
      have hg := slackMix_get (E := E) hlt
      generalize slackMix E L k = M at *
      have he := hEb.out _ (List.getElem_mem hkE)
      have hla := hLb.out _ (List.getElem_mem hlt)
      have hkM : k < M.length := by omega
      have hMk : M[k] = L[k] := by rw [List.getElem?_eq_getElem hkM] at hg; exact Option.some.inj hg
      have hwr : IntKind.i64.wrap (L[k] - E[k]) = L[k] - E[k] := IntWalk.i64_in _ (by omega)
      obtain ⟨g1, rfl, _, _⟩ := o1.some_ (by omega)
      obtain ⟨g2, rfl, hg2, _⟩ := o2.some_ (by omega)
      have q2 := q1 g1 rfl
      have ce := o1.int hkE
      have cl := o2.int hkM
      rw [hMk] at cl
      have hput := Lib.hid (Ow.put o2 hsl k hlt (L[k] - E[k]))
      have hf := o2.free
      clear he hla hg hMk
      go_wp2
      go_still_tail 12, (by kernel_rfl)
      change wpList _ _ _ _ _ wr.drew
      go_wp2
      have hdr : ∀ w : World, Below w.heap.size w w.drew := fun w => (Below.refl _ _).drew
      refine ⟨⟨k + 1, by omega, by go_num, ?_, (o1.setOther (by simp [Value.ownBlock]; omega) _).below (hdr _), (hb.setCell (by simp; omega) _).drew⟩, by simp [intOf]; omega⟩
      rw [hs.out]
      have := hput.out.1
      simp only [intE, Nat.mul_one] at this
      exact this.below (hdr _)
    · have hltI : ¬ (k : Int) < (L.length : Int) := by omega
      have hk' : k = L.length := by omega
      have hbF := hb
      have H2 := Lib.hid (show slackMix E L L.length = slackL E L L.length by unfold slackMix; rw [List.drop_length, List.append_nil])
      subst hk'
      go_wp2
      go_ret
      exact ⟨_, rfl, by rw [H.out, ← H2.out]; exact o2.more hsz, hbF⟩
end Go.Proofs.Ytnaicippgocdfaa
end
section
namespace Go.Proofs.Ytnaicippgocdfaa
open Go.RowKit
set_option maxRecDepth 100000
set_option maxHeartbeats 2000000

def tightL (S : List Int) : Nat → List Int
  | 0 => []
  | k + 1 => tightL S k ++ if S.getD k 0 = 0 then [(k : Int)] else []
noncomputable def tightOf (p : Plan) (l : List Int) : List Int := tightL (slackOf p l) (slackOf p l).length
theorem tightL_len (S : List Int) : ∀ k, (tightL S k).length ≤ k
  | 0 => Nat.le_refl _
  | k + 1 => by
    have := tightL_len S k
    rw [tightL, List.length_append]
    split <;> simp <;> omega
theorem tightL_yes {S : List Int} {k : Nat} (h : k < S.length) (h0 : S[k] = 0) : tightL S (k + 1) = tightL S k ++ [(k : Int)] := by
  rw [tightL, if_pos (by simp [List.getD_eq_getElem?_getD, h, h0])]
theorem tightL_no {S : List Int} {k : Nat} (h : k < S.length) (h0 : ¬ S[k] = 0) : tightL S (k + 1) = tightL S k := by
  rw [tightL, if_neg (by simpa [List.getD_eq_getElem?_getD, h] using h0), List.append_nil]
theorem tightOf_len (p : Plan) (l : List Int) : (tightOf p l).length ≤ 12 := Nat.le_trans (tightL_len _ _) (slackOf_len p l)

theorem implTight_any (p : Plan) (ve v : Value) (l : List Int) (w : World) (hl : p.edges.length ≤ 2000000) (hl2 : l.length ≤ 2000000) (h : Rd edgeE w w.heap.size ve p.edges) (h2 : Rd intE w w.heap.size v l) :
    Calls Try.prog 42 #[planV p ve, v] w fun e w' => ∃ u, e = .returned u ∧ Ow intE 3 w' w.heap.size u (tightOf p l) ∧ Below w.heap.size w w' := by
  have hb0 := planBox_below 26 p ve w
  have D0 := BoxAt.new 26 p ve w
  have H := Lib.hid (show tightOf p l = tightL (slackOf p l) (slackOf p l).length from rfl)
  have hL12 := slackOf_len p l
  obtain ⟨j0, hj0, jz0, jz1, jz2⟩ := info_parts int_info
  unfold planV
  go_enter Try.func42, Try.ntmps42
  go_wp2_with fail
  refine (implSlack_any p ve v l _ hl hl2 ((h.below hb0).more hb0.size) ((h2.below hb0).more hb0.size)).mono ?_
  rintro e w2 ⟨u2, rfl, o2, hb1⟩
  have hb := bnext hb0 hb1
  have hsz := hb.size
  clear hb0 hb1 D0
  generalize slackOf p l = L at *
  obtain ⟨A2, c2, rfl, -⟩ := id (Rd.of_own o2)
  have O0 := Ow.nil intE 3 w2 w2.heap.size
  go_wp2
  go_loopw [5, 12] (fun vl i wr => ∃ k : Nat, k ≤ L.length ∧ i = .int .i64 k ∧ Ow intE 3 wr w2.heap.size vl (tightL L k) ∧ Below w2.heap.size w2 wr) (fun _ i _ => L.length - (intOf i).toNat)
  case atStart => exact ⟨0, Nat.zero_le _, rfl, O0, Below.refl _ _⟩
  case round =>
    clear O0
    obtain ⟨k, hk, rfl, ho, hb2⟩ := hrel
    have o2 := o2.below hb2
    have hsz2 := hb2.size
    by_cases hlt : k < L.length
    · have hltI : (k : Int) < (L.length : Int) := by omega
      have hsl := tightL_len L k
      obtain ⟨g2, rfl, _, _⟩ := o2.some_ (by omega)
      have cl := o2.int hlt
      by_cases h0 : L[k] = 0
      · have hs := Lib.hid (tightL_yes hlt h0)
        have hbq : (L[k] == 0) = true := by simpa using h0
        have ha : Hid (∀ w : World, Below w.heap.size w (w.alloc (.cells #[.int .i64 (k : Int)] 3))) := fun w => (Below.refl _ _).alloc (Nat.le_refl _) _
        clear h0
        go_wp2_with (at_builtin; refine wpList_push_all _ intE (by decide) rfl (.tmp 19) (.tmp 21) rfl Try.underlying27 hj0 jz0 jz1 jz2 rfl (l := tightL L k) rfl (ho.below (ha.out _)) rfl (Rd.one intE _ _ (k : Int) rfl rfl 1 (Nat.le_refl _) (Nat.lt_succ_self _)) (by omega) (by simp) (by decide) (by simp; omega) ?_; intro v5 w5 o5 g5 _)
        have hb' := bnext hb2 (ha.out _)
        have W5 := hb'.grown g5 hb'.size (fun g hg => by have := ho.within _ hg; omega)
        exact ⟨⟨k + 1, by omega, by go_num, by rw [hs.out]; exact o5, W5⟩, by simp [intOf]; omega⟩
      · have hs := Lib.hid (tightL_no hlt h0)
        have hbq : (L[k] == 0) = false := by simpa using h0
        clear h0
        go_wp2
        exact ⟨⟨k + 1, by omega, by go_num, by rw [hs.out]; exact ho, hb2⟩, by simp [intOf]; omega⟩
    · have hltI : ¬ (k : Int) < (L.length : Int) := by omega
      have hk' : k = L.length := by omega
      have hbF := hb
      have hb2F := hb2
      subst hk'
      go_wp2
      go_ret
      exact ⟨_, rfl, by rw [H.out]; exact ho.more hsz, bnext hbF hb2F⟩

end Go.Proofs.Ytnaicippgocdfaa
end
section
namespace Go.Proofs.Ytnaicippgocdfaa
open Go.RowKit
set_option maxRecDepth 100000
set_option maxHeartbeats 400000

structure Slot where
  task : Int
  worker : Int
  fr : Int
  to : Int
deriving DecidableEq, Inhabited

def slotE : Enc Slot := { cells := fun s => [.int .i64 s.task, .int .i64 s.worker, .int .i64 s.fr, .int .i64 s.to], sz := 4, len := fun _ => rfl, one := fun _ u hu => by simp at hu; rcases hu with rfl | rfl | rfl | rfl <;> rfl }
@[go_sem] def slotV (s : Slot) : Value := .agg #[.int .i64 s.task, .int .i64 s.worker, .int .i64 s.fr, .int .i64 s.to]

theorem Rd.slot {w : World} {B : Nat} {A : Option Addr} {n c : Nat} {l : List Slot} (h : Rd slotE w B (.slice A n c) l) {k : Nat} (hk : k < l.length) :
    ∃ b o, A = some ⟨b, o, none⟩ ∧ b < B ∧ w.cell? ⟨b, o + k * 4, none⟩ = some (.int .i64 l[k].task) ∧ w.cell? ⟨b, o + k * 4 + 1, none⟩ = some (.int .i64 l[k].worker) ∧ w.cell? ⟨b, o + k * 4 + 2, none⟩ = some (.int .i64 l[k].fr) ∧ w.cell? ⟨b, o + k * 4 + 3, none⟩ = some (.int .i64 l[k].to) := by
  obtain ⟨A', c', hv, _, hA⟩ := h
  obtain ⟨b, o, hA', hb, hc⟩ := hA (by omega)
  simp only [Value.slice.injEq] at hv
  obtain ⟨rfl, _, _⟩ := hv
  exact ⟨b, o, hA', hb, hc k hk 0 _ rfl, hc k hk 1 _ rfl, hc k hk 2 _ rfl, hc k hk 3 _ rfl⟩

theorem Ow.slot {E : TypeId} {w : World} {base g n cap : Nat} {l : List Slot} (h : Ow slotE E w base (.slice (some ⟨g, 0, none⟩) n cap) l) {k : Nat} (hk : k < l.length) :
    w.cell? ⟨g, k * 4, none⟩ = some (.int .i64 l[k].task) ∧ w.cell? ⟨g, k * 4 + 1, none⟩ = some (.int .i64 l[k].worker) ∧ w.cell? ⟨g, k * 4 + 2, none⟩ = some (.int .i64 l[k].fr) ∧ w.cell? ⟨g, k * 4 + 3, none⟩ = some (.int .i64 l[k].to) := by
  rcases h.form with ⟨h1, _⟩ | ⟨g', cap', hv, _, _, _, _, _, hc⟩
  · simp at h1
  · simp only [Value.slice.injEq, Option.some.injEq, Addr.mk.injEq, and_true] at hv
    obtain ⟨rfl, _, _⟩ := hv
    exact ⟨hc k hk 0 _ rfl, hc k hk 1 _ rfl, hc k hk 2 _ rfl, hc k hk 3 _ rfl⟩

theorem slot_info : (Try.prog.info? 34).map (fun i => (i.zero, i.size, i.bytes)) = some (some (slotV ⟨0, 0, 0, 0⟩), 4, 32) := by kernel_rfl

end Go.Proofs.Ytnaicippgocdfaa
end
section
namespace Go.Proofs.Ytnaicippgocdfaa
open Go.RowKit

def clash (s o : Slot) : Bool := (s.worker == o.worker && decide (s.fr < o.to)) && decide (o.fr < s.to)
def slotOk1 (T : Int) (l : List Int) (many : Int) (prev : List Slot) (s : Slot) : Bool :=
  inB s.task 0 (T - 1) && !(prev.any fun x => x.task == s.task) && inB s.fr 0 1000000000 && (s.to == s.fr + l.getD s.task.toNat 0) && inB s.worker 0 (many - 1) && prev.all fun o => !clash s o
/-- the first k slots fit -/
def slsOk (T : Int) (l : List Int) (many : Int) (s : List Slot) (k : Nat) : Prop := ∀ j (h : j < s.length), j < k → slotOk1 T l many (s.take j) s[j] = true
/-- the slot of a task -/
def taskSlot (s : List Slot) (t : Int) : Slot := (s.find? fun x => x.task == t).getD ⟨0, 0, 0, 0⟩
/-- the first k edges fit -/
def edOk (p : Plan) (s : List Slot) (k : Nat) : Prop := ∀ j (h : j < p.edges.length), j < k → ¬ (taskSlot s p.edges[j].to).fr < (taskSlot s p.edges[j].fr).to
def SlotsFit (p : Plan) (l : List Int) (many : Int) (s : List Slot) : Prop :=
  weightsOk p l = true ∧ inB many 1 8 = true ∧ (s.length : Int) = p.tasks ∧ slsOk p.tasks l many s s.length ∧ edOk p s p.edges.length
open Classical in
noncomputable def slotsOk (p : Plan) (l : List Int) (many : Int) (s : List Slot) : Bool := decide (SlotsFit p l many s)
theorem slotsOk_iff {p : Plan} {l : List Int} {many : Int} {s : List Slot} : slotsOk p l many s = true ↔ SlotsFit p l many s := by simp [slotsOk]
theorem slotsOk_no {p : Plan} {l : List Int} {many : Int} {s : List Slot} (h : ¬ SlotsFit p l many s) : slotsOk p l many s = false := by simp [slotsOk, h]

theorem slsOk_zero (T : Int) (l : List Int) (many : Int) (s : List Slot) : slsOk T l many s 0 := fun j _ h => absurd h (by omega)
theorem slsOk_next {T : Int} {l : List Int} {many : Int} {s : List Slot} {k : Nat} (h : slsOk T l many s k) (hk : k < s.length) (h1 : slotOk1 T l many (s.take k) s[k] = true) : slsOk T l many s (k + 1) := by
  intro j hj hjk
  by_cases e : j = k
  · subst e; exact h1
  · exact h j hj (by omega)
theorem slsOk_bad {p : Plan} {l : List Int} {many : Int} {s : List Slot} {k : Nat} (hk : k < s.length) (h1 : slotOk1 p.tasks l many (s.take k) s[k] = false) : slotsOk p l many s = false :=
  slotsOk_no fun h => by
    have := h.2.2.2.1 k hk hk
    rw [h1] at this
    cases this
theorem slotOk1_parts {T : Int} {l : List Int} {many : Int} {prev : List Slot} {s : Slot} (h : slotOk1 T l many prev s = true) :
    (0 ≤ s.task ∧ s.task ≤ T - 1) ∧ (∀ x ∈ prev, x.task ≠ s.task) ∧ (0 ≤ s.fr ∧ s.fr ≤ 1000000000) ∧ s.to = s.fr + l.getD s.task.toNat 0 ∧ (0 ≤ s.worker ∧ s.worker ≤ many - 1) ∧ ∀ o ∈ prev, clash s o = false := by
  simp only [slotOk1, Bool.and_eq_true, inB_iff, Bool.not_eq_true', List.any_eq_false, List.all_eq_true, beq_iff_eq] at h
  obtain ⟨⟨⟨⟨⟨h1, h2⟩, h3⟩, h4⟩, h5⟩, h6⟩ := h
  exact ⟨h1, h2, h3, h4, h5, h6⟩
theorem slotOk1_mk {T : Int} {l : List Int} {many : Int} {prev : List Slot} {s : Slot} (h1 : 0 ≤ s.task ∧ s.task ≤ T - 1) (h2 : ∀ x ∈ prev, x.task ≠ s.task) (h3 : 0 ≤ s.fr ∧ s.fr ≤ 1000000000) (h4 : s.to = s.fr + l.getD s.task.toNat 0)
    (h5 : 0 ≤ s.worker ∧ s.worker ≤ many - 1) (h6 : ∀ o ∈ prev, clash s o = false) : slotOk1 T l many prev s = true := by
  simp only [slotOk1, Bool.and_eq_true, inB_iff, Bool.not_eq_true', List.any_eq_false, List.all_eq_true, beq_iff_eq]
  exact ⟨⟨⟨⟨⟨h1, h2⟩, h3⟩, h4⟩, h5⟩, h6⟩

/-! the tables that the two make -/
def slotTab (T : Nat) (s : List Slot) : List Slot := (List.range T).map fun (t : Nat) => taskSlot s (t : Int)
theorem slotTab_len (T : Nat) (s : List Slot) : (slotTab T s).length = T := by simp [slotTab]
theorem slotTab_nil (T : Nat) : slotTab T [] = List.replicate T ⟨0, 0, 0, 0⟩ := by
  apply List.ext_getElem (by simp [slotTab])
  intro i h1 h2
  simp [slotTab, taskSlot]
theorem slotTab_get {T : Nat} {s : List Slot} {t : Nat} (h : t < (slotTab T s).length) : (slotTab T s)[t] = taskSlot s (t : Int) := by simp [slotTab]
theorem slotTab_snoc {T : Nat} {s : List Slot} {k : Nat} (hk : k < s.length) {t : Nat} (ht : s[k].task = (t : Int)) (hno : ∀ x ∈ s.take k, x.task ≠ s[k].task) : slotTab T (s.take (k + 1)) = (slotTab T (s.take k)).set t s[k] := by
  apply List.ext_getElem (by simp [slotTab])
  intro i h1 h2
  rw [slotTab_get, List.getElem_set]
  rw [take_snoc s k hk]
  unfold taskSlot
  rw [List.find?_append]
  by_cases e : t = i
  · subst e
    rw [if_pos rfl]
    have : (s.take k).find? (fun x => x.task == (t : Int)) = none := by
      rw [List.find?_eq_none]
      intro x hx
      have := hno x hx
      rw [ht] at this
      simpa using this
    rw [this]
    simp [ht]
  · rw [if_neg e, slotTab_get]
    have : [s[k]].find? (fun x => x.task == (i : Int)) = none := by
      rw [List.find?_eq_none]
      intro x hx
      simp only [List.mem_singleton] at hx
      subst hx
      rw [ht]
      simp
      omega
    rw [this, Option.or_none]
    rfl

/-- the bits of the tasks that were met -/
def metN : List Slot → Nat
  | [] => 0
  | x :: s => metN s ||| 1 <<< x.task.toNat
theorem metN_bit : ∀ (s : List Slot) (t : Nat), (∀ x ∈ s, 0 ≤ x.task) → ((metN s).testBit t = s.any fun x => x.task == (t : Int))
  | [], t, _ => by simp [metN]
  | x :: s, t, h => by
    have h0 := h x List.mem_cons_self
    rw [metN, Nat.testBit_or, Pg.bit_one, metN_bit s t (fun y hy => h y (List.mem_cons_of_mem _ hy)), List.any_cons, Bool.or_comm]
    congr 1
    rw [Bool.eq_iff_iff]
    simp only [decide_eq_true_eq, beq_iff_eq]
    omega
theorem metN_lt : ∀ (s : List Slot) (T : Nat), (∀ x ∈ s, x.task.toNat < T) → metN s < 2 ^ T
  | [], T, _ => Nat.two_pow_pos T
  | x :: s, T, h => by
    have h0 := h x List.mem_cons_self
    rw [metN]
    refine Nat.or_lt_two_pow (metN_lt s T fun y hy => h y (List.mem_cons_of_mem _ hy)) ?_
    rw [Nat.shiftLeft_eq, Nat.one_mul]
    exact Nat.pow_lt_pow_right (by omega) h0

/-- where a task stands, from 1 on; 0: it was not met -/
def atOf (s : List Slot) (t : Int) : Int := match s.findIdx? fun x => x.task == t with | some i => i + 1 | none => 0
def atTab (T : Nat) (s : List Slot) : List Int := (List.range T).map fun (t : Nat) => atOf s (t : Int)
theorem atTab_len (T : Nat) (s : List Slot) : (atTab T s).length = T := by simp [atTab]
theorem atTab_nil (T : Nat) : atTab T [] = List.replicate T 0 := by
  apply List.ext_getElem (by simp [atTab])
  intro i h1 h2
  simp [atTab, atOf]
theorem atTab_get {T : Nat} {s : List Slot} {t : Nat} (h : t < (atTab T s).length) : (atTab T s)[t] = atOf s (t : Int) := by simp [atTab]
theorem atOf_zero {s : List Slot} {t : Int} : atOf s t = 0 ↔ ∀ x ∈ s, x.task ≠ t := by
  unfold atOf
  cases h : s.findIdx? fun x => x.task == t with
  | none =>
    rw [List.findIdx?_eq_none_iff] at h
    simp only [true_iff]
    intro x hx
    simpa using h x hx
  | some i =>
    rw [List.findIdx?_eq_some_iff_getElem] at h
    obtain ⟨hi, hp, _⟩ := h
    simp only
    refine ⟨fun h => absurd h (by omega), fun h => ?_⟩
    exact absurd (by simpa using hp) (h _ (List.getElem_mem hi))
theorem atOf_pos {s : List Slot} {t : Int} (h : ∃ x ∈ s, x.task = t) : ∃ i : Nat, ∃ hi : i < s.length, atOf s t = (i : Int) + 1 ∧ s[i] = taskSlot s t := by
  unfold atOf taskSlot
  cases hf : s.findIdx? fun x => x.task == t with
  | none =>
    rw [List.findIdx?_eq_none_iff] at hf
    obtain ⟨x, hx, he⟩ := h
    have := hf x hx
    simp [he] at this
  | some i =>
    rw [List.findIdx?_eq_some_iff_getElem] at hf
    obtain ⟨hi, hp, hno⟩ := hf
    refine ⟨i, hi, rfl, ?_⟩
    have : s.find? (fun x => x.task == t) = some s[i] := by
      rw [List.find?_eq_some_iff_getElem]
      exact ⟨hp, i, hi, rfl, fun j hj => by simpa using hno j hj⟩
    rw [this]
    rfl
theorem atTab_snoc {T : Nat} {s : List Slot} {k : Nat} (hk : k < s.length) {t : Nat} (ht : s[k].task = (t : Int)) (hno : ∀ x ∈ s.take k, x.task ≠ s[k].task) : atTab T (s.take (k + 1)) = (atTab T (s.take k)).set t ((k : Int) + 1) := by
  apply List.ext_getElem (by simp [atTab])
  intro i h1 h2
  rw [atTab_get, List.getElem_set]
  rw [take_snoc s k hk]
  unfold atOf
  rw [List.findIdx?_append]
  by_cases e : t = i
  · subst e
    rw [if_pos rfl]
    have : (s.take k).findIdx? (fun x => x.task == (t : Int)) = none := by
      rw [List.findIdx?_eq_none_iff]
      intro x hx
      have := hno x hx
      rw [ht] at this
      simpa using this
    rw [this]
    simp [ht, List.findIdx?_cons]
    omega
  · rw [if_neg e, atTab_get]
    have : [s[k]].findIdx? (fun x => x.task == (i : Int)) = none := by
      rw [List.findIdx?_eq_none_iff]
      intro x hx
      simp only [List.mem_singleton] at hx
      subst hx
      rw [ht]
      simp
      omega
    rw [this]
    simp [atOf]

/-- as many slots as tasks, no task twice: each task has one -/
theorem all_met {T : Int} {l : List Int} {many : Int} {s : List Slot} (h : slsOk T l many s s.length) (hT : (s.length : Int) = T) (t : Int) (h0 : 0 ≤ t) (h1 : t < T) : ∃ x ∈ s, x.task = t := by
  have hp : ∀ j (hj : j < s.length), (0 ≤ s[j].task ∧ s[j].task ≤ T - 1) ∧ ∀ x ∈ s.take j, x.task ≠ s[j].task := fun j hj => by
    have := slotOk1_parts (h j hj hj)
    exact ⟨this.1, this.2.1⟩
  have hall : ∀ x ∈ s, 0 ≤ x.task ∧ x.task ≤ T - 1 := fun x hx => by
    obtain ⟨j, hj, rfl⟩ := List.getElem_of_mem hx
    exact (hp j hj).1
  apply Classical.byContradiction
  intro hno
  have hnd : (t.toNat :: s.map fun x => x.task.toNat).Nodup := by
    rw [List.nodup_cons]
    constructor
    · intro hm
      obtain ⟨x, hx, he⟩ := List.mem_map.1 hm
      have := hall x hx
      exact hno ⟨x, hx, by omega⟩
    · rw [List.nodup_iff_pairwise_ne, List.pairwise_map, List.pairwise_iff_getElem]
      intro i j hi hj hij he
      have h2 := (hp j hj).2 s[i] (by
        rw [List.mem_take_iff_getElem]
        exact ⟨i, by omega, rfl⟩)
      have h3 := hall _ (List.getElem_mem hi)
      have h4 := hall _ (List.getElem_mem hj)
      exact h2 (by omega)
  have := Pg.nodup_le T.toNat _ hnd (by
    intro x hx
    rcases List.mem_cons.1 hx with rfl | hx
    · omega
    · obtain ⟨y, hy, rfl⟩ := List.mem_map.1 hx
      have := hall y hy
      omega)
  simp at this
  omega
end Go.Proofs.Ytnaicippgocdfaa
end
section
namespace Go.Proofs.Ytnaicippgocdfaa
open Go.RowKit
set_option linter.unusedVariables false

structure Sst where
  out : List Slot
  ends : List Int
  busy : List Int

/-- t was not taken and all that it waits for has ended -/
def beforeOk (ends : List Int) (now : Int) (s : Nat) : Bool := decide (0 ≤ ends.getD s 0) && decide (ends.getD s 0 ≤ now)
def mayStart (es : List (Nat × Nat)) (T : Nat) (ends : List Int) (now : Int) (t : Nat) : Bool := decide (ends.getD t 0 < 0) && (beforeL es T t).all (beforeOk ends now)
def nextT (es : List (Nat × Nat)) (T : Nat) (ends : List Int) (now : Int) : Option Nat := (List.range T).find? (mayStart es T ends now)
def sTake (l : List Int) (now : Int) (st : Sst) (k t : Nat) : Sst := ⟨st.out ++ [⟨(t : Int), (k : Int), now, now + l.getD t 0⟩], st.ends.set t (now + l.getD t 0), st.busy.set k (now + l.getD t 0)⟩
def sStep (es : List (Nat × Nat)) (T : Nat) (l : List Int) (now : Int) (st : Sst) (k : Nat) : Sst :=
  if now < st.busy.getD k 0 then st else match nextT es T st.ends now with
    | none => st
    | some t => sTake l now st k t
def sPart (es : List (Nat × Nat)) (T : Nat) (l : List Int) (now : Int) (st : Sst) : Nat → Sst
  | 0 => st
  | k + 1 => sStep es T l now (sPart es T l now st k) k
def nextI (now : Int) (L : List Int) : Int := L.foldl (fun n x => if now < x ∧ (n = 0 ∨ x < n) then x else n) 0
def nextS (now : Int) (L : List Int) : Int := L.foldl (fun n x => if now < x ∧ (n < 0 ∨ x < n) then x else n) (-1)
def sGo (es : List (Nat × Nat)) (T : Nat) (l : List Int) (m : Nat) : Nat → Int → Sst → List Slot
  | 0, _, st => st.out
  | f + 1, now, st => if T ≤ st.out.length then st.out else sGo es T l m f (nextI now (sPart es T l now st m).busy) (sPart es T l now st m)
def sStart (T m : Nat) : Sst := ⟨[], List.replicate T (-1), List.replicate m 0⟩

theorem nextT_some {es : List (Nat × Nat)} {T : Nat} {ends : List Int} {now : Int} {t : Nat} (h : nextT es T ends now = some t) : t < T ∧ mayStart es T ends now t = true := by
  have hm := List.find?_some h
  have hr := List.mem_of_find?_eq_some h
  exact ⟨by simpa using hr, hm⟩
theorem nextT_first {es : List (Nat × Nat)} {T t : Nat} {ends : List Int} {now : Int} (htT : t < T) (hm : mayStart es T ends now t = true) (hno : ∀ s, s < t → mayStart es T ends now s = false) : nextT es T ends now = some t := by
  unfold nextT
  rw [List.find?_eq_some_iff_getElem]
  refine ⟨hm, t, by simpa using htT, by simp, fun j hj => ?_⟩
  simp [hno j hj]
theorem nextT_none {es : List (Nat × Nat)} {T : Nat} {ends : List Int} {now : Int} (hno : ∀ s, s < T → mayStart es T ends now s = false) : nextT es T ends now = none := by
  unfold nextT
  rw [List.find?_eq_none]
  intro x hx
  simp [hno x (by simpa using hx)]
theorem sStep_busy {es : List (Nat × Nat)} {T : Nat} {l : List Int} {now : Int} {st : Sst} {k : Nat} (h : now < st.busy.getD k 0) : sStep es T l now st k = st := by rw [sStep, if_pos h]
theorem sStep_none {es : List (Nat × Nat)} {T : Nat} {l : List Int} {now : Int} {st : Sst} {k : Nat} (h : nextT es T st.ends now = none) : sStep es T l now st k = st := by
  rw [sStep, h]
  split <;> rfl
theorem sStep_some {es : List (Nat × Nat)} {T : Nat} {l : List Int} {now : Int} {st : Sst} {k t : Nat} (hb : ¬ now < st.busy.getD k 0) (h : nextT es T st.ends now = some t) : sStep es T l now st k = sTake l now st k t := by
  rw [sStep, if_neg hb, h]
theorem sPart_none {es : List (Nat × Nat)} {T : Nat} {l : List Int} {now : Int} {st : Sst} {k : Nat} (h : nextT es T (sPart es T l now st k).ends now = none) : ∀ n, sPart es T l now st (k + n) = sPart es T l now st k
  | 0 => rfl
  | n + 1 => by
    have ih := sPart_none h n
    show sStep es T l now (sPart es T l now st (k + n)) (k + n) = _
    rw [ih]
    exact sStep_none h

theorem setD {α : Type} (L : List α) (i j : Nat) (x d : α) (h : i < L.length) : (L.set i x).getD j d = if i = j then x else L.getD j d := by
  rw [List.getD_eq_getElem?_getD, List.getElem?_set, List.getD_eq_getElem?_getD]
  by_cases e : i = j
  · subst e; simp [h]
  · simp [e]
theorem getD_at {α : Type} {L : List α} {i : Nat} (h : i < L.length) (d : α) : L.getD i d = L[i] := by simp [List.getD_eq_getElem?_getD, h]
theorem getD_mem {α : Type} {L : List α} {i : Nat} (h : i < L.length) (d : α) : L.getD i d ∈ L := by rw [getD_at h]; exact List.getElem_mem h

/-- the plan's graph and weights are right -/
structure SOk (es : List (Nat × Nat)) (T : Nat) (l : List Int) (m : Nat) : Prop where
  lt1 : ∀ e ∈ es, e.1 < T
  lt2 : ∀ e ∈ es, e.2 < T
  ac : ∀ t, t < T → ¬ Pg.Reach es t t
  T12 : T ≤ 12
  len : l.length = T
  wt : ∀ x ∈ l, 1 ≤ x ∧ x ≤ 1000
  m1 : 1 ≤ m
  m8 : m ≤ 8
theorem SOk.w {es : List (Nat × Nat)} {T : Nat} {l : List Int} {m : Nat} (h : SOk es T l m) {t : Nat} (ht : t < T) : 1 ≤ l.getD t 0 ∧ l.getD t 0 ≤ 1000 := h.wt _ (getD_mem (by rw [h.len]; exact ht) 0)

/-- what holds at each step -/
structure SInv (es : List (Nat × Nat)) (T : Nat) (l : List Int) (m : Nat) (now : Int) (st : Sst) : Prop where
  le : st.ends.length = T
  lb : st.busy.length = m
  now0 : 0 ≤ now
  nowL : now ≤ 1000 * st.out.length
  busyL : ∀ k, k < m → 0 ≤ st.busy.getD k 0 ∧ st.busy.getD k 0 ≤ 1000 * st.out.length
  endsL : ∀ t, t < T → -1 ≤ st.ends.getD t 0 ∧ st.ends.getD t 0 ≤ 1000 * st.out.length
  fit : slsOk T l m st.out st.out.length
  ended : ∀ x ∈ st.out, st.ends.getD x.task.toNat 0 = x.to
  begun : ∀ t, t < T → 0 ≤ st.ends.getD t 0 → ∃ x ∈ st.out, x.task = t
  byWho : ∀ x ∈ st.out, x.to ≤ st.busy.getD x.worker.toNat 0 ∧ x.fr ≤ now
  ahead : ∀ e ∈ es, ∀ y ∈ st.out, y.task = (e.2 : Int) → ∃ x ∈ st.out, x.task = (e.1 : Int) ∧ x.to ≤ y.fr
  b2e : ∀ k, k < m → now < st.busy.getD k 0 → ∃ t, t < T ∧ st.ends.getD t 0 = st.busy.getD k 0
  e2b : ∀ t, t < T → now < st.ends.getD t 0 → ∃ k, k < m ∧ st.busy.getD k 0 = st.ends.getD t 0

section
variable {es : List (Nat × Nat)} {T : Nat} {l : List Int} {m : Nat} {now : Int} {st : Sst}

theorem SInv.parts (h : SInv es T l m now st) {x : Slot} (hx : x ∈ st.out) : (0 ≤ x.task ∧ x.task < T) ∧ (0 ≤ x.fr ∧ x.fr ≤ 1000000000) ∧ x.to = x.fr + l.getD x.task.toNat 0 ∧ (0 ≤ x.worker ∧ x.worker < m) := by
  obtain ⟨j, hj, rfl⟩ := List.getElem_of_mem hx
  obtain ⟨h1, _, h3, h4, h5, _⟩ := slotOk1_parts (h.fit j hj hj)
  exact ⟨by omega, h3, h4, by omega⟩
theorem SInv.short (h : SInv es T l m now st) : st.out.length ≤ T := by
  have hp : ∀ j (hj : j < st.out.length), ∀ x ∈ st.out.take j, x.task ≠ st.out[j].task := fun j hj => (slotOk1_parts (h.fit j hj hj)).2.1
  have hnd : (st.out.map fun x => x.task.toNat).Nodup := by
    rw [List.nodup_iff_pairwise_ne, List.pairwise_map, List.pairwise_iff_getElem]
    intro i j hi hj hij he
    have h2 := hp j hj st.out[i] (by
      rw [List.mem_take_iff_getElem]
      exact ⟨i, by omega, rfl⟩)
    have h3 := h.parts (List.getElem_mem hi)
    have h4 := h.parts (List.getElem_mem hj)
    exact h2 (by omega)
  have := Pg.nodup_le T _ hnd (by
    intro x hx
    obtain ⟨y, hy, rfl⟩ := List.mem_map.1 hx
    have := h.parts hy
    omega)
  simpa using this
theorem SInv.start (ho : SOk es T l m) : SInv es T l m 0 (sStart T m) := by
  have hb : ∀ k, (List.replicate m (0 : Int)).getD k 0 = 0 := fun k => by
    rw [List.getD_eq_getElem?_getD, List.getElem?_replicate]
    split <;> rfl
  have he : ∀ t, t < T → (List.replicate T (-1 : Int)).getD t 0 = -1 := fun t ht => by
    rw [List.getD_eq_getElem?_getD, List.getElem?_replicate, if_pos ht]
    rfl
  refine ⟨by simp [sStart], by simp [sStart], by omega, by simp [sStart], ?_, ?_, fun j hj => absurd hj (by simp [sStart]), ?_, ?_, ?_, ?_, ?_, ?_⟩
  · intro k _
    show 0 ≤ (List.replicate m (0 : Int)).getD k 0 ∧ (List.replicate m (0 : Int)).getD k 0 ≤ _
    rw [hb]; simp [sStart]
  · intro t ht
    show -1 ≤ (List.replicate T (-1 : Int)).getD t 0 ∧ (List.replicate T (-1 : Int)).getD t 0 ≤ _
    rw [he t ht]; simp [sStart]
  · intro x hx; simp [sStart] at hx
  · intro t ht h
    change 0 ≤ (List.replicate T (-1 : Int)).getD t 0 at h
    rw [he t ht] at h; omega
  · intro x hx; simp [sStart] at hx
  · intro e _ y hy; simp [sStart] at hy
  · intro k _ h
    change 0 < (List.replicate m (0 : Int)).getD k 0 at h
    rw [hb] at h; omega
  · intro t ht h
    change 0 < (List.replicate T (-1 : Int)).getD t 0 at h
    rw [he t ht] at h; omega

theorem mayStart_iff (ho : ∀ e ∈ es, e.1 < T) {ends : List Int} {t : Nat} : mayStart es T ends now t = true ↔ ends.getD t 0 < 0 ∧ ∀ s, (s, t) ∈ es → 0 ≤ ends.getD s 0 ∧ ends.getD s 0 ≤ now := by
  unfold mayStart beforeOk beforeL
  simp only [Bool.and_eq_true, decide_eq_true_eq, List.all_eq_true, List.mem_filter, List.mem_range, and_imp]
  exact ⟨fun h => ⟨h.1, fun s hs => h.2 s (ho _ hs) hs⟩, fun h => ⟨h.1, fun s _ hs => h.2 s hs⟩⟩

theorem SInv.take (ho : SOk es T l m) (h : SInv es T l m now st) {k t : Nat} (hk : k < m) (hb : ¬ now < st.busy.getD k 0) (hn : nextT es T st.ends now = some t) (h12 : st.out.length < T) : SInv es T l m now (sTake l now st k t) := by
  obtain ⟨htT, hm⟩ := nextT_some hn
  obtain ⟨h0, hpre⟩ := (mayStart_iff ho.lt1).1 hm
  have hw := ho.w htT
  have hs := h.short
  have hT := ho.T12
  have hnl := h.nowL
  have hn0 := h.now0
  have hlen : (sTake l now st k t).out.length = st.out.length + 1 := by simp [sTake]
  have hE : ∀ s, (sTake l now st k t).ends.getD s 0 = if t = s then now + l.getD t 0 else st.ends.getD s 0 := fun s => setD _ _ _ _ _ (by rw [h.le]; exact htT)
  have hB : ∀ s, (sTake l now st k t).busy.getD s 0 = if k = s then now + l.getD t 0 else st.busy.getD s 0 := fun s => setD _ _ _ _ _ (by rw [h.lb]; exact hk)
  have hmem : ∀ x, x ∈ (sTake l now st k t).out ↔ x ∈ st.out ∨ x = ⟨(t : Int), (k : Int), now, now + l.getD t 0⟩ := fun x => by simp [sTake]
  have hnew : ∀ x ∈ st.out, x.task ≠ (t : Int) := by
    intro x hx he
    have h1 := h.ended x hx
    have h2 := h.parts hx
    rw [he, Int.toNat_natCast] at h1
    have h3 := ho.w (t := x.task.toNat) (by omega)
    omega
  refine ⟨by simp [sTake, h.le], by simp [sTake, h.lb], hn0, by rw [hlen]; omega, ?_, ?_, ?_, ?_, ?_, ?_, ?_, ?_, ?_⟩
  · intro i hi
    have := h.busyL i hi
    rw [hB, hlen]
    split <;> omega
  · intro i hi
    have := h.endsL i hi
    rw [hE, hlen]
    split <;> omega
  · have hso : (sTake l now st k t).out = st.out ++ [⟨(t : Int), (k : Int), now, now + l.getD t 0⟩] := rfl
    intro j hj hjk
    by_cases e : j < st.out.length
    · have := h.fit j e e
      rw [show (sTake l now st k t).out[j] = st.out[j] from by simp [hso, List.getElem_append_left e]]
      rw [show (sTake l now st k t).out.take j = st.out.take j from by rw [hso, List.take_append_of_le_length (by omega)]]
      exact this
    · have hj' : j = st.out.length := by omega
      subst hj'
      rw [show (sTake l now st k t).out[st.out.length] = ⟨(t : Int), (k : Int), now, now + l.getD t 0⟩ from by simp [hso]]
      rw [show (sTake l now st k t).out.take st.out.length = st.out from by rw [hso, List.take_append_of_le_length (Nat.le_refl _), List.take_length]]
      refine slotOk1_mk ?_ ?_ ?_ ?_ ?_ ?_
      · simp only; omega
      · intro x hx; exact hnew x hx
      · simp only; omega
      · simp
      · simp only; omega
      · intro o hox
        have h1 := h.byWho o hox
        have h2 := h.parts hox
        simp only [clash, Bool.and_eq_false_iff, beq_eq_false_iff_ne, decide_eq_false_iff_not]
        by_cases e : (k : Int) = o.worker
        · have : o.worker.toNat = k := by omega
          rw [this] at h1
          left; right; omega
        · left; left; exact e
  · intro x hx
    rw [hE]
    rcases (hmem x).1 hx with hx | rfl
    · have h1 := hnew x hx
      have h2 := h.parts hx
      rw [if_neg (by omega)]
      exact h.ended x hx
    · simp
  · intro i hi h1
    rw [hE] at h1
    by_cases e : t = i
    · subst e; exact ⟨_, (hmem _).2 (.inr rfl), rfl⟩
    · rw [if_neg e] at h1
      obtain ⟨x, hx, hxt⟩ := h.begun i hi h1
      exact ⟨x, (hmem _).2 (.inl hx), hxt⟩
  · intro x hx
    rw [hB]
    rcases (hmem x).1 hx with hx | rfl
    · have := h.byWho x hx
      split
      · rename_i e
        rw [← e] at this
        omega
      · exact this
    · simp
  · intro e he y hy hye
    rcases (hmem y).1 hy with hy | rfl
    · obtain ⟨x, hx, h1, h2⟩ := h.ahead e he y hy hye
      exact ⟨x, (hmem _).2 (.inl hx), h1, h2⟩
    · simp only at hye
      have het : e.2 = t := by omega
      obtain ⟨h1, h2⟩ := hpre e.1 (by rw [← het]; exact he)
      obtain ⟨x, hx, hxt⟩ := h.begun e.1 (ho.lt1 e he) h1
      refine ⟨x, (hmem _).2 (.inl hx), hxt, ?_⟩
      have h3 := h.ended x hx
      rw [hxt, Int.toNat_natCast] at h3
      simp only
      omega
  · intro i hi h1
    rw [hB] at h1 ⊢
    by_cases e : k = i
    · rw [if_pos e]
      exact ⟨t, htT, by rw [hE, if_pos rfl]⟩
    · rw [if_neg e] at h1 ⊢
      obtain ⟨s, hs1, hs2⟩ := h.b2e i hi h1
      refine ⟨s, hs1, ?_⟩
      rw [hE, if_neg (by rintro rfl; omega)]
      exact hs2
  · intro s hs1 h1
    rw [hE] at h1 ⊢
    by_cases e : t = s
    · rw [if_pos e]
      exact ⟨k, hk, by rw [hB, if_pos rfl]⟩
    · rw [if_neg e] at h1 ⊢
      obtain ⟨i, hi1, hi2⟩ := h.e2b s hs1 h1
      refine ⟨i, hi1, ?_⟩
      rw [hB, if_neg (by rintro rfl; omega)]
      exact hi2

/-- a task that may be taken was not taken, so not all are -/
theorem next_room (ho : SOk es T l m) (h : SInv es T l m now st) {t : Nat} (hn : nextT es T st.ends now = some t) : st.out.length < T := by
  obtain ⟨htT, hm⟩ := nextT_some hn
  obtain ⟨h0, _⟩ := (mayStart_iff ho.lt1).1 hm
  refine Classical.byContradiction fun hge => ?_
  have hs := h.short
  obtain ⟨x, hx, he⟩ := all_met (T := T) h.fit (by omega) (t : Int) (by omega) (by omega)
  have h1 := h.ended x hx
  have h2 := h.parts hx
  rw [he, Int.toNat_natCast] at h1
  have h3 := ho.w (t := x.task.toNat) (by omega)
  omega
theorem SInv.step (ho : SOk es T l m) (h : SInv es T l m now st) {k : Nat} (hk : k < m) : SInv es T l m now (sStep es T l now st k) := by
  by_cases hb : now < st.busy.getD k 0
  · rw [sStep_busy hb]; exact h
  · cases hn : nextT es T st.ends now with
    | none => rw [sStep_none hn]; exact h
    | some t => rw [sStep_some hb hn]; exact h.take ho hk hb hn (next_room ho h hn)
theorem SInv.part (ho : SOk es T l m) (h : SInv es T l m now st) : ∀ k, k ≤ m → SInv es T l m now (sPart es T l now st k)
  | 0, _ => h
  | k + 1, hk => (SInv.part ho h k (by omega)).step ho (by omega)

theorem sStep_keeps (ho : SOk es T l m) (h : SInv es T l m now st) {k i : Nat} (hk : k < m) (hi : now < st.busy.getD i 0) : now < (sStep es T l now st k).busy.getD i 0 := by
  by_cases hb : now < st.busy.getD k 0
  · rw [sStep_busy hb]; exact hi
  · cases hn : nextT es T st.ends now with
    | none => rw [sStep_none hn]; exact hi
    | some t =>
      rw [sStep_some hb hn]
      have hw := ho.w (nextT_some hn).1
      show now < (st.busy.set k (now + l.getD t 0)).getD i 0
      rw [setD _ _ _ _ _ (by rw [h.lb]; exact hk)]
      split <;> omega
/-- behind a pass some worker works, or nothing was done and nothing may be taken -/
theorem part_works (ho : SOk es T l m) (h : SInv es T l m now st) : ∀ k, k ≤ m → (∃ i, i < m ∧ now < (sPart es T l now st k).busy.getD i 0) ∨ (sPart es T l now st k = st ∧ (k = 0 ∨ nextT es T st.ends now = none))
  | 0, _ => .inr ⟨rfl, .inl rfl⟩
  | k + 1, hk => by
    have hi := SInv.part ho h k (by omega)
    rcases part_works ho h k (by omega) with ⟨i, hi1, hi2⟩ | ⟨he, _⟩
    · exact .inl ⟨i, hi1, sStep_keeps ho hi (by omega) hi2⟩
    · show (∃ i, i < m ∧ now < (sStep es T l now (sPart es T l now st k) k).busy.getD i 0) ∨ _
      have e1 : sPart es T l now st (k + 1) = sStep es T l now st k := by
        show sStep es T l now (sPart es T l now st k) k = _
        rw [he]
      rw [he]
      by_cases hb : now < st.busy.getD k 0
      · exact .inl ⟨k, by omega, by rw [sStep_busy hb]; exact hb⟩
      · cases hn : nextT es T st.ends now with
        | none => exact .inr ⟨by rw [e1, sStep_none hn], .inr rfl⟩
        | some t =>
          refine .inl ⟨k, by omega, ?_⟩
          rw [sStep_some hb hn]
          have hw := ho.w (nextT_some hn).1
          show now < (st.busy.set k (now + l.getD t 0)).getD k 0
          rw [setD _ _ _ _ _ (by rw [h.lb]; omega), if_pos rfl]
          omega
theorem pass_works (ho : SOk es T l m) (h : SInv es T l m now st) (hlt : st.out.length < T) : ∃ i, i < m ∧ now < (sPart es T l now st m).busy.getD i 0 := by
  rcases part_works ho h m (Nat.le_refl _) with h1 | ⟨he, h2⟩
  · exact h1
  · rcases h2 with h2 | h2
    · have := ho.m1; omega
    refine Classical.byContradiction fun hno => ?_
    rw [he] at hno
    have hle : ∀ t, t < T → st.ends.getD t 0 ≤ now := by
      intro t ht
      refine Classical.byContradiction fun hgt => ?_
      obtain ⟨k, hk1, hk2⟩ := h.e2b t ht (by omega)
      exact hno ⟨k, hk1, by omega⟩
    have hex : ∃ t, t < T ∧ t ∉ st.out.map (fun x => x.task.toNat) := exists_out (by simpa using hlt)
    obtain ⟨t, _, htT, hm⟩ := pick_some (out := st.out.map fun x => x.task.toNat) ho.lt1 ho.ac hex
    obtain ⟨m1, m2⟩ := mayCome_iff.1 hm
    have hmay : mayStart es T st.ends now t = true := by
      rw [mayStart_iff ho.lt1]
      constructor
      · refine Classical.byContradiction fun hge => ?_
        obtain ⟨x, hx, hxt⟩ := h.begun t htT (by omega)
        exact m1 (List.mem_map.2 ⟨x, hx, by omega⟩)
      · intro s hs
        have hsT := ho.lt1 _ hs
        obtain ⟨x, hx, hxs⟩ := List.mem_map.1 (m2 s hs)
        have h3 := h.ended x hx
        have h4 := h.parts hx
        rw [hxs] at h3
        have h5 := ho.w (t := x.task.toNat) (by omega)
        have h6 := hle s hsT
        omega
    unfold nextT at h2
    rw [List.find?_eq_none] at h2
    exact h2 t (by simpa using htT) hmay

/-! the next time -/
/-- r is the least of L above now -/
def IsNext (now : Int) (L : List Int) (r : Int) : Prop := r ∈ L ∧ now < r ∧ ∀ x ∈ L, now < x → r ≤ x
theorem IsNext.same {L L' : List Int} {r r' : Int} (h : IsNext now L r) (h' : IsNext now L' r') (hs : ∀ x, now < x → (x ∈ L ↔ x ∈ L')) : r = r' := by
  have h1 := h.2.2 r' ((hs r' h'.2.1).2 h'.1) h'.2.1
  have h2 := h'.2.2 r ((hs r h.2.1).1 h.1) h.2.1
  omega
theorem nextI_is (h0 : 0 ≤ now) (L : List Int) (hex : ∃ x ∈ L, now < x) : IsNext now L (nextI now L) := by
  have key : ∀ (M : List Int) (n : Int), (n = 0 ∨ now < n) → let r := M.foldl (fun n x => if now < x ∧ (n = 0 ∨ x < n) then x else n) n; (r = n ∨ r ∈ M) ∧ (r = 0 ∨ now < r) ∧ (n ≠ 0 → r ≠ 0 ∧ r ≤ n) ∧ (∀ x ∈ M, now < x → r ≠ 0 ∧ r ≤ x) := by
    intro M
    induction M with
    | nil => intro n hn; exact ⟨.inl rfl, hn, fun h => ⟨h, Int.le_refl _⟩, fun x hx => by cases hx⟩
    | cons y M ih =>
      intro n hn
      simp only [List.foldl_cons]
      by_cases hc : now < y ∧ (n = 0 ∨ y < n)
      · rw [if_pos hc]
        obtain ⟨a1, a2, a3, a4⟩ := ih y (.inr hc.1)
        have hy : y ≠ 0 := by omega
        obtain ⟨b1, b2⟩ := a3 hy
        refine ⟨.inr ?_, a2, fun hn0 => ⟨b1, by rcases hc.2 with h | h; exact absurd h hn0; omega⟩, ?_⟩
        · rcases a1 with a1 | a1
          · rw [a1]; exact List.mem_cons_self
          · exact List.mem_cons_of_mem _ a1
        · intro x hx hxn
          rcases List.mem_cons.1 hx with rfl | hx
          · exact ⟨b1, b2⟩
          · exact a4 x hx hxn
      · rw [if_neg hc]
        obtain ⟨a1, a2, a3, a4⟩ := ih n hn
        refine ⟨?_, a2, a3, ?_⟩
        · rcases a1 with a1 | a1
          · exact .inl a1
          · exact .inr (List.mem_cons_of_mem _ a1)
        · intro x hx hxn
          rcases List.mem_cons.1 hx with rfl | hx
          · have hn0 : n ≠ 0 ∧ n ≤ x := by
              refine ⟨fun e => hc ⟨hxn, .inl e⟩, ?_⟩
              refine Classical.byContradiction fun hgt => hc ⟨hxn, .inr (by omega)⟩
            obtain ⟨b1, b2⟩ := a3 hn0.1
            exact ⟨b1, by omega⟩
          · exact a4 x hx hxn
  obtain ⟨a1, a2, _, a4⟩ := key L 0 (.inl rfl)
  obtain ⟨x, hx, hxn⟩ := hex
  obtain ⟨c1, _⟩ := a4 x hx hxn
  refine ⟨?_, ?_, fun y hy hyn => (a4 y hy hyn).2⟩
  · rcases a1 with a1 | a1
    · exact absurd a1 c1
    · exact a1
  · rcases a2 with a2 | a2
    · exact absurd a2 c1
    · exact a2
theorem nextS_is (h0 : 0 ≤ now) (L : List Int) (hex : ∃ x ∈ L, now < x) : IsNext now L (nextS now L) := by
  have key : ∀ (M : List Int) (n : Int), (n = -1 ∨ now < n) → let r := M.foldl (fun n x => if now < x ∧ (n < 0 ∨ x < n) then x else n) n; (r = n ∨ r ∈ M) ∧ (r = -1 ∨ now < r) ∧ (n ≠ -1 → r ≠ -1 ∧ r ≤ n) ∧ (∀ x ∈ M, now < x → r ≠ -1 ∧ r ≤ x) := by
    intro M
    induction M with
    | nil => intro n hn; exact ⟨.inl rfl, hn, fun h => ⟨h, Int.le_refl _⟩, fun x hx => by cases hx⟩
    | cons y M ih =>
      intro n hn
      simp only [List.foldl_cons]
      by_cases hc : now < y ∧ (n < 0 ∨ y < n)
      · rw [if_pos hc]
        obtain ⟨a1, a2, a3, a4⟩ := ih y (.inr hc.1)
        have hy : y ≠ -1 := by omega
        obtain ⟨b1, b2⟩ := a3 hy
        refine ⟨.inr ?_, a2, fun hn0 => ⟨b1, by omega⟩, ?_⟩
        · rcases a1 with a1 | a1
          · rw [a1]; exact List.mem_cons_self
          · exact List.mem_cons_of_mem _ a1
        · intro x hx hxn
          rcases List.mem_cons.1 hx with rfl | hx
          · exact ⟨b1, b2⟩
          · exact a4 x hx hxn
      · rw [if_neg hc]
        obtain ⟨a1, a2, a3, a4⟩ := ih n hn
        refine ⟨?_, a2, a3, ?_⟩
        · rcases a1 with a1 | a1
          · exact .inl a1
          · exact .inr (List.mem_cons_of_mem _ a1)
        · intro x hx hxn
          rcases List.mem_cons.1 hx with rfl | hx
          · have hn0 : n ≠ -1 ∧ n ≤ x := by omega
            obtain ⟨b1, b2⟩ := a3 hn0.1
            exact ⟨b1, by omega⟩
          · exact a4 x hx hxn
  obtain ⟨a1, a2, _, a4⟩ := key L (-1) (.inl rfl)
  obtain ⟨x, hx, hxn⟩ := hex
  obtain ⟨c1, _⟩ := a4 x hx hxn
  refine ⟨?_, ?_, fun y hy hyn => (a4 y hy hyn).2⟩
  · rcases a1 with a1 | a1
    · exact absurd a1 c1
    · exact a1
  · rcases a2 with a2 | a2
    · exact absurd a2 c1
    · exact a2
theorem mem_getD {L : List Int} {x : Int} (h : x ∈ L) : ∃ k, k < L.length ∧ L.getD k 0 = x := by
  obtain ⟨k, hk, rfl⟩ := List.getElem_of_mem h
  exact ⟨k, hk, getD_at hk 0⟩
/-- the next time, of a pass -/
theorem SInv.next (h : SInv es T l m now st) (hex : ∃ i, i < m ∧ now < st.busy.getD i 0) : IsNext now st.busy (nextI now st.busy) ∧ nextS now st.ends = nextI now st.busy := by
  obtain ⟨i, hi1, hi2⟩ := hex
  have e1 : ∃ x ∈ st.busy, now < x := ⟨_, getD_mem (by rw [h.lb]; exact hi1) 0, hi2⟩
  obtain ⟨t, ht1, ht2⟩ := h.b2e i hi1 hi2
  have e2 : ∃ x ∈ st.ends, now < x := ⟨_, getD_mem (by rw [h.le]; exact ht1) 0, by rw [ht2]; exact hi2⟩
  have n1 := nextI_is h.now0 st.busy e1
  have n2 := nextS_is h.now0 st.ends e2
  refine ⟨n1, n2.same n1 fun x hx => ⟨fun hm => ?_, fun hm => ?_⟩⟩
  · obtain ⟨s, hs1, hs2⟩ := mem_getD hm
    obtain ⟨k, hk1, hk2⟩ := h.e2b s (by rw [← h.le]; exact hs1) (by omega)
    rw [← hs2, ← hk2]
    exact getD_mem (by rw [h.lb]; exact hk1) 0
  · obtain ⟨s, hs1, hs2⟩ := mem_getD hm
    obtain ⟨k, hk1, hk2⟩ := h.b2e s (by rw [← h.lb]; exact hs1) (by omega)
    rw [← hs2, ← hk2]
    exact getD_mem (by rw [h.le]; exact hk1) 0
theorem SInv.onward (h : SInv es T l m now st) {r : Int} (hr : IsNext now st.busy r) : SInv es T l m r st := by
  obtain ⟨h1, h2, h3⟩ := hr
  obtain ⟨k, hk1, hk2⟩ := mem_getD h1
  have hk := h.busyL k (by rw [← h.lb]; exact hk1)
  have hn0 := h.now0
  refine ⟨h.le, h.lb, by omega, by omega, h.busyL, h.endsL, h.fit, h.ended, h.begun, fun x hx => ?_, h.ahead, fun k hk h1 => h.b2e k hk (by omega), fun t ht h1 => h.e2b t ht (by omega)⟩
  have := h.byWho x hx
  exact ⟨this.1, by omega⟩
/-- one round -/
theorem SInv.round (ho : SOk es T l m) (h : SInv es T l m now st) (hlt : st.out.length < T) :
    SInv es T l m (nextI now (sPart es T l now st m).busy) (sPart es T l now st m) ∧ now < nextI now (sPart es T l now st m).busy ∧ nextS now (sPart es T l now st m).ends = nextI now (sPart es T l now st m).busy := by
  have hp := h.part ho m (Nat.le_refl _)
  have hn := hp.next (pass_works ho h hlt)
  exact ⟨hp.onward hn.1, hn.1.2.1, hn.2⟩
theorem sGo_done {f : Nat} (h : T ≤ st.out.length) : sGo es T l m f now st = st.out := by
  cases f with
  | zero => rfl
  | succ f => rw [sGo, if_pos h]
theorem sGo_more {f : Nat} (h : st.out.length < T) : sGo es T l m (f + 1) now st = sGo es T l m f (nextI now (sPart es T l now st m).busy) (sPart es T l now st m) := by
  rw [sGo, if_neg (by omega)]
end
end Go.Proofs.Ytnaicippgocdfaa
end
section
namespace Go.Proofs.Ytnaicippgocdfaa
open Go.RowKit
set_option linter.unusedVariables false

theorem order_all {es : List (Nat × Nat)} {T : Nat} {o : List Nat} (ho : OrderInv es T T o) {t : Nat} (ht : t < T) : t ∈ o := by
  refine Classical.byContradiction fun hn => ?_
  have := Pg.nodup_le T (t :: o) (List.nodup_cons.2 ⟨hn, ho.nodup⟩) (by
    intro x hx
    rcases List.mem_cons.1 hx with rfl | hx
    · exact ht
    · exact ho.lt x hx)
  simp only [List.length_cons, ho.len] at this
  omega
theorem beforeL_iff {es : List (Nat × Nat)} {T t s : Nat} (h1 : ∀ e ∈ es, e.1 < T) : s ∈ beforeL es T t ↔ (s, t) ∈ es := by
  unfold beforeL
  simp only [List.mem_filter, List.mem_range, decide_eq_true_eq]
  exact ⟨fun h => h.2, fun h => ⟨h1 _ h, h⟩⟩
theorem behindL_iff {es : List (Nat × Nat)} {T t s : Nat} (h2 : ∀ e ∈ es, e.2 < T) : s ∈ behindL es T t ↔ (t, s) ∈ es := by
  unfold behindL
  simp only [List.mem_filter, List.mem_range, decide_eq_true_eq]
  exact ⟨fun h => h.2, fun h => ⟨h2 _ h, h⟩⟩

theorem earFold_get {l : List Int} {t : Nat} : ∀ (B : List Nat) (S : List Int), t < S.length → t ∉ B →
    (∀ x, x ≠ t → (B.foldl (earStep l t) S).getD x 0 = S.getD x 0) ∧ S.getD t 0 ≤ (B.foldl (earStep l t) S).getD t 0 ∧ (∀ b ∈ B, S.getD b 0 + l.getD b 0 ≤ (B.foldl (earStep l t) S).getD t 0) ∧
      ((B.foldl (earStep l t) S).getD t 0 = S.getD t 0 ∨ ∃ b ∈ B, (B.foldl (earStep l t) S).getD t 0 = S.getD b 0 + l.getD b 0)
  | [], S, _, _ => ⟨fun _ _ => rfl, Int.le_refl _, fun b hb => absurd hb (by simp), .inl rfl⟩
  | b :: B, S, ht, hn => by
    have hnb : t ≠ b := fun e => hn (by rw [e]; exact List.mem_cons_self)
    have hnB : t ∉ B := fun e => hn (List.mem_cons_of_mem _ e)
    have hS : ∀ x, (earStep l t S b).getD x 0 = if t = x then max (S.getD t 0) (S.getD b 0 + l.getD b 0) else S.getD x 0 := fun x => setD _ _ _ _ _ ht
    obtain ⟨a1, a2, a3, a4⟩ := earFold_get (l := l) (t := t) B (earStep l t S b) (by rw [earStep_len]; exact ht) hnB
    rw [List.foldl_cons]
    rw [hS, if_pos rfl] at a2
    have key : ∀ c ∈ B, (earStep l t S b).getD c 0 = S.getD c 0 := fun c hc => by rw [hS, if_neg (by rintro rfl; exact hnB hc)]
    refine ⟨fun x hx => by rw [a1 x hx, hS, if_neg (Ne.symm hx)], by omega, ?_, ?_⟩
    · intro c hc
      rcases List.mem_cons.1 hc with rfl | hc
      · omega
      · have := a3 c hc
        rw [key c hc] at this
        exact this
    · rcases a4 with a4 | ⟨c, hc, a4⟩
      · rw [hS, if_pos rfl] at a4
        rcases Int.le_total (S.getD t 0) (S.getD b 0 + l.getD b 0) with hle | hle
        · exact .inr ⟨b, List.mem_cons_self, by rw [a4, Int.max_eq_right hle]⟩
        · exact .inl (by rw [a4, Int.max_eq_left hle])
      · exact .inr ⟨c, List.mem_cons_of_mem _ hc, by rw [a4, key c hc]⟩

section
variable {es : List (Nat × Nat)} {T : Nat} {l o : List Int} {ord : List Nat}

def earPre (es : List (Nat × Nat)) (T : Nat) (l : List Int) (ord : List Nat) (i : Nat) : List Int := (ord.take i).foldl (earTask es T l) (List.replicate T 0)
theorem earPre_len (es : List (Nat × Nat)) (T : Nat) (l : List Int) (ord : List Nat) (i : Nat) : (earPre es T l ord i).length = T := earL_len es T l (ord.take i)
structure EarInv (es : List (Nat × Nat)) (T : Nat) (l : List Int) (ord : List Nat) (i : Nat) (S : List Int) : Prop where
  rest : ∀ t, t ∉ ord.take i → S.getD t 0 = 0
  nn : ∀ t, 0 ≤ S.getD t 0
  le : ∀ j (h : j < ord.length), j < i → ∀ a, (a, ord[j]) ∈ es → S.getD a 0 + l.getD a 0 ≤ S.getD ord[j] 0
  eq : ∀ j (h : j < ord.length), j < i → S.getD ord[j] 0 = 0 ∨ ∃ a, (a, ord[j]) ∈ es ∧ S.getD ord[j] 0 = S.getD a 0 + l.getD a 0
theorem earPre_inv (h1 : ∀ e ∈ es, e.1 < T) (hac : ∀ t, t < T → ¬ Pg.Reach es t t) (ho : OrderInv es T T ord) : ∀ i, i ≤ T → EarInv es T l ord i (earPre es T l ord i)
  | 0, _ => by
    have hz : ∀ t, (earPre es T l ord 0).getD t 0 = 0 := fun t => by
      show (List.replicate T (0 : Int)).getD t 0 = 0
      rw [List.getD_eq_getElem?_getD, List.getElem?_replicate]
      split <;> rfl
    exact ⟨fun t _ => hz t, fun t => by rw [hz]; exact Int.le_refl _, fun j _ h => absurd h (by omega), fun j _ h => absurd h (by omega)⟩
  | i + 1, hi => by
    have ih := earPre_inv h1 hac ho i (by omega)
    have hio : i < ord.length := by rw [ho.len]; omega
    have hlt := ho.lt _ (List.getElem_mem hio)
    have hpre : earPre es T l ord (i + 1) = earTask es T l (earPre es T l ord i) ord[i] := by
      unfold earPre
      rw [take_snoc ord i hio, List.foldl_append]
      rfl
    have hself : ord[i] ∉ beforeL es T ord[i] := fun h => hac _ hlt (Pg.Reach.one ((beforeL_iff h1).1 h))
    obtain ⟨a1, a2, a3, a4⟩ := earFold_get (l := l) (beforeL es T ord[i]) (earPre es T l ord i) (by rw [earPre_len]; exact hlt) hself
    have hnin : ord[i] ∉ ord.take i := fun h => by
      obtain ⟨j, hj, he⟩ := List.mem_take_iff_getElem.1 h
      have := List.pairwise_iff_getElem.1 ho.nodup j i (by omega) hio (by omega)
      exact this he
    have hz := ih.rest _ hnin
    rw [hpre]
    change EarInv es T l ord (i + 1) ((beforeL es T ord[i]).foldl (earStep l ord[i]) (earPre es T l ord i))
    generalize (beforeL es T ord[i]).foldl (earStep l ord[i]) (earPre es T l ord i) = R at *
    have hold : ∀ j (h : j < ord.length), j < i → R.getD ord[j] 0 = (earPre es T l ord i).getD ord[j] 0 := fun j h hji => a1 _ (fun e => hnin (by rw [← e]; exact List.mem_take_iff_getElem.2 ⟨j, by omega, rfl⟩))
    have hpred : ∀ j (h : j < ord.length), j ≤ i → ∀ a, (a, ord[j]) ∈ es → R.getD a 0 = (earPre es T l ord i).getD a 0 := by
      intro j h hji a ha
      have hm := ho.closed j h a ha
      refine a1 _ (fun e => ?_)
      rw [e] at hm
      obtain ⟨k, hk, he⟩ := List.mem_take_iff_getElem.1 hm
      exact hnin (List.mem_take_iff_getElem.2 ⟨k, by omega, he⟩)
    refine ⟨?_, ?_, ?_, ?_⟩
    · intro t ht
      rw [take_snoc ord i hio] at ht
      simp only [List.mem_append, List.mem_singleton, not_or] at ht
      rw [a1 t ht.2]
      exact ih.rest t ht.1
    · intro t
      by_cases e : t = ord[i]
      · rw [e]; omega
      · rw [a1 t e]; exact ih.nn t
    · intro j h hji a ha
      rw [hpred j h (by omega) a ha]
      by_cases e : j = i
      · subst e
        exact a3 a ((beforeL_iff h1).2 ha)
      · rw [hold j h (by omega)]
        exact ih.le j h (by omega) a ha
    · intro j h hji
      by_cases e : j = i
      · subst e
        rcases a4 with a4 | ⟨b, hb, a4⟩
        · exact .inl (by rw [a4, hz])
        · exact .inr ⟨b, (beforeL_iff h1).1 hb, by rw [a4, hpred j h (by omega) b ((beforeL_iff h1).1 hb)]⟩
      · rw [hold j h (by omega)]
        rcases ih.eq j h (by omega) with h0 | ⟨a, ha, h0⟩
        · exact .inl h0
        · exact .inr ⟨a, ha, by rw [h0, hpred j h (by omega) a ha]⟩
end

/-- the facts on the earliest and the latest times of a plan that is right -/
structure Times (es : List (Nat × Nat)) (T : Nat) (l E D : List Int) (L : Int) : Prop where
  elen : E.length = T
  enn : ∀ t, 0 ≤ E.getD t 0
  ele : ∀ e ∈ es, E.getD e.1 0 + l.getD e.1 0 ≤ E.getD e.2 0
  eeq : ∀ t, t < T → E.getD t 0 = 0 ∨ ∃ a, (a, t) ∈ es ∧ E.getD t 0 = E.getD a 0 + l.getD a 0
  elong : ∀ t, t < T → E.getD t 0 + l.getD t 0 ≤ L
  emax : ∃ t, t < T ∧ E.getD t 0 + l.getD t 0 = L
  dlen : D.length = T
  dle : ∀ e ∈ es, D.getD e.1 0 + l.getD e.1 0 ≤ D.getD e.2 0
  dlong : ∀ t, t < T → D.getD t 0 + l.getD t 0 ≤ L
  ed : ∀ t, t < T → E.getD t 0 ≤ D.getD t 0
  lwork : L ≤ l.sum

theorem longUpto_is {E l : List Int} (hE : ∀ t, 0 ≤ E.getD t 0) : ∀ k, (∀ t, t < k → E.getD t 0 + l.getD t 0 ≤ longUpto E l k) ∧ (longUpto E l k = 0 ∨ ∃ t, t < k ∧ E.getD t 0 + l.getD t 0 = longUpto E l k) ∧ 0 ≤ longUpto E l k
  | 0 => ⟨fun t h => absurd h (by omega), .inl rfl, Int.le_refl _⟩
  | k + 1 => by
    obtain ⟨a1, a2, a3⟩ := longUpto_is (l := l) hE k
    have hd : longUpto E l (k + 1) = max (longUpto E l k) (E.getD k 0 + l.getD k 0) := rfl
    rw [hd]
    refine ⟨?_, ?_, by omega⟩
    · intro t ht
      by_cases e : t = k
      · subst e; omega
      · have := a1 t (by omega); omega
    · rcases Int.le_total (longUpto E l k) (E.getD k 0 + l.getD k 0) with hle | hle
      · exact .inr ⟨k, by omega, by rw [Int.max_eq_right hle]⟩
      · rw [Int.max_eq_left hle]
        rcases a2 with a2 | ⟨t, ht, a2⟩
        · exact .inl a2
        · exact .inr ⟨t, by omega, a2⟩

theorem latEnd_is {o : List Int} : ∀ (B : List Nat) (L : Int), latEnd L o B ≤ L ∧ (∀ b ∈ B, latEnd L o B ≤ o.getD b 0) ∧ (latEnd L o B = L ∨ ∃ b ∈ B, latEnd L o B = o.getD b 0)
  | [], L => ⟨Int.le_refl _, fun b hb => absurd hb (by simp), .inl rfl⟩
  | b :: B, L => by
    obtain ⟨a1, a2, a3⟩ := latEnd_is (o := o) B (min L (o.getD b 0))
    have hd : latEnd L o (b :: B) = latEnd (min L (o.getD b 0)) o B := rfl
    rw [hd]
    refine ⟨by omega, ?_, ?_⟩
    · intro c hc
      rcases List.mem_cons.1 hc with rfl | hc
      · omega
      · exact a2 c hc
    · rcases a3 with a3 | ⟨c, hc, a3⟩
      · rcases Int.le_total L (o.getD b 0) with hle | hle
        · exact .inl (by rw [a3, Int.min_eq_left hle])
        · exact .inr ⟨b, List.mem_cons_self, by rw [a3, Int.min_eq_right hle]⟩
      · exact .inr ⟨c, List.mem_cons_of_mem _ hc, a3⟩
theorem latEnd_same {o o' : List Int} : ∀ (B : List Nat) (L : Int), (∀ b ∈ B, o'.getD b 0 = o.getD b 0) → latEnd L o' B = latEnd L o B
  | [], L, _ => rfl
  | b :: B, L, h => by
    show latEnd (min L (o'.getD b 0)) o' B = latEnd (min L (o.getD b 0)) o B
    rw [h b List.mem_cons_self]
    exact latEnd_same B _ fun c hc => h c (List.mem_cons_of_mem _ hc)

section
variable {es : List (Nat × Nat)} {T : Nat} {l : List Int} {ord : List Nat} {L : Int}
theorem order_next (ho : OrderInv es T T ord) {i : Nat} (hi : i < ord.length) {s : Nat} (hs : (ord[i], s) ∈ es) (hsT : s < T) : ∃ k, ∃ hk : k < ord.length, i < k ∧ ord[k] = s := by
  obtain ⟨k, hk, rfl⟩ := List.getElem_of_mem (order_all ho hsT)
  have hm := ho.closed k hk _ hs
  obtain ⟨j, hj, he⟩ := List.mem_take_iff_getElem.1 hm
  refine ⟨k, hk, ?_, rfl⟩
  rcases Nat.lt_trichotomy i j with h | h | h
  · omega
  · omega
  · exact absurd he (List.pairwise_iff_getElem.1 ho.nodup j i (by omega) hi h)
theorem lat_inv (h2 : ∀ e ∈ es, e.2 < T) (ho : OrderInv es T T ord) : ∀ n, n ≤ T → ∀ j (h : j < ord.length), T - n ≤ j → (latL es T L l (ord.drop (T - n))).getD ord[j] 0 = latEnd L (latL es T L l (ord.drop (T - n))) (behindL es T ord[j]) - l.getD ord[j] 0
  | 0, _ => fun j h hj => absurd h (by rw [ho.len]; omega)
  | n + 1, hn => by
    intro j h hj
    have hi : T - (n + 1) < ord.length := by rw [ho.len]; omega
    have hsucc : T - (n + 1) + 1 = T - n := by omega
    have hc := latL_cons es T L l ord hi
    rw [hsucc] at hc
    have ih := lat_inv h2 ho n (by omega)
    rw [hc]
    generalize hD : latL es T L l (ord.drop (T - n)) = D at *
    have hDl : D.length = T := by rw [← hD, latL_len]
    have hne : ∀ k (hk : k < ord.length), T - (n + 1) < k → ord[T - (n + 1)] ≠ ord[k] := fun k hk hlt => List.pairwise_iff_getElem.1 ho.nodup _ k hi hk hlt
    have hsame : ∀ i (hi' : i < ord.length), T - (n + 1) ≤ i → ∀ b ∈ behindL es T ord[i], (D.set ord[T - (n + 1)] (latEnd L D (behindL es T ord[T - (n + 1)]) - l.getD ord[T - (n + 1)] 0)).getD b 0 = D.getD b 0 := by
      intro i hi' hle b hb
      obtain ⟨k, hk, hik, rfl⟩ := order_next ho hi' ((behindL_iff h2).1 hb) (h2 _ ((behindL_iff h2).1 hb))
      rw [setD _ _ _ _ _ (by rw [hDl]; exact ho.lt _ (List.getElem_mem hi)), if_neg (hne k hk (by omega))]
    by_cases e : j = T - (n + 1)
    · subst e
      rw [latEnd_same _ _ (hsame _ hi (Nat.le_refl _)), setD _ _ _ _ _ (by rw [hDl]; exact ho.lt _ (List.getElem_mem hi)), if_pos rfl]
    · rw [latEnd_same _ _ (hsame j h hj), setD _ _ _ _ _ (by rw [hDl]; exact ho.lt _ (List.getElem_mem hi)), if_neg (hne j h (by omega))]
      exact ih j h (by omega)

/-- sums over the first tasks of the order -/
def ordSum (l : List Int) (ord : List Nat) (i : Nat) : Int := ((ord.take i).map fun t => l.getD t 0).sum
theorem ordSum_succ (l : List Int) {ord : List Nat} {i : Nat} (h : i < ord.length) : ordSum l ord (i + 1) = ordSum l ord i + l.getD ord[i] 0 := by
  unfold ordSum
  rw [take_snoc ord i h, List.map_append, List.sum_append, List.map_singleton, List.sum_singleton]
theorem ordSum_mono (hl : ∀ x ∈ l, 1 ≤ x ∧ x ≤ 1000) {i : Nat} : ∀ n, i + n ≤ ord.length → ordSum l ord i ≤ ordSum l ord (i + n)
  | 0, _ => Int.le_refl _
  | n + 1, h => by
    have := ordSum_mono hl (i := i) n (by omega)
    rw [← Nat.add_assoc, ordSum_succ l (show i + n < ord.length by omega)]
    have h2 : 0 ≤ l.getD ord[i + n] 0 := by
      rw [List.getD_eq_getElem?_getD]
      cases hk : l[ord[i + n]]? with
      | none => simp
      | some y => have := hl y (List.mem_of_getElem? hk); simp; omega
    omega
theorem sum_range (l : List Int) : ((List.range l.length).map fun t => l.getD t 0) = l := by
  apply List.ext_getElem (by simp)
  intro i h1 h2
  simp [List.getD_eq_getElem?_getD, h2]
theorem perm_sum {a b : List Int} (h : a.Perm b) : a.sum = b.sum := by
  induction h with
  | nil => rfl
  | cons x _ ih => simp [ih]
  | swap x y l => simp only [List.sum_cons]; omega
  | trans _ _ h1 h2 => rw [h1, h2]
theorem ordSum_all (ho : OrderInv es T T ord) (hl : l.length = T) : ordSum l ord T = l.sum := by
  have hp : ord.Perm (List.range T) := by
    refine (List.perm_ext_iff_of_nodup ho.nodup List.nodup_range).2 fun t => ?_
    exact ⟨fun h => List.mem_range.2 (ho.lt t h), fun h => order_all ho (List.mem_range.1 h)⟩
  unfold ordSum
  rw [List.take_of_length_le (by rw [ho.len]; omega)]
  have h1 := perm_sum (hp.map fun t => l.getD t 0)
  rw [h1, ← hl, sum_range]
end

theorem times_of {p : Plan} {l : List Int} (hf : weightsOk p l = true) : Times (esOf p) p.tasks.toNat l (earliestOf p l) (latestOf p l) (longestOf p l) := by
  obtain ⟨g1, g2, g3⟩ := weightsOk_all hf
  obtain ⟨q1, q2, q3, q4⟩ := planFault_zero.1 g1
  have hT := manyOk_tasks q1
  obtain ⟨h1, h2⟩ := esOf_lt q2
  have ho := orderOf_inv g1
  have hac := plan_ac g1
  have hlen : l.length = p.tasks.toNat := by omega
  have he : earliestOf p l = earPre (esOf p) p.tasks.toNat l (orderOf p) p.tasks.toNat := by
    unfold earliestOf earPre
    rw [if_pos hf, List.take_of_length_le (by rw [ho.len]; exact Nat.le_refl _)]
    rfl
  have hd : latestOf p l = latL (esOf p) p.tasks.toNat (longestOf p l) l (orderOf p) := by
    unfold latestOf
    rw [if_pos hf]
  have hEi := earPre_inv (l := l) h1 hac ho _ (Nat.le_refl _)
  rw [← he] at hEi
  have hel : (earliestOf p l).length = p.tasks.toNat := by rw [he, earPre_len]
  obtain ⟨u1, u2, u3⟩ := longUpto_is (l := l) hEi.nn (earliestOf p l).length
  have hL : longestOf p l = longUpto (earliestOf p l) l p.tasks.toNat := by unfold longestOf; rw [hel]
  rw [hel] at u1 u2
  rw [← hL] at u1 u2
  have hDi := lat_inv (l := l) (L := longestOf p l) h2 ho p.tasks.toNat (Nat.le_refl _)
  rw [Nat.sub_self, List.drop_zero, ← hd] at hDi
  have hw : ∀ t, t < p.tasks.toNat → 1 ≤ l.getD t 0 := fun t ht => (g3 _ (getD_mem (by omega) 0)).1
  have eeq : ∀ t, t < p.tasks.toNat → (earliestOf p l).getD t 0 = 0 ∨ ∃ a, (a, t) ∈ esOf p ∧ (earliestOf p l).getD t 0 = (earliestOf p l).getD a 0 + l.getD a 0 := by
    intro t ht
    obtain ⟨j, hj, rfl⟩ := List.getElem_of_mem (order_all ho ht)
    exact hEi.eq j hj (by rw [← ho.len]; exact hj)
  have ele : ∀ e ∈ esOf p, (earliestOf p l).getD e.1 0 + l.getD e.1 0 ≤ (earliestOf p l).getD e.2 0 := by
    rintro ⟨a, b⟩ hab
    obtain ⟨j, hj, hjb⟩ := List.getElem_of_mem (order_all ho (h2 _ hab))
    simp only at hjb ⊢
    subst hjb
    exact hEi.le j hj (by rw [← ho.len]; exact hj) a hab
  have hDat : ∀ t, t < p.tasks.toNat → (latestOf p l).getD t 0 = latEnd (longestOf p l) (latestOf p l) (behindL (esOf p) p.tasks.toNat t) - l.getD t 0 := by
    intro t ht
    obtain ⟨j, hj, rfl⟩ := List.getElem_of_mem (order_all ho ht)
    exact hDi j hj (Nat.zero_le _)
  refine ⟨hel, hEi.nn, ele, eeq, u1, ?_, by rw [hd, latL_len], ?_, ?_, ?_, ?_⟩
  · rcases u2 with u2 | u2
    · have h3 := u1 0 (by omega)
      have h4 := hEi.nn 0
      have h5 := hw 0 (by omega)
      omega
    · exact u2
  · rintro ⟨a, b⟩ hab
    have h3 := hDat a (h1 _ hab)
    have h4 := (latEnd_is (o := latestOf p l) (behindL (esOf p) p.tasks.toNat a) (longestOf p l)).2.1 b ((behindL_iff h2).2 hab)
    simp only
    omega
  · intro t ht
    have h3 := hDat t ht
    have h4 := (latEnd_is (o := latestOf p l) (behindL (esOf p) p.tasks.toNat t) (longestOf p l)).1
    omega
  · -- from the order's end on
    have key : ∀ n j (h : j < (orderOf p).length), p.tasks.toNat - n ≤ j → (earliestOf p l).getD (orderOf p)[j] 0 ≤ (latestOf p l).getD (orderOf p)[j] 0 := by
      intro n
      induction n with
      | zero => intro j h hj; exact absurd h (by rw [ho.len]; omega)
      | succ n ih =>
        intro j h hj
        have hjT := ho.lt _ (List.getElem_mem h)
        rw [hDat _ hjT]
        rcases (latEnd_is (o := latestOf p l) (behindL (esOf p) p.tasks.toNat (orderOf p)[j]) (longestOf p l)).2.2 with h3 | ⟨b, hb, h3⟩
        · have := u1 _ hjT
          omega
        · have hes := (behindL_iff h2).1 hb
          obtain ⟨k, hk, hjk, rfl⟩ := order_next ho h hes (h2 _ hes)
          have h4 := ih k hk (by omega)
          have h5 := ele _ hes
          simp only at h5
          omega
    intro t ht
    obtain ⟨j, hj, rfl⟩ := List.getElem_of_mem (order_all ho ht)
    exact key p.tasks.toNat j hj (by omega)
  · have key : ∀ j (h : j < (orderOf p).length), (earliestOf p l).getD (orderOf p)[j] 0 ≤ ordSum l (orderOf p) j := by
      intro j
      induction j using Nat.strongRecOn with
      | _ j ih =>
        intro h
        have hjT := ho.lt _ (List.getElem_mem h)
        have h0 : 0 ≤ ordSum l (orderOf p) j := by
          have := ordSum_mono (ord := orderOf p) (i := 0) g3 j (by omega)
          rw [Nat.zero_add] at this
          simpa [ordSum] using this
        rcases eeq _ hjT with h3 | ⟨a, ha, h3⟩
        · omega
        · have hm := ho.closed j h a ha
          obtain ⟨k, hk, hka⟩ := List.mem_take_iff_getElem.1 hm
          subst hka
          have h4 := ih k (by omega) (by omega)
          have h5 := ordSum_succ l (ord := orderOf p) (i := k) (by omega)
          have h6 := ordSum_mono (ord := orderOf p) (i := k + 1) g3 (j - (k + 1)) (by omega)
          rw [show k + 1 + (j - (k + 1)) = j from by omega] at h6
          omega
    have hall := ordSum_all ho hlen
    rcases u2 with u2 | ⟨t, ht, u2⟩
    · rw [u2]
      have := ordSum_mono (ord := orderOf p) (i := 0) g3 p.tasks.toNat (by rw [ho.len]; omega)
      rw [Nat.zero_add, hall] at this
      simpa [ordSum] using this
    · obtain ⟨j, hj, rfl⟩ := List.getElem_of_mem (order_all ho ht)
      have h4 := key j hj
      have hj' : j < p.tasks.toNat := by have := ho.len; omega
      have h5 := ordSum_succ l (ord := orderOf p) (i := j) hj
      have h6 := ordSum_mono (ord := orderOf p) (i := j + 1) g3 (p.tasks.toNat - (j + 1)) (by rw [ho.len]; omega)
      rw [show j + 1 + (p.tasks.toNat - (j + 1)) = p.tasks.toNat from by omega, hall] at h6
      omega
end Go.Proofs.Ytnaicippgocdfaa
end
section
namespace Go.Proofs.Ytnaicippgocdfaa
open Go.RowKit
set_option maxRecDepth 100000
set_option maxHeartbeats 1000000

theorem implCopy_any (p : Plan) (ve : Value) (w : World) (hl : p.edges.length ≤ 2000000) (h : Rd edgeE w w.heap.size ve p.edges) :
    Calls Try.prog 54 #[planV p ve] w (ToPlanPost p w) := by
  obtain ⟨A, c, rfl, -⟩ := id h
  obtain ⟨i0, hi0, hz0, hz1, hz2⟩ := info_parts edge_info
  have hbx : ∀ W, Below w.heap.size w W → Rd edgeE W W.heap.size (.slice A p.edges.length c) p.edges := fun W hW => (h.below hW).more hW.size
  unfold planV
  go_enter Try.func54, Try.ntmps54
  go_wp2_with (at_builtin; refine wpList_push_all _ edgeE (by decide) rfl (.const (.slice none 0 0)) (.tmp 4) rfl Try.underlying24 hi0 hz0 hz1 hz2 rfl (v := .slice none 0 0) (l := []) rfl (Ow.nil edgeE 52 _ (w.heap.size + 2)) rfl (hbx _ (((Below.refl _ _).alloc (by simp <;> omega) _).alloc (by simp <;> omega) _)) (by simp) (by omega) (by decide) (by simp) ?_; intro v1 w1 o1 g1 _; rw [List.nil_append] at o1; obtain ⟨A1, c1, rfl, -⟩ := id (Rd.of_own o1); have hb1 := (Below.refl (w.heap.size + 2) _).grown g1 (by simp <;> omega) (fun k hk => by simp [Value.ownBlock] at hk <;> omega); clear g1; have q1 : ∀ b o, b < w.heap.size + 2 → w1.cell? ⟨b, o, none⟩ = _ := fun b o h => hb1.cell (p := ⟨b, o, none⟩) h; have q2 : ∀ b o, b < w.heap.size + 2 → w1.frozen? ⟨b, o, none⟩ = _ := fun b o h => hb1.frozen (p := ⟨b, o, none⟩) h; have hs := hb1.size; simp only [World.size_alloc] at hs)
  have hW : Below w.heap.size w w1 := Below.trans (((Below.refl _ _).alloc (by simp <;> omega) _).alloc (by simp <;> omega) _) (hb1.mono (by omega))
  refine bodyPost_ret (v := planV p (.slice A1 p.edges.length c1)) ?_ rfl ?_
  · simp [planV, results, Try.results54, go_sem, q1]
  · refine ⟨.slice A1 p.edges.length c1, rfl, ?_, ?_⟩
    · refine Ow.more (base := w.heap.size + 2) ?_ (by omega)
      unfold Ow at o1 ⊢
      repeat (first | (with_reducible exact o1) | refine ownsRow_setCell_below ?_ (by simp <;> omega) _)
    · repeat (first | (with_reducible exact hW) | refine Below.setCell ?_ (by simp <;> omega) _)

theorem specCopy_any (p : Plan) (ve : Value) (w : World) (hl : p.edges.length ≤ 2000000) (h : Rd edgeE w w.heap.size ve p.edges) :
    Calls Try.prog 62 #[planV p ve] w (ToPlanPost p w) := by
  obtain ⟨A, c, rfl, -⟩ := id h
  obtain ⟨i0, hi0, hz0, hz1, hz2⟩ := info_parts edge_info
  have hbx : ∀ W, Below w.heap.size w W → Rd edgeE W W.heap.size (.slice A p.edges.length c) p.edges := fun W hW => (h.below hW).more hW.size
  unfold planV
  go_enter Try.func62, Try.ntmps62
  go_wp2_with (at_builtin; refine wpList_push_all _ edgeE (by decide) rfl (.tmp 3) (.tmp 5) rfl Try.underlying24 hi0 hz0 hz1 hz2 rfl (v := .slice (some ⟨w.heap.size + 1 + 1, 0, none⟩) 0 0) (l := []) rfl ((Ow.empty edgeE 52 _ (by simp)).more (base' := w.heap.size + 2) (by omega)) rfl (hbx _ ((((Below.refl _ _).alloc (by simp <;> omega) _).alloc (by simp <;> omega) _).alloc (by simp <;> omega) _)) (by simp) (by omega) (by decide) (by simp) ?_; intro v1 w1 o1 g1 _; rw [List.nil_append] at o1; obtain ⟨A1, c1, rfl, -⟩ := id (Rd.of_own o1); have hb1 := ((Below.refl (w.heap.size + 2) _).alloc (by simp <;> omega) _).grown g1 (by simp <;> omega) (fun k hk => by simp [Value.ownBlock] at hk <;> omega); clear g1; have q1 : ∀ b o, b < w.heap.size + 2 → w1.cell? ⟨b, o, none⟩ = _ := fun b o h => hb1.cell (p := ⟨b, o, none⟩) h; have q2 : ∀ b o, b < w.heap.size + 2 → w1.frozen? ⟨b, o, none⟩ = _ := fun b o h => hb1.frozen (p := ⟨b, o, none⟩) h; have hs := hb1.size; simp only [World.size_alloc] at hs)
  have hW : Below w.heap.size w w1 := Below.trans (((Below.refl _ _).alloc (by simp <;> omega) _).alloc (by simp <;> omega) _) (hb1.mono (by omega))
  refine bodyPost_ret (v := planV p (.slice A1 p.edges.length c1)) ?_ rfl ?_
  · simp [planV, results, Try.results62, go_sem, q1]
  · refine ⟨.slice A1 p.edges.length c1, rfl, ?_, ?_⟩
    · refine Ow.more (base := w.heap.size + 2) ?_ (by omega)
      unfold Ow at o1 ⊢
      repeat (first | (with_reducible exact o1) | refine ownsRow_setCell_below ?_ (by simp <;> omega) _)
    · repeat (first | (with_reducible exact hW) | refine Below.setCell ?_ (by simp <;> omega) _)
end Go.Proofs.Ytnaicippgocdfaa
end
section
namespace Go.Proofs.Ytnaicippgocdfaa
open Go.RowKit
set_option maxRecDepth 100000
set_option maxHeartbeats 1000000

def flipE (e : Edge) : Edge := ⟨e.to, e.fr⟩
open Classical in
noncomputable def reversed (p : Plan) : Plan := if planFault p = 0 then { p with edges := p.edges.map flipE } else p
theorem flip_get (l : List Edge) (k : Nat) (h : k < l.length) (h' : k < ((l.take k).map flipE ++ l.drop k).length) : ((l.take k).map flipE ++ l.drop k)[k] = l[k] := by
  rw [List.getElem_append_right (by simp; omega)]
  simp [Nat.min_eq_left (Nat.le_of_lt h)]
theorem flip_set (l : List Edge) (k : Nat) (h : k < l.length) : ((l.take k).map flipE ++ l.drop k).set k (flipE l[k]) = (l.take (k + 1)).map flipE ++ l.drop (k + 1) := by
  rw [List.set_append_right _ _ (by simp; omega), List.length_map, List.length_take, Nat.min_eq_left (Nat.le_of_lt h), Nat.sub_self, take_snoc l k h, List.map_append, ← List.getElem_cons_drop h, List.set_cons_zero, List.append_assoc]
  rfl
theorem reversed_len (p : Plan) : (reversed p).edges.length = p.edges.length := by
  unfold reversed
  split <;> simp
def zeroPlan : Plan := ⟨0, 0, 0, 0, []⟩

theorem implReversed_any (p : Plan) (ve : Value) (w : World) (hl : p.edges.length ≤ 2000000) (h : Rd edgeE w w.heap.size ve p.edges) :
    Calls Try.prog 18 #[planV p ve] w (ToPlanPost (reversed p) w) := by
  have D0 := BoxAt.new 26 p ve w
  have Z0 := BoxAt.new' 26 zeroPlan (.slice none 0 0) (planBox 26 p ve w) (b := w.heap.size + 1) (by simp [planBox])
  have hW0 := planBox_below 26 p ve w
  have hW1 : Below w.heap.size w ((planBox 26 p ve w).alloc (.cells #[.int .i64 0, .int .i64 0, .int .i64 0, .int .i64 0, .slice none 0 0] 26)) := hW0.alloc (by simp [planBox]) _
  have D1 := D0.below ((Below.refl _ _).alloc (Nat.le_refl _) (.cells #[.int .i64 0, .int .i64 0, .int .i64 0, .int .i64 0, .slice none 0 0] 26))
  have hS1 : ((planBox 26 p ve w).alloc (.cells #[.int .i64 0, .int .i64 0, .int .i64 0, .int .i64 0, .slice none 0 0] 26)).heap.size = w.heap.size + 2 := by simp [planBox]
  have HS1 := Lib.hid hS1
  clear hS1
  unfold planV
  go_enter Try.func18, Try.ntmps18
  go_wp2_with fail
  refine (implCopy_any p ve _ hl ((h.below hW1).more hW1.size)).mono ?_
  rintro e w1 ⟨v1, rfl, o1, b1⟩
  have D := D1.below b1
  have Z := Z0.below b1
  have hW := bnext hW1 b1
  have hsz := b1.size
  have o1 : Ow edgeE 52 w1 (w.heap.size + 2) v1 p.edges := by rw [← HS1.out]; exact o1
  clear D0 Z0 hW0 hW1 D1 b1 hsz
  obtain ⟨A1, c1, rfl, -⟩ := id (Rd.of_own o1)
  obtain ⟨x0, x1, x2, x3, x4, xs⟩ := D.cells
  go_wp2_with fail
  clear x0 x1 x2 x3 x4 xs
  generalize hw2 : w1.alloc (.cells #[.int .i64 p.prio, .int .i64 p.most, .int .i64 p.wait, .int .i64 p.tasks, .slice A1 p.edges.length c1] 26) = w2
  have b2 : Below w1.heap.size w1 w2 := by rw [← hw2]; exact (Below.refl _ _).alloc (Nat.le_refl _) _
  have X : BoxAt w1.heap.size p (.slice A1 p.edges.length c1) w2 := by rw [← hw2]; exact BoxAt.new 26 p _ w1
  clear hw2
  have o2 := o1.below b2
  have D := D.below b2
  have Z := Z.below b2
  have hW := bnext hW b2
  refine (implPlanFault_any p ve _ hl ((h.below hW).more hW.size)).mono ?_
  rintro e w3 ⟨rfl, b3⟩
  have o3 := o2.below b3
  have D := D.below b3
  have Z := Z.below b3
  have X := X.below b3
  have hW := bnext hW b3
  have hg1 := o1.within
  clear o1 o2 b2 b3
  by_cases hf : planFault p = 0
  case neg =>
    have hfb : (planFault p == 0) = false := by simp [hf]
    have H := Lib.hid (show reversed p = p by unfold reversed; rw [if_neg hf])
    clear hf
    obtain ⟨x0, x1, x2, x3, x4, xs⟩ := X.cells
    obtain ⟨z0, z1, z2, z3, z4, zs⟩ := Z.cells
    have zf := Z.free
    go_wp2
    have oq := o3.more (base' := w.heap.size + 2) (Nat.le_refl _)
    refine bodyPost_ret (v := planV p (.slice A1 p.edges.length c1)) ?_ rfl ⟨.slice A1 p.edges.length c1, by rw [H.out], ?_, ?_⟩
    · simp [planV, results, Try.results18, go_sem, *]
    · rw [H.out]
      refine Ow.more (base := w.heap.size + 2) ?_ (by omega)
      unfold Ow at oq ⊢
      repeat (first | (with_reducible exact oq) | refine ownsRow_setCell_below ?_ (by simp <;> omega) _)
    · repeat (first | (with_reducible exact hW) | refine Below.setCell ?_ (by simp <;> omega) _)
  have hfb : (planFault p == 0) = true := by simp [hf]
  have H := Lib.hid (show reversed p = { p with edges := p.edges.map flipE } by unfold reversed; rw [if_pos hf])
  clear hf
  obtain ⟨x0, x1, x2, x3, x4, xs⟩ := X.cells
  go_wp2
  clear x0 x1 x2 x3 x4 xs
  go_loopw [14] (fun i wr => ∃ k : Nat, k ≤ p.edges.length ∧ i = .int .i64 k ∧ Ow edgeE 52 wr (w.heap.size + 2) (.slice A1 p.edges.length c1) ((p.edges.take k).map flipE ++ p.edges.drop k) ∧ BoxAt (w.heap.size + 1) zeroPlan (.slice none 0 0) wr ∧ BoxAt w1.heap.size p (.slice A1 p.edges.length c1) wr ∧ Below w.heap.size w wr) (fun i _ => p.edges.length - (intOf i).toNat)
  case atStart => exact ⟨0, Nat.zero_le _, rfl, o3, Z, X, hW⟩
  case round =>
    clear o3 Z X hW D
    obtain ⟨k, hk, rfl, ho, Z, X, hW⟩ := hrel
    obtain ⟨x0, x1, x2, x3, x4, xs⟩ := X.cells
    by_cases hlt : k < p.edges.length
    · have hltI : (k : Int) < (p.edges.length : Int) := by omega
      have hll : ((p.edges.take k).map flipE ++ p.edges.drop k).length = p.edges.length := by simp; omega
      obtain ⟨g, rfl, hg2, hg3⟩ := ho.some_ (by rw [hll]; omega)
      have hg4 := (hg1 g rfl).2
      have hf := ho.free
      obtain ⟨c0, c1'⟩ := ho.edge (k := k) (by rw [hll]; exact hlt)
      rw [flip_get p.edges k hlt] at c0 c1'
      have hp := Ow.put ho hll k hlt (flipE p.edges[k])
      rw [flip_set p.edges k hlt] at hp
      have Hp := Lib.hid hp
      have HX := X.far hp.2 (by simp; omega)
      have HZ := Z.far hp.2 (by simp; omega)
      have HW := hW.grown hp.2 hW.size (fun g' hg' => by simp at hg'; omega)
      clear hp
      go_wp2
      have ha : ∀ w : World, Below w.heap.size w (w.alloc (.cells #[.int .i64 p.edges[k].fr, .int .i64 p.edges[k].to] 52)) := fun w => (Below.refl _ _).alloc (Nat.le_refl _) _
      exact ⟨⟨k + 1, by omega, by go_num, Hp.out.1.below (ha _), HZ.below (ha _), HX.below (ha _), bnext HW (ha _)⟩, by simp [intOf]; omega⟩
    · have hltI : ¬ (k : Int) < (p.edges.length : Int) := by omega
      obtain ⟨z0, z1, z2, z3, z4, zs⟩ := Z.cells
      have zf := Z.free
      have hk' : k = p.edges.length := by omega
      subst hk'
      rw [List.take_length, List.drop_length, List.append_nil] at ho
      go_wp2
      refine bodyPost_ret (v := planV { p with edges := p.edges.map flipE } (.slice A1 p.edges.length c1)) ?_ rfl ⟨.slice A1 p.edges.length c1, by rw [H.out], ?_, ?_⟩
      · simp [planV, results, Try.results18, go_sem, *]
      · rw [H.out]
        refine Ow.more (base := w.heap.size + 2) ?_ (by omega)
        unfold Ow at ho ⊢
        repeat (first | (with_reducible exact ho) | refine ownsRow_setCell_below ?_ (by simp <;> omega) _)
      · repeat (first | (with_reducible exact hW) | refine Below.setCell ?_ (by simp <;> omega) _)
end Go.Proofs.Ytnaicippgocdfaa
end
