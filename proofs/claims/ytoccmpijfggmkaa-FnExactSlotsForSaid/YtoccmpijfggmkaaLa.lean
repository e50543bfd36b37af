/-
  LatestOf of the program.
-/
import Derived.Test.YtoccmpijfggmkaaLo
namespace Go.Proofs.Ytoccmpijfggmkaa
open Go.RowKit
set_option maxRecDepth 100000
set_option maxHeartbeats 3000000

def latEnd (L : Int) (o : List Int) (B : List Nat) : Int := B.foldl (fun e b => min e (o.getD b 0)) L
def latTask (es : List (Nat × Nat)) (T : Nat) (L : Int) (l : List Int) (t : Nat) (o : List Int) : List Int := o.set t (latEnd L o (behindL es T t) - l.getD t 0)
def latL (es : List (Nat × Nat)) (T : Nat) (L : Int) (l : List Int) (ord : List Nat) : List Int := ord.foldr (latTask es T L l) (List.replicate T 0)
noncomputable def latestOf (p : Plan) (l : List Int) : List Int := if weightsOk p l = true then latL (esOf p) p.tasks.toNat (longestOf p l) l (orderOf p) else []
def Ld (o : List Int) (c : Nat) : Prop := ∀ x ∈ o, -(1000 * (c : Int)) ≤ x ∧ x ≤ 145000
theorem latL_len (es : List (Nat × Nat)) (T : Nat) (L : Int) (l : List Int) : ∀ ord : List Nat, (latL es T L l ord).length = T
  | [] => by simp [latL]
  | t :: ord => by
    have := latL_len es T L l ord
    unfold latL at *
    rw [List.foldr_cons, latTask, List.length_set, this]
theorem latL_cons (es : List (Nat × Nat)) (T : Nat) (L : Int) (l : List Int) (ord : List Nat) {n : Nat} (h : n < ord.length) : latL es T L l (ord.drop n) = (latL es T L l (ord.drop (n + 1))).set ord[n] (latEnd L (latL es T L l (ord.drop (n + 1))) (behindL es T ord[n]) - l.getD ord[n] 0) := by
  rw [List.drop_eq_getElem_cons h]
  rfl
theorem getD_ld {o : List Int} {c : Nat} (h : Ld o c) (k : Nat) : -(1000 * (c : Int)) ≤ o.getD k 0 ∧ o.getD k 0 ≤ 145000 := by
  rw [List.getD_eq_getElem?_getD]
  cases hk : o[k]? with
  | none => simp; omega
  | some x => exact h x (List.mem_of_getElem? hk)
theorem latEnd_bd {L : Int} (hL : 0 ≤ L ∧ L ≤ 145000) {o : List Int} {c : Nat} (h : Ld o c) : ∀ (B : List Nat) (L' : Int), -(1000 * (c : Int)) ≤ L' ∧ L' ≤ 145000 → -(1000 * (c : Int)) ≤ latEnd L' o B ∧ latEnd L' o B ≤ 145000
  | [], L', h' => h'
  | b :: B, L', h' => by
    have := getD_ld h b
    have h2 := latEnd_bd hL h B (min L' (o.getD b 0)) (by omega)
    simpa [latEnd] using h2
theorem Ld.step {L : Int} (hL : 0 ≤ L ∧ L ≤ 145000) {o : List Int} {c : Nat} (h : Ld o c) {l : List Int} (hl : ∀ x ∈ l, 1 ≤ x ∧ x ≤ 1000) (B : List Nat) (t : Nat) : Ld (o.set t (latEnd L o B - l.getD t 0)) (c + 1) := by
  intro x hx
  have hw : 0 ≤ l.getD t 0 ∧ l.getD t 0 ≤ 1000 := by
    rw [List.getD_eq_getElem?_getD]
    cases hk : l[t]? with
    | none => simp
    | some y => have := hl y (List.mem_of_getElem? hk); simp; omega
  rcases List.mem_or_eq_of_mem_set hx with hx | rfl
  · have := h x hx; omega
  · have h1 := latEnd_bd hL h B L (by omega)
    omega
theorem latEnd_step {L : Int} {o : List Int} {B : List Nat} {j : Nat} (hj : j < B.length) (hb : B[j] < o.length) : latEnd L o (B.take (j + 1)) = min (latEnd L o (B.take j)) o[B[j]] := by
  unfold latEnd
  rw [earTake_step hj]
  simp [List.getD_eq_getElem?_getD, hb]
theorem latestOf_len (p : Plan) (l : List Int) : (latestOf p l).length ≤ 12 := by
  unfold latestOf
  split
  · rename_i hf
    have := manyOk_tasks (planFault_zero.1 (weightsOk_all hf).1).1
    rw [latL_len]
    omega
  · simp
theorem latL_ld {es : List (Nat × Nat)} {T : Nat} {L : Int} (hL : 0 ≤ L ∧ L ≤ 145000) {l : List Int} (hl : ∀ x ∈ l, 1 ≤ x ∧ x ≤ 1000) : ∀ ord : List Nat, Ld (latL es T L l ord) ord.length
  | [] => fun x hx => by have := List.eq_of_mem_replicate hx; subst this; simp
  | t :: ord => Ld.step hL (latL_ld hL hl ord) hl _ _
theorem latestOf_bd (p : Plan) (l : List Int) : Ld (latestOf p l) 12 := by
  unfold latestOf
  split
  · rename_i hf
    obtain ⟨g1, g2, g3⟩ := weightsOk_all hf
    have h1 := manyOk_tasks (planFault_zero.1 g1).1
    have h2 := (orderOf_inv g1).len
    have h3 := latL_ld (es := esOf p) (T := p.tasks.toNat) (longUpto_bd (earliestOf_bd p l) g3 (earliestOf p l).length) g3 (orderOf p)
    intro x hx
    have := h3 x hx
    omega
  · intro x hx; cases hx

theorem implLatest_any (p : Plan) (ve v : Value) (l : List Int) (w : World) (hl : p.edges.length ≤ 2000000) (hl2 : l.length ≤ 2000000) (h : Rd edgeE w w.heap.size ve p.edges) (h2 : Rd intE w w.heap.size v l) :
    Calls Try.prog 98 #[planV p ve, v] w fun e w' => ∃ u, e = .returned u ∧ Ow intE 3 w' w.heap.size u (latestOf p l) ∧ Below w.heap.size w w' := by
  obtain ⟨A, c, rfl, -⟩ := id h2
  have hb0 := planBox_below 47 p ve w
  have D0 := BoxAt.new 47 p ve w
  cases hf : weightsOk p l
  · have H := Lib.hid (show latestOf p l = [] by simp [latestOf, hf])
    have HF := Lib.hid hf
    clear hf
    unfold planV
    go_enter Try.func98, Try.ntmps98
    go_wp2_with fail
    refine (implWeightsOk_any p ve (.slice A l.length c) l _ hl hl2 ((h.below hb0).more hb0.size) ((h2.below hb0).more hb0.size)).mono ?_
    rintro e w1 ⟨rfl, hb1⟩
    rw [HF.out]
    have hb := bnext hb0 hb1
    go_wp2
    go_ret
    exact ⟨_, rfl, by rw [H.out]; exact Ow.nil _ _ _ _, hb⟩
  obtain ⟨g1, g2, g3⟩ := weightsOk_all hf
  have G := Lib.hid (planFault_zero.1 g1)
  have HF := Lib.hid hf
  have HP := Lib.hid g1
  have HW := Lib.hid g3
  obtain ⟨t1, t2⟩ := manyOk_tasks G.out.1
  obtain ⟨T, hT⟩ := Int.eq_ofNat_of_zero_le (show 0 ≤ p.tasks by omega)
  have HT := Lib.hid hT
  have HTn := Lib.hid (show p.tasks.toNat = T by omega)
  have hT12 : T ≤ 12 := by omega
  have HLl := Lib.hid (show l.length = T by omega)
  have H := Lib.hid (show latestOf p l = latL (esOf p) T (longestOf p l) l (orderOf p) by unfold latestOf; rw [if_pos hf, HTn.out])
  have hLg : Hid (0 ≤ longestOf p l ∧ longestOf p l ≤ 145000) := Lib.hid (longUpto_bd (earliestOf_bd p l) g3 _)
  have hO := Lib.hid (orderOf_inv g1)
  obtain ⟨j0, hj0, jz0, jz1, jz2⟩ := info_parts int_info
  have hmk : ∀ w : World, (Instr.makeSlice 50 (.int .i64 p.tasks) (.int .i64 p.tasks)).run Try.prog w = .ok (.slice (some ⟨w.heap.size, 0, none⟩) T T) (w.alloc (.cells (madeCells #[.int .i64 0] (T * 1)) 3)) := by
    intro w
    have := run_make (P := Try.prog) w 50 3 j0 _ Try.underlying50 hj0 jz0 .i64 .i64 T T (by omega) (by omega) (by rw [jz2]; omega) (by omega)
    rw [jz1] at this
    rw [hT]
    simpa [Value.cells] using this
  clear hf g1 g2 g3 hT
  unfold planV
  go_enter Try.func98, Try.ntmps98
  go_wp2_with fail
  refine (implWeightsOk_any p ve (.slice A l.length c) l _ hl hl2 ((h.below hb0).more hb0.size) ((h2.below hb0).more hb0.size)).mono ?_
  rintro e w1 ⟨rfl, hb1⟩
  rw [HF.out]
  have D := D0.below hb1
  have hb := bnext hb0 hb1
  obtain ⟨x0, x1, x2, x3, x4, xs⟩ := D.cells
  go_wp2_with fail
  clear x0 x1 x2 x3 x4 hmk D0 hb0 hb1
  have O1 := Ow.made intE 3 w1 0 T (by decide) (by simp [maxLen]; omega) (z := #[.int .i64 0]) rfl (m := T) (by simp [intE])
  have ha := (Below.refl w1.heap.size w1).alloc (Nat.le_refl _) (.cells (madeCells #[.int .i64 0] T) 3)
  have hsz1 : (w1.alloc (.cells (madeCells #[.int .i64 0] T) 3)).heap.size = w1.heap.size + 1 := by simp
  have Hsz1 := Lib.hid hsz1
  have D := D.below ha
  have hb := bnext hb ha
  clear ha hsz1
  refine (implOrder_any p ve _ hl ((h.below hb).more hb.size)).mono ?_
  rintro e w2 ⟨v2, rfl, o2, hb2⟩
  have o2 := o2.more (base' := w1.heap.size + 1) (by rw [Hsz1.out]; omega)
  have O := O1.below hb2
  have D := D.below hb2
  have hb := bnext hb hb2
  have hX := xs
  clear O1 xs hb2
  have hlen : (orderOf p).length = T := by rw [hO.out.len, HTn.out]
  have hlt0 : Hid (∀ x ∈ orderOf p, x < T) := fun x hx => by have := hO.out.lt x hx; rw [HTn.out] at this; exact this
  generalize orderOf p = ord at *
  generalize hLL : longestOf p l = L at *
  have HLL := Lib.hid hLL
  clear hLL
  obtain ⟨A2, c2, rfl, -⟩ := id (Rd.of_own o2)
  rw [hlen] at o2 ⊢
  have HO2 := Lib.hid hlen
  clear hlen
  have hsT : IntKind.i64.wrap ((T : Int) - 1) = (T : Int) - 1 := IntWalk.i64_in _ (by omega)
  go_wp2
  go_loopw [7] (fun i wr => ∃ n : Nat, n ≤ T ∧ i = .int .i64 ((n : Int) - 1) ∧ Hid (Ld (latL (esOf p) T L l (ord.drop n)) (T - n)) ∧ Ow intE 3 wr w1.heap.size (.slice (some ⟨w1.heap.size, 0, none⟩) T T) (latL (esOf p) T L l (ord.drop n)) ∧ Ow natE 3 wr (w1.heap.size + 1) (.slice A2 T c2) ord ∧ BoxAt w.heap.size p ve wr ∧ Below w.heap.size w wr) (fun i _ => (intOf i + 1).toNat)
  case atStart => exact ⟨T, Nat.le_refl _, rfl, by rw [List.drop_of_length_le (by rw [HO2.out]; exact Nat.le_refl _)]; exact fun x hx => by have := List.eq_of_mem_replicate hx; subst this; omega, by rw [List.drop_of_length_le (by rw [HO2.out]; exact Nat.le_refl _)]; exact O, o2, D, hb⟩
  case round =>
    clear O o2 D hb hsT
    obtain ⟨n, hn, rfl, hbd, ho, o2, D, hb⟩ := hrel
    cases n with
    | zero =>
      have hltI : ¬ ((0 : Nat) : Int) - 1 ≥ 0 := by omega
      have hbF := hb
      rw [List.drop_zero] at ho
      go_wp2
      go_ret
      exact ⟨_, rfl, by rw [H.out]; exact ho.more (by omega), hbF⟩
    | succ n =>
      have he1 : ((n + 1 : Nat) : Int) - 1 = (n : Int) := by omega
      rw [he1]
      clear he1
      have hnT : n < T := by omega
      have hge : (n : Int) ≥ 0 := by omega
      have hnI : (n : Int) < (T : Int) := by omega
      have hko : n < ord.length := by rw [HO2.out]; exact hnT
      have S0 := Lib.hid (latL_cons (esOf p) T L l ord hko)
      have hEl := latL_len (esOf p) T L l (ord.drop (n + 1))
      have htT : ord[n] < T := hlt0.out _ (List.getElem_mem hko)
      obtain ⟨g2, rfl, hg2, hg2'⟩ := o2.some_ (by omega)
      have ct := o2.nat hko
      generalize hE : latL (esOf p) T L l (ord.drop (n + 1)) = E at *
      have HE := Lib.hid hE
      clear hE
      generalize hkt : ord[n] = t at *
      have Hkt := Lib.hid hkt
      clear hkt
      obtain ⟨x0, x1, x2, x3, x4, xs⟩ := D.cells
      have hblk := ho.blk.2
      go_wp2_with fail
      clear x0 x1 x2 x3 x4 xs ct hblk
      refine (implLongest_any p ve (.slice A l.length c) l _ hl hl2 ((h.below hb).more hb.size) ((h2.below hb).more hb.size)).mono ?_
      rintro e w3 ⟨rfl, b3⟩
      rw [HLL.out]
      have ho := ho.below b3
      have o2 := o2.below b3
      have D := D.below b3
      have hb := bnext hb b3
      clear b3
      have hblk := ho.blk.2
      obtain ⟨x0, x1, x2, x3, x4, xs⟩ := D.cells
      go_wp2_with fail
      clear x0 x1 x2 x3 x4 xs
      refine (implBehind_any p ve t _ HP.out ((h.below hb).more hb.size)).mono ?_
      rintro e w4 ⟨v3, rfl, o3, b3⟩
      rw [HTn.out] at o3
      have o3 := o3.more (base' := w1.heap.size + 1) (by omega)
      have ho := ho.below b3
      have o2 := o2.below b3
      have D := D.below b3
      have hb := bnext hb b3
      have hbl := behindL_len (esOf p) T t
      have hbm : Hid (∀ x ∈ behindL (esOf p) T t, x < T) := fun x hx => by simp [behindL] at hx; exact hx.1
      have hst := Lib.hid (hbd.out.step hLg.out HW.out (behindL (esOf p) T t) t)
      generalize behindL (esOf p) T t = B at *
      obtain ⟨A3, c3, rfl, -⟩ := id (Rd.of_own o3)
      clear b3 hblk
      go_wp2
      go_loop [9, 39] (fun e i => ∃ j : Nat, j ≤ B.length ∧ i = .int .i64 j ∧ e = .int .i64 (latEnd L E (B.take j))) (fun _ i => B.length - (intOf i).toNat)
      case atStart => exact ⟨0, Nat.zero_le _, rfl, rfl⟩
      case round =>
        obtain ⟨j, hj, rfl, rfl⟩ := hrel
        by_cases hjt : j < B.length
        · have hjI : (j : Int) < (B.length : Int) := by omega
          have hbT : B[j] < T := hbm.out _ (List.getElem_mem hjt)
          have hbE : B[j] < E.length := by omega
          have Sj := Lib.hid (latEnd_step (L := L) (o := E) hjt hbE)
          generalize latEnd L E (B.take j) = m at *
          obtain ⟨g3, rfl, hg3, hg3'⟩ := o3.some_ (by omega)
          have cb := o3.nat hjt
          have cO := ho.int hbE
          generalize hbj : B[j] = b at *
          have hbI : (b : Int) < (T : Int) := by omega
          go_wp2
          exact ⟨⟨j + 1, by omega, by go_num, by rw [Sj.out]⟩, by simp [intOf]; omega⟩
        · have hjI : ¬ (j : Int) < (B.length : Int) := by omega
          have hj' : j = B.length := by omega
          subst hj'
          rw [List.take_length]
          have hen := latEnd_bd hLg.out hbd.out B L (by have := hLg.out; omega)
          have htl : t < l.length := by rw [HLl.out]; exact htT
          have htlI : (t : Int) < (l.length : Int) := by omega
          have htI : (t : Int) < (T : Int) := by omega
          have htO : t < E.length := by omega
          obtain ⟨bw, ow, rfl, hbw, cw⟩ := (h2.below hb).int htl
          have hwt := HW.out _ (List.getElem_mem htl)
          have hS2 := Lib.hid (show l.getD t 0 = l[t] by simp [List.getD_eq_getElem?_getD, htl])
          have hput := Lib.hid (Ow.put ho hEl t htT (latEnd L E B - l[t]))
          generalize latEnd L E B = m at *
          have hs : IntKind.i64.wrap (m - l[t]) = m - l[t] := IntWalk.i64_in _ (by omega)
          have cO := ho.int htO
          have hf := ho.free
          clear hwt hen
          go_wp2
          refine ⟨⟨n, by omega, rfl, by rw [S0.out, hS2.out] at *; exact fun x hx => by have := hst.out x hx; omega, ?_, o2.setOther (by simp [Value.ownBlock]; omega) _, D.other (by simp; omega) _, hb.setCell (by simp; omega) _⟩, by simp [intOf]⟩
          rw [S0.out, hS2.out]
          have := hput.out.1
          simp only [intE, Nat.mul_one] at this
          exact this
end Go.Proofs.Ytoccmpijfggmkaa
