/-
  EarliestOf of the program. OrderOf of the reference. Behind of the program. EarliestOf of the reference. LongestOf of both. LatestOf of the program. LeastEnd of both.  The next task that may be taken, of both. Written by program (nx.py).
-/
import Derived.Test.YtnaicippgocdfaaZS3
section
namespace Go.Proofs.Ytnaicippgocdfaa
open Go.RowKit
set_option maxRecDepth 100000
set_option maxHeartbeats 2000000

def earStep (l : List Int) (t : Nat) (o : List Int) (b : Nat) : List Int := o.set t (max (o.getD t 0) (o.getD b 0 + l.getD b 0))
def earTask (es : List (Nat × Nat)) (T : Nat) (l : List Int) (o : List Int) (t : Nat) : List Int := (beforeL es T t).foldl (earStep l t) o
def earL (es : List (Nat × Nat)) (T : Nat) (l : List Int) (ord : List Nat) : List Int := ord.foldl (earTask es T l) (List.replicate T 0)
noncomputable def earliestOf (p : Plan) (l : List Int) : List Int := if weightsOk p l = true then earL (esOf p) p.tasks.toNat l (orderOf p) else []
/-- all values are small -/
def Bd (o : List Int) (c : Nat) : Prop := ∀ x ∈ o, 0 ≤ x ∧ x ≤ 1000 * c
theorem earStep_len (l : List Int) (t : Nat) (o : List Int) (b : Nat) : (earStep l t o b).length = o.length := by simp [earStep]
theorem earFold_len (l : List Int) (t : Nat) : ∀ (B : List Nat) (o : List Int), (B.foldl (earStep l t) o).length = o.length
  | [], o => rfl
  | b :: B, o => by rw [List.foldl_cons, earFold_len l t B, earStep_len]
theorem earL_len (es : List (Nat × Nat)) (T : Nat) (l : List Int) (ord : List Nat) : (earL es T l ord).length = T := by
  unfold earL
  suffices h : ∀ (ord : List Nat) (o : List Int), (ord.foldl (earTask es T l) o).length = o.length by rw [h]; simp
  intro ord
  induction ord with
  | nil => intro o; rfl
  | cons t ord ih => intro o; rw [List.foldl_cons, ih, earTask, earFold_len]
theorem Bd.more {o : List Int} {c c' : Nat} (h : Bd o c) (hc : c ≤ c') : Bd o c' := fun x hx => by have := h x hx; omega
theorem getD_bd {o : List Int} {c : Nat} (h : Bd o c) (k : Nat) : 0 ≤ o.getD k 0 ∧ o.getD k 0 ≤ 1000 * c := by
  rw [List.getD_eq_getElem?_getD]
  cases hk : o[k]? with
  | none => simp; omega
  | some x => exact h x (List.mem_of_getElem? hk)
theorem Bd.step {o : List Int} {c : Nat} (h : Bd o c) {l : List Int} (hl : ∀ x ∈ l, 1 ≤ x ∧ x ≤ 1000) (t b : Nat) : Bd (earStep l t o b) (c + 1) := by
  intro x hx
  have hw : 0 ≤ l.getD b 0 ∧ l.getD b 0 ≤ 1000 := by
    rw [List.getD_eq_getElem?_getD]
    cases hk : l[b]? with
    | none => simp
    | some y => have := hl y (List.mem_of_getElem? hk); simp; omega
  rcases List.mem_or_eq_of_mem_set hx with hx | rfl
  · have := h x hx; omega
  · have h1 := getD_bd h t
    have h2 := getD_bd h b
    omega
theorem earTake_step {α β : Type} {f : β → α → β} {o : β} {B : List α} {j : Nat} (hj : j < B.length) : (B.take (j + 1)).foldl f o = f ((B.take j).foldl f o) B[j] := by
  rw [take_snoc B j hj, List.foldl_append]
  rfl
theorem earStep_eq {l o : List Int} {t b : Nat} (ht : t < o.length) (hb : b < o.length) (hlb : b < l.length) : earStep l t o b = o.set t (max o[t] (o[b] + l[b])) := by
  simp [earStep, List.getD_eq_getElem?_getD, ht, hb, hlb]
theorem orderOf_inv {p : Plan} (hf : planFault p = 0) : OrderInv (esOf p) p.tasks.toNat p.tasks.toNat (orderOf p) := by
  unfold orderOf
  rw [if_pos hf]
  exact orderL_inv (esOf_lt (planFault_zero.1 hf).2.1).1 (plan_ac hf) _ (Nat.le_refl _)

theorem implEarliest_any (p : Plan) (ve v : Value) (l : List Int) (w : World) (hl : p.edges.length ≤ 2000000) (hl2 : l.length ≤ 2000000) (h : Rd edgeE w w.heap.size ve p.edges) (h2 : Rd intE w w.heap.size v l) :
    Calls Try.prog 35 #[planV p ve, v] w fun e w' => ∃ u, e = .returned u ∧ Ow intE 3 w' w.heap.size u (earliestOf p l) ∧ Below w.heap.size w w' := by
  obtain ⟨A, c, rfl, -⟩ := id h2
  have hb0 := planBox_below 26 p ve w
  have D0 := BoxAt.new 26 p ve w
  cases hf : weightsOk p l
  · have H := Lib.hid (show earliestOf p l = [] by simp [earliestOf, hf])
    have HF := Lib.hid hf
    clear hf
    unfold planV
    go_enter Try.func35, Try.ntmps35
    go_wp2_with fail
    refine (implWeightsOk_any p ve (.slice A l.length c) l _ hl hl2 ((h.below hb0).more hb0.size) ((h2.below hb0).more hb0.size)).mono ?_
    rintro e w1 ⟨rfl, hb1⟩
    rw [HF.out]
    go_wp2
    go_ret
    exact ⟨_, rfl, by rw [H.out]; exact Ow.nil _ _ _ _, bnext hb0 hb1⟩
  obtain ⟨g1, g2, g3⟩ := weightsOk_all hf
  have G := Lib.hid (planFault_zero.1 g1)
  have HF := Lib.hid hf
  have HP := Lib.hid g1
  have HW := Lib.hid g3
  obtain ⟨t1, t2⟩ := manyOk_tasks G.out.1
  obtain ⟨T, hT⟩ := Int.eq_ofNat_of_zero_le (show 0 ≤ p.tasks by omega)
  have HT := Lib.hid hT
  have HTn := Lib.hid (show p.tasks.toNat = T by omega)
  have hT12 : T ≤ 12 := by omega
  have HLl := Lib.hid (show l.length = T by omega)
  have H := Lib.hid (show earliestOf p l = earL (esOf p) T l (orderOf p) by unfold earliestOf; rw [if_pos hf, HTn.out])
  have hO := Lib.hid (orderOf_inv g1)
  obtain ⟨j0, hj0, jz0, jz1, jz2⟩ := info_parts int_info
  have hmk : ∀ w : World, (Instr.makeSlice 27 (.int .i64 p.tasks) (.int .i64 p.tasks)).run Try.prog w = .ok (.slice (some ⟨w.heap.size, 0, none⟩) T T) (w.alloc (.cells (madeCells #[.int .i64 0] (T * 1)) 3)) := by
    intro w
    have := run_make (P := Try.prog) w 27 3 j0 _ Try.underlying27 hj0 jz0 .i64 .i64 T T (by omega) (by omega) (by rw [jz2]; omega) (by omega)
    rw [jz1] at this
    rw [hT]
    simpa [Value.cells] using this
  clear hf g1 g2 g3 hT
  unfold planV
  go_enter Try.func35, Try.ntmps35
  go_wp2_with fail
  refine (implWeightsOk_any p ve (.slice A l.length c) l _ hl hl2 ((h.below hb0).more hb0.size) ((h2.below hb0).more hb0.size)).mono ?_
  rintro e w1 ⟨rfl, hb1⟩
  rw [HF.out]
  have D := D0.below hb1
  have hb := bnext hb0 hb1
  obtain ⟨x0, x1, x2, x3, x4, xs⟩ := D.cells
  go_wp2_with fail
  clear x0 x1 x2 x3 x4 hmk D0 hb0 hb1
  have O1 := Ow.made intE 3 w1 0 T (by decide) (by simp [maxLen]; omega) (z := #[.int .i64 0]) rfl (m := T) (by simp [intE])
  have ha := (Below.refl w1.heap.size w1).alloc (Nat.le_refl _) (.cells (madeCells #[.int .i64 0] T) 3)
  have hsz1 : (w1.alloc (.cells (madeCells #[.int .i64 0] T) 3)).heap.size = w1.heap.size + 1 := by simp
  have Hsz1 := Lib.hid hsz1
  have D := D.below ha
  have hb := bnext hb ha
  clear ha hsz1
  refine (implOrder_any p ve _ hl ((h.below hb).more hb.size)).mono ?_
  rintro e w2 ⟨v2, rfl, o2, hb2⟩
  have o2 := o2.more (base' := w1.heap.size + 1) (by rw [Hsz1.out]; omega)
  have O := O1.below hb2
  have D := D.below hb2
  have hb := bnext hb hb2
  have hX := xs
  clear O1 xs hb2
  have hlen : (orderOf p).length = T := by rw [hO.out.len, HTn.out]
  have hlt0 : Hid (∀ x ∈ orderOf p, x < T) := fun x hx => by have := hO.out.lt x hx; rw [HTn.out] at this; exact this
  generalize orderOf p = ord at *
  obtain ⟨A2, c2, rfl, -⟩ := id (Rd.of_own o2)
  rw [hlen] at o2 ⊢
  have HO2 := Lib.hid hlen
  clear hlen
  go_wp2
  go_loopw [20] (fun i wr => ∃ k : Nat, k ≤ T ∧ i = .int .i64 k ∧ Hid (Bd (earL (esOf p) T l (ord.take k)) (12 * k)) ∧ Ow intE 3 wr w1.heap.size (.slice (some ⟨w1.heap.size, 0, none⟩) T T) (earL (esOf p) T l (ord.take k)) ∧ Ow natE 3 wr (w1.heap.size + 1) (.slice A2 T c2) ord ∧ BoxAt w.heap.size p ve wr ∧ Below w.heap.size w wr) (fun i _ => T - (intOf i).toNat)
  case atStart => exact ⟨0, Nat.zero_le _, rfl, fun x hx => by have := List.eq_of_mem_replicate hx; subst this; omega, O, o2, D, hb⟩
  case round =>
    clear O o2 D hb
    obtain ⟨k, hk, rfl, hbd, ho, o2, D, hb⟩ := hrel
    by_cases hlt : k < T
    · have hltI : (k : Int) < (T : Int) := by omega
      have hko : k < ord.length := by rw [HO2.out]; exact hlt
      have S0 := Lib.hid (show earL (esOf p) T l (ord.take (k + 1)) = (beforeL (esOf p) T ord[k]).foldl (earStep l ord[k]) (earL (esOf p) T l (ord.take k)) from earTake_step hko)
      have hEl := earL_len (esOf p) T l (ord.take k)
      have htT : ord[k] < T := hlt0.out _ (List.getElem_mem hko)
      obtain ⟨g2, rfl, hg2, hg2'⟩ := o2.some_ (by omega)
      have ct := o2.nat hko
      generalize hE : earL (esOf p) T l (ord.take k) = E at *
      have HE := Lib.hid hE
      clear hE
      generalize ord[k] = t at *
      obtain ⟨x0, x1, x2, x3, x4, xs⟩ := D.cells
      have hblk := ho.blk.2
      go_wp2_with fail
      clear x0 x1 x2 x3 x4 xs ct
      refine (implBefore_any p ve t _ HP.out ((h.below hb).more hb.size)).mono ?_
      rintro e w3 ⟨v3, rfl, o3, b3⟩
      rw [HTn.out] at o3
      have o3 := o3.more (base' := w1.heap.size + 1) (by omega)
      have ho := ho.below b3
      have o2 := o2.below b3
      have D := D.below b3
      have hb := bnext hb b3
      have hbl := beforeL_len (esOf p) T t
      have hbm : Hid (∀ x ∈ beforeL (esOf p) T t, x < T) := fun x hx => by simp [beforeL] at hx; exact hx.1
      generalize beforeL (esOf p) T t = B at *
      obtain ⟨A3, c3, rfl, -⟩ := id (Rd.of_own o3)
      clear b3 hblk
      go_wp2
      go_loopw [28] (fun i wr => ∃ j : Nat, j ≤ B.length ∧ i = .int .i64 j ∧ Hid (Bd ((B.take j).foldl (earStep l t) E) (12 * k + j)) ∧ Ow intE 3 wr w1.heap.size (.slice (some ⟨w1.heap.size, 0, none⟩) T T) ((B.take j).foldl (earStep l t) E) ∧ Ow natE 3 wr (w1.heap.size + 1) (.slice (some ⟨g2, 0, none⟩) T c2) ord ∧ Ow natE 3 wr (w1.heap.size + 1) (.slice A3 B.length c3) B ∧ BoxAt w.heap.size p ve wr ∧ Below w.heap.size w wr) (fun i _ => B.length - (intOf i).toNat)
      case atStart => exact ⟨0, Nat.zero_le _, rfl, hbd, ho, o2, o3, D, hb⟩
      case round =>
        clear ho o2 o3 D hb
        obtain ⟨j, hj, rfl, hbj, ho, o2, o3, D, hb⟩ := hrel
        by_cases hjt : j < B.length
        · have hjI : (j : Int) < (B.length : Int) := by omega
          have S := Lib.hid (earTake_step (f := earStep l t) (o := E) hjt)
          have hOl := earFold_len l t (B.take j) E
          rw [hEl] at hOl
          generalize (B.take j).foldl (earStep l t) E = O at *
          have hbT : B[j] < T := hbm.out _ (List.getElem_mem hjt)
          obtain ⟨g3, rfl, hg3, hg3'⟩ := o3.some_ (by omega)
          have cb := o3.nat hjt
          generalize B[j] = b at *
          have htI : (t : Int) < (T : Int) := by omega
          have hbI : (b : Int) < (T : Int) := by omega
          have hlb : b < l.length := by rw [HLl.out]; exact hbT
          have hlbI : (b : Int) < (l.length : Int) := by omega
          have htO : t < O.length := by omega
          have hbO : b < O.length := by omega
          have cO := ho.int htO
          have cO2 := ho.int hbO
          have hf := ho.free
          obtain ⟨bw, ow, rfl, hbw, cw⟩ := (h2.below hb).int hlb
          have hS := Lib.hid (earStep_eq (l := l) htO hbO hlb)
          have hw1 := hbj.out _ (List.getElem_mem htO)
          have hw2 := hbj.out _ (List.getElem_mem hbO)
          have hw3 := HW.out _ (List.getElem_mem hlb)
          have hbd2 := Lib.hid (hbj.out.step HW.out t b)
          have hput := Lib.hid (Ow.put ho hOl t htT (max O[t] (O[b] + l[b])))
          have hwr : IntKind.i64.wrap (O[b] + l[b]) = O[b] + l[b] := IntWalk.i64_in _ (by omega)
          clear hw1 hw2 hw3
          go_wp2
          go_still_tail 17, (by kernel_rfl)
          change wpList _ _ _ _ _ wr.drew
          go_wp2
          have hdr : ∀ w : World, Below w.heap.size w w.drew := fun w => (Below.refl _ _).drew
          refine ⟨⟨j + 1, by omega, by go_num, by rw [S.out]; exact hbd2.out, ?_, (o2.setOther (by simp [Value.ownBlock]; omega) _).below (hdr _), (o3.setOther (by simp [Value.ownBlock]; omega) _).below (hdr _), (D.other (by simp; omega) _).below (hdr _), (hb.setCell (by simp; omega) _).drew⟩, by simp [intOf]; omega⟩
          rw [S.out, hS.out]
          have := hput.out.1
          simp only [intE, Nat.mul_one] at this
          exact this.below (hdr _)
        · have hjI : ¬ (j : Int) < (B.length : Int) := by omega
          have hj' : j = B.length := by omega
          subst hj'
          rw [List.take_length] at ho hbj
          go_wp2
          exact ⟨⟨k + 1, by omega, by go_num, by rw [S0.out]; exact hbj.out.more (by omega), by rw [S0.out]; exact ho, o2, D, hb⟩, by simp [intOf]; omega⟩
    · have hltI : ¬ (k : Int) < (T : Int) := by omega
      have hk' : k = T := by omega
      have hbF := hb
      subst hk'
      rw [List.take_of_length_le (by rw [HO2.out]; exact Nat.le_refl _)] at ho
      go_wp2
      go_ret
      exact ⟨_, rfl, by rw [H.out]; exact ho.more (by omega), hbF⟩
end Go.Proofs.Ytnaicippgocdfaa
end
section
namespace Go.Proofs.Ytnaicippgocdfaa
open Go.RowKit
set_option maxRecDepth 100000
set_option maxHeartbeats 2000000

/-- who is in o, task by task -/
def toldL (T : Nat) (o : List Nat) : List Bool := (List.range T).map fun s => decide (s ∈ o)
theorem toldL_len (T : Nat) (o : List Nat) : (toldL T o).length = T := by simp [toldL]
theorem toldL_get {T : Nat} {o : List Nat} {s : Nat} (h : s < (toldL T o).length) : (toldL T o)[s] = decide (s ∈ o) := by simp [toldL]
theorem toldL_nil (T : Nat) : toldL T [] = List.replicate T false := by
  apply List.ext_getElem
  · simp [toldL]
  · intro i h1 h2
    simp [toldL]
theorem toldL_set {T : Nat} {o : List Nat} {t : Nat} : (toldL T o).set t true = toldL T (o ++ [t]) := by
  apply List.ext_getElem
  · simp [toldL]
  · intro i h1 h2
    rw [List.getElem_set]
    by_cases e : t = i
    · subst e; simp [toldL]
    · rw [if_neg e]
      simp [toldL, Ne.symm e]
/-- what the look at the first j finds -/
def okUpto (o b : List Nat) (t j : Nat) : Bool := !decide (t ∈ o) && decide (∀ x ∈ b.take j, x ∈ o)
theorem okUpto_succ {o b : List Nat} {t j : Nat} (hj : j < b.length) : okUpto o b t (j + 1) = (okUpto o b t j && decide (b[j] ∈ o)) := by
  unfold okUpto
  rw [take_snoc b j hj, Bool.and_assoc, ← Bool.decide_and]
  congr 1
  refine decide_eq_decide.2 ⟨fun h => ⟨fun x hx => h x (List.mem_append_left _ hx), h _ (List.mem_append_right _ (List.mem_singleton.2 rfl))⟩, ?_⟩
  rintro ⟨h1, h2⟩ x hx
  rcases List.mem_append.1 hx with h | h
  · exact h1 x h
  · rw [List.mem_singleton.1 h]; exact h2

theorem specOrder_any (p : Plan) (ve : Value) (w : World) (hl : p.edges.length ≤ 2000000) (h : Rd edgeE w w.heap.size ve p.edges) :
    Calls Try.prog 68 #[planV p ve] w fun e w' => ∃ v, e = .returned v ∧ Ow natE 3 w' w.heap.size v (orderOf p) ∧ Below w.heap.size w w' := by
  have ha0 : ∀ w : World, Below w.heap.size w (w.alloc (.cells #[] 3)) := fun w => (Below.refl _ _).alloc (Nat.le_refl _) _
  have hb00 := planBox_below 26 p ve w
  have hb0 := bnext hb00 (ha0 _)
  have D0 := (BoxAt.new 26 p ve w).below (ha0 _)
  have O0 := Ow.empty natE 3 (planBox 26 p ve w) (g := w.heap.size + 1) (by rw [planBox_size])
  clear hb00 ha0
  by_cases hf : planFault p = 0
  case neg =>
    have hfb : (planFault p != 0) = true := by simp [hf]
    have H := Lib.hid (show orderOf p = [] by unfold orderOf; rw [if_neg hf])
    clear hf
    unfold planV
    go_enter Try.func68, Try.ntmps68
    go_wp2_with fail
    refine (specPlanFault_any p ve _ hl ((h.below hb0).more hb0.size)).mono ?_
    rintro e w1 ⟨rfl, hb1⟩
    go_wp2
    go_ret
    exact ⟨_, rfl, by rw [H.out]; exact (O0.below hb1).more (by omega), bnext hb0 hb1⟩
  have hfb : (planFault p != 0) = false := by simp [hf]
  have G := Lib.hid (planFault_zero.1 hf)
  have HF := Lib.hid hf
  have hac := Lib.hid (plan_ac hf)
  obtain ⟨t1, t2⟩ := manyOk_tasks G.out.1
  obtain ⟨T, hT⟩ := Int.eq_ofNat_of_zero_le (show 0 ≤ p.tasks by omega)
  have HT := Lib.hid hT
  have HTn := Lib.hid (show p.tasks.toNat = T by omega)
  have hT12 : T ≤ 12 := by omega
  have H := Lib.hid (show orderOf p = orderL (esOf p) T T by unfold orderOf; rw [if_pos hf, HTn.out])
  have he1 := Lib.hid (show ∀ e ∈ esOf p, e.1 < T by have := (esOf_lt G.out.2.1).1; rw [HTn.out] at this; exact this)
  have hac' := Lib.hid (show ∀ t, t < T → ¬ Pg.Reach (esOf p) t t by have := hac.out; rw [HTn.out] at this; exact this)
  obtain ⟨j0, hj0, jz0, jz1, jz2⟩ := info_parts int_info
  obtain ⟨i0, hi0, hz0, hz1, hz2⟩ := info_parts bool_info
  have hmk : ∀ w : World, (Instr.makeSlice 71 (.int .i64 p.tasks) (.int .i64 p.tasks)).run Try.prog w = .ok (.slice (some ⟨w.heap.size, 0, none⟩) T T) (w.alloc (.cells (madeCells #[.bool false] (T * 1)) 4)) := by
    intro w
    have := run_make (P := Try.prog) w 71 4 i0 _ Try.underlying71 hi0 hz0 .i64 .i64 T T (by omega) (by omega) (by rw [hz2]; omega) (by omega)
    rw [hz1] at this
    rw [hT]
    simpa [Value.cells] using this
  clear hf hT hac
  unfold planV
  go_enter Try.func68, Try.ntmps68
  go_wp2_with fail
  refine (specPlanFault_any p ve _ hl ((h.below hb0).more hb0.size)).mono ?_
  rintro e w1 ⟨rfl, hb1⟩
  have D := D0.below hb1
  have O := O0.below hb1
  have hb := bnext hb0 hb1
  obtain ⟨x0, x1, x2, x3, x4, xs⟩ := D.cells
  have hOl := O.blk
  go_wp2
  clear x0 x1 x2 x3 x4 D0 O0 hb0 hb1 hmk
  have hX : w.heap.size + 1 ≤ w1.heap.size := by omega
  go_loopw [3] (fun vl wr => ∃ n : Nat, n ≤ T ∧ Ow natE 3 wr (w.heap.size + 1) vl (orderL (esOf p) T n) ∧ Ow boolE 4 wr (w.heap.size + 1) (.slice (some ⟨w1.heap.size, 0, none⟩) T T) (toldL T (orderL (esOf p) T n)) ∧ BoxAt w.heap.size p ve wr ∧ Below w.heap.size w wr) (fun vl _ => T - slen vl)
  case atStart =>
    have ha := (Below.refl w1.heap.size w1).alloc (Nat.le_refl _) (.cells (madeCells #[.bool false] T) 4)
    refine ⟨0, Nat.zero_le _, O.below ha, ?_, D.below ha, bnext hb ha⟩
    have := Ow.made boolE 4 w1 false T (by decide) (by simp [maxLen]; omega) (z := #[.bool false]) rfl (m := T) (by simp [boolE])
    show Ow boolE _ _ _ _ (toldL T [])
    rw [toldL_nil]
    exact this.more hX
  case round =>
    clear D O hb xs hOl
    obtain ⟨n, hn, ho, hto, D, hb⟩ := hrel
    have hinv := Lib.hid (orderL_inv he1.out hac'.out n hn)
    obtain ⟨A, c, rfl, -⟩ := id (Rd.of_own ho)
    have hlen : (orderL (esOf p) T n).length = n := hinv.out.len
    rw [hlen] at ho ⊢
    obtain ⟨x0, x1, x2, x3, x4, xs⟩ := D.cells
    have hlen2 : (orderL (esOf p) T n).length ≤ 2000000 := by omega
    have HL := Lib.hid hlen
    clear hlen hlen2
    by_cases hlt : n < T
    · have hltI : (n : Int) < p.tasks := by rw [HT.out]; omega
      obtain ⟨wo, rfl⟩ : ∃ wo : World, wo = wr := ⟨_, rfl⟩
      go_wp2
      clear x0 x1 x2 x3 x4 xs
      go_loopw [3, 5] (fun vl i wr => ∃ k : Nat, k ≤ T ∧ vl = .slice A n c ∧ i = .int .i64 k ∧ Hid (∀ s, s < k → mayCome (esOf p) (orderL (esOf p) T n) s = false) ∧ Ow natE 3 wr (w.heap.size + 1) (.slice A n c) (orderL (esOf p) T n) ∧ Ow boolE 4 wr (w.heap.size + 1) (.slice (some ⟨w1.heap.size, 0, none⟩) T T) (toldL T (orderL (esOf p) T n)) ∧ BoxAt w.heap.size p ve wr ∧ Below w.heap.size w wr) (fun _ i _ => T - (intOf i).toNat)
      case atStart => exact ⟨0, Nat.zero_le _, rfl, rfl, fun s hs => absurd hs (by omega), ho, hto, D, hb⟩
      case round =>
        clear ho D hb hto
        obtain ⟨k, hk, rfl, rfl, hno, ho, hto, D, hb⟩ := hrel
        obtain ⟨x0, x1, x2, x3, x4, xs⟩ := D.cells
        by_cases hkt : k < T
        · have hktI : (k : Int) < p.tasks := by rw [HT.out]; omega
          have hkTI : (k : Int) < (T : Int) := by omega
          have hmc := Lib.hid (mayCome_before (out := orderL (esOf p) T n) (t := k) he1.out)
          have hnext : mayCome (esOf p) (orderL (esOf p) T n) k = false → Hid (∀ s, s < k + 1 → mayCome (esOf p) (orderL (esOf p) T n) s = false) := fun hm s hs => by
            by_cases e : s = k
            · subst e; exact hm
            · exact hno.out s (by omega)
          have Hnext := Lib.hid hnext
          clear hnext
          have ck := hto.bool (k := k) (by rw [toldL_len]; exact hkt)
          rw [toldL_get] at ck
          go_wp2_with fail
          refine (specBefore_any p ve k _ G.out.1 G.out.2.1 G.out.2.2.1 ((h.below hb).more hb.size)).mono ?_
          rintro e w3 ⟨v3, rfl, o3, b3⟩
          rw [HTn.out] at o3
          have ho := ho.below b3
          have hto := hto.below b3
          have D := D.below b3
          have hb := bnext hb b3
          clear x0 x1 x2 x3 x4 xs ck
          have hbl := beforeL_len (esOf p) T k
          have hbm : Hid (∀ x ∈ beforeL (esOf p) T k, x < T) := fun x hx => by simp [beforeL] at hx; exact hx.1
          generalize hB : beforeL (esOf p) T k = B at *
          have HB := Lib.hid hB
          clear hB
          obtain ⟨A3, c3, rfl, -⟩ := id (Rd.of_own o3)
          go_wp2
          go_loop [6, 8] (fun y i => ∃ j : Nat, j ≤ B.length ∧ i = .int .i64 j ∧ y = .bool (okUpto (orderL (esOf p) T n) B k j)) (fun _ i => B.length - (intOf i).toNat)
          case atStart => exact ⟨0, Nat.zero_le _, rfl, by simp [okUpto]⟩
          case round =>
            obtain ⟨j, hj, rfl, rfl⟩ := hrel
            by_cases hjt : j < B.length
            · have hjI : (j : Int) < (B.length : Int) := by omega
              have hun := Lib.hid (okUpto_succ (o := orderL (esOf p) T n) (t := k) hjt)
              cases hok : okUpto (orderL (esOf p) T n) B k j
              · have S := Lib.hid (show okUpto (orderL (esOf p) T n) B k (j + 1) = false by rw [hun.out, hok]; rfl)
                go_wp2
                exact ⟨⟨j + 1, by omega, by go_num, by rw [S.out]⟩, by simp [intOf]; omega⟩
              · have S := Lib.hid (show okUpto (orderL (esOf p) T n) B k (j + 1) = decide (B[j] ∈ orderL (esOf p) T n) by rw [hun.out, hok]; rfl)
                obtain ⟨g3, rfl, _, _⟩ := o3.some_ (by omega)
                have cB := o3.nat hjt
                have hBT : B[j] < T := hbm.out _ (List.getElem_mem hjt)
                have hBTI : (B[j] : Int) < (T : Int) := by omega
                have cT := hto.bool (k := B[j]) (by rw [toldL_len]; exact hBT)
                rw [toldL_get] at cT
                go_wp2
                exact ⟨⟨j + 1, by omega, by go_num, by rw [S.out]⟩, by simp [intOf]; omega⟩
            · have hjI : ¬ (j : Int) < (B.length : Int) := by omega
              have hj' : j = B.length := by omega
              subst hj'
              have hfin := Lib.hid (show okUpto (orderL (esOf p) T n) B k B.length = mayCome (esOf p) (orderL (esOf p) T n) k by rw [hmc.out, okUpto, List.take_length])
              cases hok : okUpto (orderL (esOf p) T n) B k B.length
              · have S := Hnext.out (by rw [← hfin.out, hok])
                go_wp2
                exact ⟨⟨k + 1, by omega, rfl, by go_num, S, ho, hto, D, hb⟩, by simp [intOf]; omega⟩
              · have S := Lib.hid (orderL_succ (pickT_first hkt (show mayCome (esOf p) (orderL (esOf p) T n) k = true by rw [← hfin.out, hok]) hno.out))
                have hcf := hto.free
                have ck := hto.bool (k := k) (by rw [toldL_len]; exact hkt)
                have hput := Ow.put hto (n := T) (toldL_len _ _) k hkt true
                rw [toldL_set] at hput
                simp only [boolE, Nat.mul_one] at hput
                have hto2 : Ow boolE 4 (w3.setCell ⟨w1.heap.size, k, none⟩ (.bool true)) (w.heap.size + 1) (.slice (some ⟨w1.heap.size, 0, none⟩) T T) (toldL T (orderL (esOf p) T n ++ [k])) := hput.1
                have ho2 : Ow natE 3 (w3.setCell ⟨w1.heap.size, k, none⟩ (.bool true)) (w.heap.size + 1) (.slice A n c) (orderL (esOf p) T n) := ho.grown hput.2 (ho.ne_ hto (by decide))
                have D2 : BoxAt w.heap.size p ve (w3.setCell ⟨w1.heap.size, k, none⟩ (.bool true)) := D.far hput.2 (by simp; omega)
                have hb2 : Below w.heap.size w (w3.setCell ⟨w1.heap.size, k, none⟩ (.bool true)) := hb.grown hput.2 hb.size (fun g' hg' => by simp at hg'; omega)
                have hsz2 : (w3.setCell ⟨w1.heap.size, k, none⟩ (.bool true)).heap.size = w3.heap.size := by simp [World.setCell]
                have Hsz2 := Lib.hid hsz2
                clear hput hsz2
                have ha : Hid (∀ w : World, Below w.heap.size w (w.alloc (.cells #[.int .i64 (k : Int)] 3))) := fun w => (Below.refl _ _).alloc (Nat.le_refl _) _
                have hDl := D.lt
                have Ho2 := Lib.hid ho2
                have Hto2 := Lib.hid hto2
                have HD2 := Lib.hid D2
                have Hb2 := Lib.hid hb2
                have Hwi := Lib.hid ho2.within
                clear ho2 hto2 D2 hb2
                go_wp2_with (at_builtin; refine wpList_push_all _ natE (by decide) rfl (.tmp 56) (.tmp 58) rfl Try.underlying27 hj0 jz0 jz1 jz2 rfl (l := orderL (esOf p) T n) rfl (Ho2.out.below (ha.out _)) rfl (Rd.one natE (w3.setCell ⟨w1.heap.size, k, none⟩ (.bool true)) _ k Hsz2.out.symm rfl 1 (Nat.le_refl _) (Nat.lt_succ_self _)) (by have := HL.out; omega) (by simp) (by decide) (by rw [World.size_alloc, Hsz2.out]; omega) ?_; intro v5 w5 o5 g5 hat5; obtain ⟨A5, c5, rfl, -⟩ := id (Rd.of_own o5))
                have D5 := (HD2.out.below (ha.out _)).far g5 (fun e => by have := Hwi.out _ e.symm; omega)
                have hb' := bnext Hb2.out (ha.out _)
                have W5 := hb'.grown g5 hb'.size (fun g hg => by have := Hwi.out _ hg; omega)
                have T5 := (Hto2.out.below (ha.out _)).grown g5 ((Hto2.out.below (ha.out _)).ne_ (Ho2.out.below (ha.out _)) (by decide))
                refine ⟨⟨n + 1, by omega, ?_, ?_, D5, W5⟩, ?_⟩
                · rw [S.out]
                  simpa using o5
                · rw [S.out]
                  exact T5
                · simp only [slen]
                  have := HL.out
                  first | omega | (simp; omega)
        · exfalso
          obtain ⟨t, _, ht, hm⟩ := pick_some he1.out hac'.out (exists_out (T := T) (o := orderL (esOf p) T n) (by rw [HL.out]; exact hlt))
          rw [hno.out t (by omega)] at hm
          cases hm
    · have hltI : ¬ (n : Int) < p.tasks := by rw [HT.out]; omega
      have hn' : n = T := by omega
      subst hn'
      go_wp2
      go_ret
      refine ⟨_, rfl, ?_, hb⟩
      rw [H.out]
      exact ho.more (by omega)
end Go.Proofs.Ytnaicippgocdfaa
end
section
namespace Go.Proofs.Ytnaicippgocdfaa
open Go.RowKit
set_option maxRecDepth 100000
set_option maxHeartbeats 2000000

def crossE (t : Int) (a b : Nat) : Edge := ⟨(a : Int), (b : Int) + t⟩
def crossRow (t : Int) (B : List Nat) (a : Nat) : List Edge := B.map (crossE t a)
def crossL (t : Int) (A B : List Nat) : List Edge := A.flatMap (crossRow t B)
noncomputable def moreL (p q : Plan) : List Edge := crossL p.tasks (sinksOf p) (sourcesOf q)
theorem crossL_len (t : Int) (A B : List Nat) : (crossL t A B).length = A.length * B.length := by
  induction A with
  | nil => simp [crossL]
  | cons a A ih =>
    unfold crossL at *
    rw [List.flatMap_cons, List.length_append, ih, List.length_cons, Nat.succ_mul]
    simp [crossRow]
    omega
theorem crossL_small (t : Int) {A B : List Nat} (hA : A.length ≤ 12) (hB : B.length ≤ 12) : (crossL t A B).length ≤ 144 := by
  rw [crossL_len]
  exact Nat.mul_le_mul hA hB
theorem moreL_len (p q : Plan) : (moreL p q).length ≤ 144 := crossL_small _ (sinksOf_len p) (sourcesOf_len q)
/-- what is laid so far: the rows of k tasks, and j of the next one's -/
def crossK (t : Int) (A B : List Nat) (k : Nat) : List Edge := crossL t (A.take k) B
theorem crossK_succ (t : Int) (A B : List Nat) {k : Nat} (h : k < A.length) : crossK t A B (k + 1) = crossK t A B k ++ crossRow t B A[k] := by
  unfold crossK crossL
  rw [take_snoc A k h, List.flatMap_append, List.flatMap_singleton]
theorem crossRow_succ (t : Int) (B : List Nat) (a : Nat) {j : Nat} (h : j < B.length) : crossRow t (B.take (j + 1)) a = crossRow t (B.take j) a ++ [crossE t a B[j]] := by
  unfold crossRow
  rw [take_snoc B j h, List.map_append]
  rfl
theorem crossK_len (t : Int) {A B : List Nat} (hA : A.length ≤ 12) (hB : B.length ≤ 12) (k : Nat) : (crossK t A B k).length ≤ 144 := by
  refine crossL_small t ?_ hB
  have := List.length_take_le' k A
  omega
theorem endsL_lt (f : Nat → List Nat) (k : Nat) : ∀ x ∈ endsL f k, x < k := fun x hx => by simp [endsL] at hx; exact hx.1
theorem sinksOf_pos {p : Plan} (h : 0 < (sinksOf p).length) : 1 ≤ p.tasks ∧ p.tasks ≤ 12 := by
  unfold sinksOf at h
  split at h
  · rename_i hf
    exact manyOk_tasks (planFault_zero.1 hf).1
  · simp at h
theorem sourcesOf_lt (p : Plan) : ∀ x ∈ sourcesOf p, x < 12 := by
  unfold sourcesOf
  split
  · rename_i hf
    have := manyOk_tasks (planFault_zero.1 hf).1
    intro x hx
    have := endsL_lt _ _ x hx
    omega
  · intro x hx; cases hx

theorem implJBehind_any (p : Plan) (ve : Value) (q : Plan) (vf : Value) (w : World) (hl : p.edges.length ≤ 2000000) (hl' : q.edges.length ≤ 2000000) (h : Rd edgeE w w.heap.size ve p.edges) (h' : Rd edgeE w w.heap.size vf q.edges) :
    Calls Try.prog 29 #[planV p ve, planV q vf] w (JoinPost (joined p q (moreL p q)) w) := by
  obtain ⟨W, hWe, D, E, Z, hW, hsz⟩ := threeBox_at p ve q vf w
  unfold twoBox planBox at hWe
  have HWe := Lib.hid hWe
  have Hsz := Lib.hid hsz
  clear hWe hsz
  have HM := Lib.hid (show moreL p q = crossL p.tasks (sinksOf p) (sourcesOf q) from rfl)
  have hA12 := sinksOf_len p
  have hB12 := sourcesOf_len q
  have hApos := Lib.hid (fun x => sinksOf_pos (p := p) x)
  have hBlt := Lib.hid (sourcesOf_lt q)
  obtain ⟨i0, hi0, hz0, hz1, hz2⟩ := info_parts edge_info
  unfold planV
  go_enter Try.func29, Try.ntmps29
  go_wp2_with fail
  rw [← HWe.out]
  refine (implSinks_any p ve _ hl ((h.below hW).more hW.size)).mono ?_
  rintro e w1 ⟨v1, rfl, o1, b1⟩
  have hZl := Z.lt
  have hW := bnext hW b1
  have D := D.below b1
  have E := E.below b1
  have Z := Z.below b1
  have hs1 := b1.size
  clear b1
  generalize sinksOf p = A at *
  generalize hBe : sourcesOf q = B at *
  have HBe := Lib.hid hBe
  clear hBe
  generalize moreL p q = M at *
  have D1 := Lib.hid D
  obtain ⟨A1, c1, rfl, -⟩ := id (Rd.of_own o1)
  have O0 := Ow.nil edgeE 52 w1 w1.heap.size
  go_wp2
  go_loopw [6, 14] (fun vl i wr => ∃ k : Nat, k ≤ A.length ∧ i = .int .i64 k ∧ Ow edgeE 52 wr w1.heap.size vl (crossK p.tasks A B k) ∧ Below w1.heap.size w1 wr) (fun _ i _ => A.length - (intOf i).toNat)
  case atStart => exact ⟨0, Nat.zero_le _, rfl, O0, Below.refl _ _⟩
  case round =>
    clear O0
    obtain ⟨k, hk, rfl, ho, hb2⟩ := hrel
    have o1 := o1.below hb2
    have D := D.below hb2
    have E := E.below hb2
    have Z := Z.below hb2
    have hW := bnext hW hb2
    have hs2 := hb2.size
    by_cases hlt : k < A.length
    · have hltI : (k : Int) < (A.length : Int) := by omega
      obtain ⟨pt1, pt2⟩ := hApos.out (by omega)
      have S0 := Lib.hid (crossK_succ p.tasks A B hlt)
      have hKl := crossK_len p.tasks hA12 hB12 k
      obtain ⟨g1, rfl, _, _⟩ := o1.some_ (by omega)
      have ca := o1.nat hlt
      generalize A[k] = a at *
      generalize hKK : crossK p.tasks A B k = K at *
      have HKK := Lib.hid hKK
      clear hKK
      obtain ⟨x0, x1, x2, x3, x4, xs⟩ := E.cells
      go_wp2_with fail
      clear x0 x1 x2 x3 x4 xs ca
      refine (implSources_any q vf _ hl' ((h'.below hW).more hW.size)).mono ?_
      rintro e w2 ⟨v2, rfl, o2, b2⟩
      rw [HBe.out] at o2
      have q2 := o2.within
      have hqq := ho.within
      have ho := ho.below b2
      have D := D.below b2
      have hb2 := bnext hb2 b2
      have hap : Hid (v2.ownBlock = none ∨ v2.ownBlock ≠ _) := q2.apart hqq (.inr (Nat.le_refl _))
      have o2 := o2.more hs2
      have hyz := D.lt
      clear b2 q2 hqq hW E Z o1
      obtain ⟨A2, c2, rfl, -⟩ := id (Rd.of_own o2)
      go_wp2
      go_loopw [6, 21] (fun vl i wr => ∃ j : Nat, j ≤ B.length ∧ i = .int .i64 j ∧ Ow edgeE 52 wr w1.heap.size vl (K ++ crossRow p.tasks (B.take j) a) ∧ Ow natE 3 wr w1.heap.size (.slice A2 B.length c2) B ∧ Hid ((Value.slice A2 B.length c2).ownBlock = none ∨ (Value.slice A2 B.length c2).ownBlock ≠ vl.ownBlock) ∧ Below w1.heap.size w1 wr) (fun _ i _ => B.length - (intOf i).toNat)
      case atStart => exact ⟨0, Nat.zero_le _, rfl, by simpa [crossRow] using ho, o2, hap, hb2⟩
      case round =>
        clear ho o2 hap hb2 D
        obtain ⟨j, hj, rfl, ho, o2, hap, hb2⟩ := hrel
        by_cases hjt : j < B.length
        · have hjI : (j : Int) < (B.length : Int) := by omega
          have D := D1.out.below hb2
          have hs3 := hb2.size
          have Sj := Lib.hid (crossRow_succ p.tasks B a hjt)
          have hbl := hBlt.out _ (List.getElem_mem hjt)
          obtain ⟨g2, rfl, hg2, hg2'⟩ := o2.some_ (by omega)
          have cb := o2.nat hjt
          generalize B[j] = b at *
          have hwr : IntKind.i64.wrap ((b : Int) + p.tasks) = (b : Int) + p.tasks := IntWalk.i64_in _ (by omega)
          have hRl : (K ++ crossRow p.tasks (B.take j) a).length ≤ 3000000 := by
            rw [List.length_append]
            unfold crossRow
            have := List.length_take_le' j B
            simp only [List.length_map]
            omega
          generalize hRR : K ++ crossRow p.tasks (B.take j) a = R at *
          have HRR := Lib.hid hRR
          clear hRR
          obtain ⟨x0, x1, x2, x3, x4, xs⟩ := D.cells
          have ha : Hid (∀ w : World, Below w.heap.size w (w.alloc (.cells #[.int .i64 (a : Int), .int .i64 ((b : Int) + p.tasks)] 52))) := fun w => (Below.refl _ _).alloc (Nat.le_refl _) _
          go_wp2_with (at_builtin; refine wpList_push_all _ edgeE (by decide) rfl (.tmp 25) (.tmp 32) rfl Try.underlying24 hi0 hz0 hz1 hz2 rfl (l := R) rfl (ho.below (ha.out _)) rfl (Rd.one edgeE _ _ (crossE p.tasks a b) rfl rfl 1 (Nat.le_refl _) (Nat.lt_succ_self _)) hRl (by simp) (by decide) (by simp; omega) ?_; intro v5 w5 o5 g5 f5)
          have hb' := bnext hb2 (ha.out _)
          have W5 := hb'.grown g5 hb'.size (fun g hg => by have := ho.within _ hg; omega)
          refine ⟨⟨j + 1, by omega, by go_num, by rw [Sj.out, ← List.append_assoc, HRR.out]; exact o5, (o2.below (ha.out _)).grown g5 hap.out, ?_, W5⟩, by simp [intOf]; omega⟩
          rcases f5 with f5 | f5
          · rw [f5]; exact hap.out
          · refine .inr ?_
            rw [f5]
            simp [Value.ownBlock]
            omega
        · have hjI : ¬ (j : Int) < (B.length : Int) := by omega
          have hj' : j = B.length := by omega
          have hb2F := hb2
          subst hj'
          rw [List.take_length] at ho
          go_wp2
          exact ⟨⟨k + 1, by omega, by go_num, by rw [S0.out]; exact ho, hb2F⟩, by simp [intOf]; omega⟩
    · have hltI : ¬ (k : Int) < (A.length : Int) := by omega
      have hk' : k = A.length := by omega
      have hWF := hW
      have hKl := crossK_len p.tasks hA12 hB12 A.length
      have HF := Lib.hid (show crossK p.tasks A B A.length = M by rw [HM.out]; unfold crossK; rw [List.take_length])
      subst hk'
      rw [HF.out] at ho hKl
      obtain ⟨x0, x1, x2, x3, x4, xs⟩ := E.cells
      obtain ⟨y0, y1, y2, y3, y4, ys⟩ := D.cells
      go_wp2_with fail
      clear x0 x1 x2 x3 x4 xs y0 y1 y2 y3 y4 ys
      refine (implJoined_any p ve q vf _ M _ hl hl' (by omega) ((h.below hWF).more hWF.size) ((h'.below hWF).more hWF.size) (Rd.of_own ho)).mono ?_
      rintro e w3 ⟨v3, rfl, o3, b3⟩
      obtain ⟨A3, c3, rfl, -⟩ := id (Rd.of_own o3)
      have hz := Z.lt
      have o3 := o3.more (base' := w.heap.size + 3) (by have := Hsz.out; omega)
      obtain ⟨z0, z1, z2, z3, z4, zs⟩ := (Z.below b3).cells
      have zf := (Z.below b3).free
      have hWF := bnext hWF b3
      go_wp2
      refine bodyPost_ret (v := .tuple #[planV (joined p q M).1 (.slice A3 (joined p q M).1.edges.length c3), .bool (joined p q M).2]) ?_ rfl ⟨.slice A3 (joined p q M).1.edges.length c3, rfl, ?_, ?_⟩
      · simp [planV, zeroPlan, results, Try.results29, go_sem, *]
      · refine Ow.more (base := w.heap.size + 3) ?_ (by omega)
        unfold Ow at o3 ⊢
        repeat (first | (with_reducible exact o3) | refine ownsRow_setCell_below ?_ (by simp <;> omega) _)
      · repeat (first | (with_reducible exact hWF) | refine Below.setCell ?_ (by simp <;> omega) _)
end Go.Proofs.Ytnaicippgocdfaa
end
section
namespace Go.Proofs.Ytnaicippgocdfaa
open Go.RowKit
set_option maxRecDepth 100000
set_option maxHeartbeats 3000000

theorem specEarliest_any (p : Plan) (ve v : Value) (l : List Int) (w : World) (hl : p.edges.length ≤ 2000000) (hl2 : l.length ≤ 2000000) (h : Rd edgeE w w.heap.size ve p.edges) (h2 : Rd intE w w.heap.size v l) :
    Calls Try.prog 39 #[planV p ve, v] w fun e w' => ∃ u, e = .returned u ∧ Ow intE 3 w' w.heap.size u (earliestOf p l) ∧ Below w.heap.size w w' := by
  obtain ⟨A, c, rfl, -⟩ := id h2
  have hb0 := planBox_below 26 p ve w
  have D0 := BoxAt.new 26 p ve w
  cases hf : weightsOk p l
  · have H := Lib.hid (show earliestOf p l = [] by simp [earliestOf, hf])
    have HF := Lib.hid hf
    clear hf
    unfold planV
    go_enter Try.func39, Try.ntmps39
    go_wp2_with fail
    refine (specWeightsOk_any p ve (.slice A l.length c) l _ hl hl2 ((h.below hb0).more hb0.size) ((h2.below hb0).more hb0.size)).mono ?_
    rintro e w1 ⟨rfl, hb1⟩
    rw [HF.out]
    have hb := bnext hb0 hb1
    go_wp2
    go_ret
    exact ⟨_, rfl, by rw [H.out]; exact (Ow.empty intE 3 w1 rfl).more hb.size, hb.alloc hb.size _⟩
  obtain ⟨g1, g2, g3⟩ := weightsOk_all hf
  have G := Lib.hid (planFault_zero.1 g1)
  have HF := Lib.hid hf
  have HP := Lib.hid g1
  have HW := Lib.hid g3
  obtain ⟨t1, t2⟩ := manyOk_tasks G.out.1
  obtain ⟨T, hT⟩ := Int.eq_ofNat_of_zero_le (show 0 ≤ p.tasks by omega)
  have HT := Lib.hid hT
  have HTn := Lib.hid (show p.tasks.toNat = T by omega)
  have hT12 : T ≤ 12 := by omega
  have HLl := Lib.hid (show l.length = T by omega)
  have H := Lib.hid (show earliestOf p l = earL (esOf p) T l (orderOf p) by unfold earliestOf; rw [if_pos hf, HTn.out])
  have hO := Lib.hid (orderOf_inv g1)
  obtain ⟨j0, hj0, jz0, jz1, jz2⟩ := info_parts int_info
  have hmk : ∀ w : World, (Instr.makeSlice 27 (.int .i64 p.tasks) (.int .i64 p.tasks)).run Try.prog w = .ok (.slice (some ⟨w.heap.size, 0, none⟩) T T) (w.alloc (.cells (madeCells #[.int .i64 0] (T * 1)) 3)) := by
    intro w
    have := run_make (P := Try.prog) w 27 3 j0 _ Try.underlying27 hj0 jz0 .i64 .i64 T T (by omega) (by omega) (by rw [jz2]; omega) (by omega)
    rw [jz1] at this
    rw [hT]
    simpa [Value.cells] using this
  clear hf g1 g2 g3 hT
  unfold planV
  go_enter Try.func39, Try.ntmps39
  go_wp2_with fail
  refine (specWeightsOk_any p ve (.slice A l.length c) l _ hl hl2 ((h.below hb0).more hb0.size) ((h2.below hb0).more hb0.size)).mono ?_
  rintro e w1 ⟨rfl, hb1⟩
  rw [HF.out]
  have D := D0.below hb1
  have hb := bnext hb0 hb1
  obtain ⟨x0, x1, x2, x3, x4, xs⟩ := D.cells
  go_wp2_with fail
  clear x0 x1 x2 x3 x4 hmk D0 hb0 hb1
  have O1 := Ow.made intE 3 w1 0 T (by decide) (by simp [maxLen]; omega) (z := #[.int .i64 0]) rfl (m := T) (by simp [intE])
  have ha := (Below.refl w1.heap.size w1).alloc (Nat.le_refl _) (.cells (madeCells #[.int .i64 0] T) 3)
  have hsz1 : (w1.alloc (.cells (madeCells #[.int .i64 0] T) 3)).heap.size = w1.heap.size + 1 := by simp
  have Hsz1 := Lib.hid hsz1
  have D := D.below ha
  have hb := bnext hb ha
  clear ha hsz1
  refine (specOrder_any p ve _ hl ((h.below hb).more hb.size)).mono ?_
  rintro e w2 ⟨v2, rfl, o2, hb2⟩
  have o2 := o2.more (base' := w1.heap.size + 1) (by rw [Hsz1.out]; omega)
  have O := O1.below hb2
  have D := D.below hb2
  have hb := bnext hb hb2
  have hX := xs
  clear O1 xs hb2
  have hlen : (orderOf p).length = T := by rw [hO.out.len, HTn.out]
  have hlt0 : Hid (∀ x ∈ orderOf p, x < T) := fun x hx => by have := hO.out.lt x hx; rw [HTn.out] at this; exact this
  generalize orderOf p = ord at *
  obtain ⟨A2, c2, rfl, -⟩ := id (Rd.of_own o2)
  rw [hlen] at o2 ⊢
  have HO2 := Lib.hid hlen
  clear hlen
  go_wp2
  go_loopw [7] (fun i wr => ∃ k : Nat, k ≤ T ∧ i = .int .i64 k ∧ Hid (Bd (earL (esOf p) T l (ord.take k)) (12 * k)) ∧ Ow intE 3 wr w1.heap.size (.slice (some ⟨w1.heap.size, 0, none⟩) T T) (earL (esOf p) T l (ord.take k)) ∧ Ow natE 3 wr (w1.heap.size + 1) (.slice A2 T c2) ord ∧ BoxAt w.heap.size p ve wr ∧ Below w.heap.size w wr) (fun i _ => T - (intOf i).toNat)
  case atStart => exact ⟨0, Nat.zero_le _, rfl, fun x hx => by have := List.eq_of_mem_replicate hx; subst this; omega, O, o2, D, hb⟩
  case round =>
    clear O o2 D hb
    obtain ⟨k, hk, rfl, hbd, ho, o2, D, hb⟩ := hrel
    by_cases hlt : k < T
    · have hltI : (k : Int) < (T : Int) := by omega
      have hko : k < ord.length := by rw [HO2.out]; exact hlt
      have S0 := Lib.hid (show earL (esOf p) T l (ord.take (k + 1)) = (beforeL (esOf p) T ord[k]).foldl (earStep l ord[k]) (earL (esOf p) T l (ord.take k)) from earTake_step hko)
      have hEl := earL_len (esOf p) T l (ord.take k)
      have htT : ord[k] < T := hlt0.out _ (List.getElem_mem hko)
      obtain ⟨g2, rfl, hg2, hg2'⟩ := o2.some_ (by omega)
      have ct := o2.nat hko
      generalize hE : earL (esOf p) T l (ord.take k) = E at *
      have HE := Lib.hid hE
      clear hE
      generalize hkt : ord[k] = t at *
      have Hkt := Lib.hid hkt
      clear hkt
      obtain ⟨x0, x1, x2, x3, x4, xs⟩ := D.cells
      have hblk := ho.blk.2
      go_wp2
      go_still_tail 5, (by kernel_rfl)
      clear x0 x1 x2 x3 x4 xs ct
      change wpList _ _ _ _ _ wr.drew
      have hdr0 : Below wr.heap.size wr wr.drew := (Below.refl _ _).drew
      have ho := ho.below hdr0
      have o2 := o2.below hdr0
      have D := D.below hdr0
      have hb := bnext hb hdr0
      have hblk := ho.blk.2
      clear hdr0
      generalize wr.drew = wr at *
      go_wp2_with fail
      refine (specBefore_any p ve t _ G.out.1 G.out.2.1 G.out.2.2.1 ((h.below hb).more hb.size)).mono ?_
      rintro e w3 ⟨v3, rfl, o3, b3⟩
      rw [HTn.out] at o3
      have o3 := o3.more (base' := w1.heap.size + 1) (by omega)
      have ho := ho.below b3
      have o2 := o2.below b3
      have D := D.below b3
      have hb := bnext hb b3
      have hbl := beforeL_len (esOf p) T t
      have hbm : Hid (∀ x ∈ beforeL (esOf p) T t, x < T) := fun x hx => by simp [beforeL] at hx; exact hx.1
      generalize beforeL (esOf p) T t = B at *
      obtain ⟨A3, c3, rfl, -⟩ := id (Rd.of_own o3)
      clear b3 hblk
      go_wp2
      go_loopw [9] (fun i wr => ∃ j : Nat, j ≤ B.length ∧ i = .int .i64 j ∧ Hid (Bd ((B.take j).foldl (earStep l t) E) (12 * k + j)) ∧ Ow intE 3 wr w1.heap.size (.slice (some ⟨w1.heap.size, 0, none⟩) T T) ((B.take j).foldl (earStep l t) E) ∧ Ow natE 3 wr (w1.heap.size + 1) (.slice (some ⟨g2, 0, none⟩) T c2) ord ∧ Ow natE 3 wr (w1.heap.size + 1) (.slice A3 B.length c3) B ∧ BoxAt w.heap.size p ve wr ∧ Below w.heap.size w wr) (fun i _ => B.length - (intOf i).toNat)
      case atStart => exact ⟨0, Nat.zero_le _, rfl, hbd, ho, o2, o3, D, hb⟩
      case round =>
        clear ho o2 o3 D hb
        obtain ⟨j, hj, rfl, hbj, ho, o2, o3, D, hb⟩ := hrel
        by_cases hjt : j < B.length
        · have hjI : (j : Int) < (B.length : Int) := by omega
          have S := Lib.hid (earTake_step (f := earStep l t) (o := E) hjt)
          have hOl := earFold_len l t (B.take j) E
          rw [hEl] at hOl
          generalize (B.take j).foldl (earStep l t) E = O at *
          have hbT : B[j] < T := hbm.out _ (List.getElem_mem hjt)
          obtain ⟨g3, rfl, hg3, hg3'⟩ := o3.some_ (by omega)
          have cb := o3.nat hjt
          generalize hjb : B[j] = b at *
          have Hjb := Lib.hid hjb
          clear hjb
          have htI : (t : Int) < (T : Int) := by omega
          have hbI : (b : Int) < (T : Int) := by omega
          have hlb : b < l.length := by rw [HLl.out]; exact hbT
          have hlbI : (b : Int) < (l.length : Int) := by omega
          have htO : t < O.length := by omega
          have hbO : b < O.length := by omega
          have cO := ho.int htO
          have cO2 := ho.int hbO
          have hf := ho.free
          obtain ⟨bw, ow, rfl, hbw, cw⟩ := (h2.below hb).int hlb
          have Hcw : Hid (∀ W', Below w.heap.size w W' → W'.cell? ⟨bw, ow + b, none⟩ = some (.int .i64 l[b])) := fun W' hW' => by
            obtain ⟨b', o', ee, _, d0⟩ := (h2.below hW').int hlb
            simp only [Option.some.injEq, Addr.mk.injEq] at ee
            obtain ⟨rfl, rfl, -⟩ := ee
            exact d0
          have hS := Lib.hid (earStep_eq (l := l) htO hbO hlb)
          have hw1 := hbj.out _ (List.getElem_mem htO)
          have hw2 := hbj.out _ (List.getElem_mem hbO)
          have hw3 := HW.out _ (List.getElem_mem hlb)
          have hbd2 := Lib.hid (hbj.out.step HW.out t b)
          have hput := Lib.hid (Ow.put ho hOl t htT (max O[t] (O[b] + l[b])))
          have hwr : IntKind.i64.wrap (O[b] + l[b]) = O[b] + l[b] := IntWalk.i64_in _ (by omega)
          clear hw1 hw2 hw3
          have ct := o2.nat hko
          rw [Hkt.out] at ct
          have hdr : ∀ w : World, Below w.heap.size w w.drew := fun w => (Below.refl _ _).drew
          have Hdr := Lib.hid hdr
          clear hdr
          by_cases hgt : O[t] < O[b] + l[b]
          · have hmax := Lib.hid (show max O[t] (O[b] + l[b]) = O[b] + l[b] by omega)
            go_wp2
            go_quiet (fail)
            clear ct cb cO cO2 cw hf
            have hdn : Below wr.heap.size wr (wr.drewN nq) := bdrewN (Below.refl _ _) _
            have ho := ho.below hdn
            have o2 := o2.below hdn
            have o3 := o3.below hdn
            have D := D.below hdn
            have hb := bnext hb hdn
            clear hput
            have hput := Lib.hid (Ow.put ho hOl t htT (O[b] + l[b]))
            have ct := o2.nat hko
            rw [Hkt.out] at ct
            have cb := o3.nat hjt
            rw [Hjb.out] at cb
            have cO := ho.int htO
            have cO2 := ho.int hbO
            have hf := ho.free
            have cw := Hcw.out _ hb
            clear hdn
            generalize wr.drewN nq = wr at *
            go_wp2
            go_still_tail 21, (by kernel_rfl)
            change wpList _ _ _ _ _ wr.drew
            go_wp2
            refine ⟨⟨j + 1, by omega, by go_num, by rw [S.out]; exact hbd2.out, ?_, (o2.setOther (by simp [Value.ownBlock]; omega) _).below (Hdr.out _), (o3.setOther (by simp [Value.ownBlock]; omega) _).below (Hdr.out _), (D.other (by simp; omega) _).below (Hdr.out _), (hb.setCell (by simp; omega) _).drew⟩, by simp [intOf]; omega⟩
            rw [S.out, hS.out, hmax.out]
            have := hput.out.1
            simp only [intE, Nat.mul_one] at this
            exact this.below (Hdr.out _)
          · have hmax := Lib.hid (show max O[t] (O[b] + l[b]) = O[t] by omega)
            have hdec : decide (O[t] < O[b] + l[b]) = false := by simpa using hgt
            go_wp2
            go_quiet (fail)
            go_wp2
            have hdn : Below wr.heap.size wr (wr.drewN nq) := bdrewN (Below.refl _ _) _
            refine ⟨⟨j + 1, by omega, by go_num, by rw [S.out]; exact hbd2.out, ?_, o2.below hdn, o3.below hdn, D.below hdn, bnext hb hdn⟩, by simp [intOf]; omega⟩
            rw [S.out, hS.out, hmax.out, List.set_getElem_self]
            exact ho.below hdn
        · have hjI : ¬ (j : Int) < (B.length : Int) := by omega
          have hj' : j = B.length := by omega
          subst hj'
          rw [List.take_length] at ho hbj
          go_wp2
          exact ⟨⟨k + 1, by omega, by go_num, by rw [S0.out]; exact hbj.out.more (by omega), by rw [S0.out]; exact ho, o2, D, hb⟩, by simp [intOf]; omega⟩
    · have hltI : ¬ (k : Int) < (T : Int) := by omega
      have hk' : k = T := by omega
      have hbF := hb
      subst hk'
      rw [List.take_of_length_le (by rw [HO2.out]; exact Nat.le_refl _)] at ho
      go_wp2
      go_ret
      exact ⟨_, rfl, by rw [H.out]; exact ho.more (by omega), hbF⟩

theorem earliestOf_len (p : Plan) (l : List Int) : (earliestOf p l).length ≤ 12 := by
  unfold earliestOf
  split
  · rename_i hf
    have := manyOk_tasks (planFault_zero.1 (weightsOk_all hf).1).1
    rw [earL_len]
    omega
  · simp
end Go.Proofs.Ytnaicippgocdfaa
end
section
namespace Go.Proofs.Ytnaicippgocdfaa
open Go.RowKit
set_option maxRecDepth 100000
set_option maxHeartbeats 2000000

def longUpto (e l : List Int) : Nat → Int
  | 0 => 0
  | k + 1 => max (longUpto e l k) (e.getD k 0 + l.getD k 0)
noncomputable def longestOf (p : Plan) (l : List Int) : Int := longUpto (earliestOf p l) l (earliestOf p l).length

theorem earFold_bd {l : List Int} (hl : ∀ x ∈ l, 1 ≤ x ∧ x ≤ 1000) (t : Nat) : ∀ (B : List Nat) (o : List Int) (c : Nat), Bd o c → Bd (B.foldl (earStep l t) o) (c + B.length)
  | [], _, _, h => h
  | b :: B, o, c, h => by
    have := earFold_bd hl t B _ _ (h.step hl t b)
    rw [List.foldl_cons, List.length_cons]
    exact this.more (by omega)
theorem earL_bd {es : List (Nat × Nat)} {T : Nat} {l : List Int} (hl : ∀ x ∈ l, 1 ≤ x ∧ x ≤ 1000) (ord : List Nat) : Bd (earL es T l ord) (T * ord.length) := by
  unfold earL
  suffices h : ∀ (ord : List Nat) (o : List Int) (c : Nat), Bd o c → Bd (ord.foldl (earTask es T l) o) (c + T * ord.length) by
    have := h ord (List.replicate T 0) 0 (fun x hx => by have := List.eq_of_mem_replicate hx; subst this; omega)
    simpa using this
  intro ord
  induction ord with
  | nil => intro o c h; simpa using h
  | cons t ord ih =>
    intro o c h
    rw [List.foldl_cons]
    refine (ih _ _ (earFold_bd hl t (beforeL es T t) o c h)).more ?_
    have := beforeL_len es T t
    rw [List.length_cons, Nat.mul_succ]
    omega
theorem earliestOf_bd (p : Plan) (l : List Int) : Bd (earliestOf p l) 144 := by
  unfold earliestOf
  split
  · rename_i hf
    obtain ⟨g1, g2, g3⟩ := weightsOk_all hf
    have h1 := manyOk_tasks (planFault_zero.1 g1).1
    have h2 := (orderOf_inv g1).len
    refine (earL_bd g3 _).more ?_
    rw [h2]
    exact Nat.le_trans (Nat.mul_le_mul (show p.tasks.toNat ≤ 12 by omega) (show p.tasks.toNat ≤ 12 by omega)) (by omega)
  · intro x hx; cases hx
theorem earliestOf_one {p : Plan} {l : List Int} (h : 0 < (earliestOf p l).length) : weightsOk p l = true ∧ (earliestOf p l).length = l.length := by
  cases hf : weightsOk p l
  · simp [earliestOf, hf] at h
  · obtain ⟨g1, g2, g3⟩ := weightsOk_all hf
    have h1 := manyOk_tasks (planFault_zero.1 g1).1
    refine ⟨rfl, ?_⟩
    unfold earliestOf
    rw [if_pos hf, earL_len]
    omega
theorem longUpto_bd {e l : List Int} (he : Bd e 144) (hl : ∀ x ∈ l, 1 ≤ x ∧ x ≤ 1000) : ∀ k, 0 ≤ longUpto e l k ∧ longUpto e l k ≤ 145000
  | 0 => by simp [longUpto]
  | k + 1 => by
    have := longUpto_bd he hl k
    have h1 := getD_bd he k
    have hw : 0 ≤ l.getD k 0 ∧ l.getD k 0 ≤ 1000 := by
      rw [List.getD_eq_getElem?_getD]
      cases hk : l[k]? with
      | none => simp
      | some y => have := hl y (List.mem_of_getElem? hk); simp; omega
    rw [longUpto]
    omega
theorem longUpto_succ {e l : List Int} {k : Nat} (h : k < e.length) (h' : k < l.length) : longUpto e l (k + 1) = max (longUpto e l k) (e[k] + l[k]) := by
  rw [longUpto]
  simp [List.getD_eq_getElem?_getD, h, h']

theorem implLongest_any (p : Plan) (ve v : Value) (l : List Int) (w : World) (hl : p.edges.length ≤ 2000000) (hl2 : l.length ≤ 2000000) (h : Rd edgeE w w.heap.size ve p.edges) (h2 : Rd intE w w.heap.size v l) :
    Calls Try.prog 31 #[planV p ve, v] w fun e w' => e = .returned (.int .i64 (longestOf p l)) ∧ Below w.heap.size w w' := by
  obtain ⟨A, c, rfl, -⟩ := id h2
  have hb0 := planBox_below 26 p ve w
  have hbd := Lib.hid (earliestOf_bd p l)
  have hone := Lib.hid (fun h => earliestOf_one (p := p) (l := l) h)
  have H := Lib.hid (show longestOf p l = longUpto (earliestOf p l) l (earliestOf p l).length from rfl)
  have hel := earliestOf_len p l
  unfold planV
  go_enter Try.func31, Try.ntmps31
  go_wp2_with fail
  refine (implEarliest_any p ve (.slice A l.length c) l _ hl hl2 ((h.below hb0).more hb0.size) ((h2.below hb0).more hb0.size)).mono ?_
  rintro e w1 ⟨u, rfl, o1, hb1⟩
  have hb := bnext hb0 hb1
  generalize earliestOf p l = E at *
  obtain ⟨A1, c1, rfl, -⟩ := id (Rd.of_own o1)
  clear hb0 hb1
  go_wp2
  go_loop [5, 12] (fun n i => ∃ k : Nat, k ≤ E.length ∧ i = .int .i64 k ∧ n = .int .i64 (longUpto E l k)) (fun _ i => E.length - (intOf i).toNat)
  case atStart => exact ⟨0, Nat.zero_le _, rfl, rfl⟩
  case round =>
    obtain ⟨k, hk, rfl, rfl⟩ := hrel
    by_cases hlt : k < E.length
    · have hltI : (k : Int) < (E.length : Int) := by omega
      obtain ⟨hok, hll⟩ := hone.out (by omega)
      obtain ⟨-, -, hw⟩ := weightsOk_all hok
      have Hll := Lib.hid hll
      have hkl : k < l.length := by omega
      have hklI : (k : Int) < (l.length : Int) := by omega
      have hs := Lib.hid (longUpto_succ (e := E) (l := l) hlt hkl)
      have hn := longUpto_bd hbd.out hw k
      have he := hbd.out _ (List.getElem_mem hlt)
      have hwk := hw _ (List.getElem_mem hkl)
      obtain ⟨g1, rfl, _, _⟩ := o1.some_ (by omega)
      have ce := o1.int hlt
      obtain ⟨bw, ow, rfl, hbw, cw⟩ := (h2.below hb).int hkl
      clear hw hll hok
      go_wp2
      exact ⟨⟨k + 1, by omega, by go_num, by rw [hs.out]⟩, by simp [intOf]; omega⟩
    · have hltI : ¬ (k : Int) < (E.length : Int) := by omega
      have hk' : k = E.length := by omega
      have hbF := hb
      subst hk'
      go_wp2
      go_ret
      exact ⟨ret_int (by rw [H.out]), hbF⟩
theorem specLongest_any (p : Plan) (ve v : Value) (l : List Int) (w : World) (hl : p.edges.length ≤ 2000000) (hl2 : l.length ≤ 2000000) (h : Rd edgeE w w.heap.size ve p.edges) (h2 : Rd intE w w.heap.size v l) :
    Calls Try.prog 13 #[planV p ve, v] w fun e w' => e = .returned (.int .i64 (longestOf p l)) ∧ Below w.heap.size w w' := by
  obtain ⟨A, c, rfl, -⟩ := id h2
  have hb0 := planBox_below 26 p ve w
  have hbd := Lib.hid (earliestOf_bd p l)
  have hone := Lib.hid (fun h => earliestOf_one (p := p) (l := l) h)
  have H := Lib.hid (show longestOf p l = longUpto (earliestOf p l) l (earliestOf p l).length from rfl)
  have hel := earliestOf_len p l
  unfold planV
  go_enter Try.func13, Try.ntmps13
  go_wp2_with fail
  refine (specEarliest_any p ve (.slice A l.length c) l _ hl hl2 ((h.below hb0).more hb0.size) ((h2.below hb0).more hb0.size)).mono ?_
  rintro e w1 ⟨u, rfl, o1, hb1⟩
  have hb := bnext hb0 hb1
  generalize earliestOf p l = E at *
  obtain ⟨A1, c1, rfl, -⟩ := id (Rd.of_own o1)
  have hb0s := hb0.size
  clear hb0 hb1
  go_wp2
  go_loopw [5, 7] (fun n i wr => ∃ k : Nat, k ≤ E.length ∧ i = .int .i64 k ∧ n = .int .i64 (longUpto E l k) ∧ Ow intE 3 wr w.heap.size (.slice A1 E.length c1) E ∧ Below w.heap.size w wr) (fun _ i _ => E.length - (intOf i).toNat)
  case atStart => exact ⟨0, Nat.zero_le _, rfl, rfl, o1.more hb0s, hb⟩
  case round =>
    clear o1 hb
    obtain ⟨k, hk, rfl, rfl, o1, hb⟩ := hrel
    by_cases hlt : k < E.length
    · have hltI : (k : Int) < (E.length : Int) := by omega
      obtain ⟨hok, hll⟩ := hone.out (by omega)
      obtain ⟨-, -, hw⟩ := weightsOk_all hok
      have Hll := Lib.hid hll
      have hkl : k < l.length := by omega
      have hklI : (k : Int) < (l.length : Int) := by omega
      have hs := Lib.hid (longUpto_succ (e := E) (l := l) hlt hkl)
      have hn := longUpto_bd hbd.out hw k
      have he := hbd.out _ (List.getElem_mem hlt)
      have hwk := hw _ (List.getElem_mem hkl)
      obtain ⟨g1, rfl, _, _⟩ := o1.some_ (by omega)
      have ce := o1.int hlt
      obtain ⟨bw, ow, rfl, hbw, cw⟩ := (h2.below hb).int hkl
      have Hcw : Hid (∀ W', Below w.heap.size w W' → W'.cell? ⟨bw, ow + k, none⟩ = some (.int .i64 l[k])) := fun W' hW' => by
        obtain ⟨b', o', ee, _, d0⟩ := (h2.below hW').int hkl
        simp only [Option.some.injEq, Addr.mk.injEq] at ee
        obtain ⟨rfl, rfl, -⟩ := ee
        exact d0
      have hwr : IntKind.i64.wrap (E[k] + l[k]) = E[k] + l[k] := IntWalk.i64_in _ (by omega)
      have hdr : Hid (∀ n, Below wr.heap.size wr (wr.drewN n)) := fun n => bdrewN (Below.refl _ _) n
      clear hw hll hok hn he hwk
      by_cases hgt : longUpto E l k < E[k] + l[k]
      · have hmax := Lib.hid (show max (longUpto E l k) (E[k] + l[k]) = E[k] + l[k] by omega)
        go_wp2
        go_quiet (fail)
        clear ce cw
        have o1 := o1.below (hdr.out nq)
        have hb := bnext hb (hdr.out nq)
        have ce := o1.int hlt
        have cw := Hcw.out _ hb
        generalize wr.drewN nq = w5 at *
        go_wp2
        go_quiet (fail)
        go_wp2
        exact ⟨⟨k + 1, by omega, by go_num, by rw [hs.out, hmax.out], o1.below (bdrewN (Below.refl _ _) _), bdrewN hb _⟩, by simp [intOf]; omega⟩
      · have hmax := Lib.hid (show max (longUpto E l k) (E[k] + l[k]) = longUpto E l k by omega)
        have hdec : decide (longUpto E l k < E[k] + l[k]) = false := by simpa using hgt
        go_wp2
        go_quiet (fail)
        go_wp2
        exact ⟨⟨k + 1, by omega, by go_num, by rw [hs.out, hmax.out], o1.below (hdr.out nq), bdrewN hb _⟩, by simp [intOf]; omega⟩
    · have hltI : ¬ (k : Int) < (E.length : Int) := by omega
      have hk' : k = E.length := by omega
      have hbF := hb
      subst hk'
      go_wp2
      go_ret
      exact ⟨ret_int (by rw [H.out]), hbF⟩
end Go.Proofs.Ytnaicippgocdfaa
end
section
namespace Go.Proofs.Ytnaicippgocdfaa
open Go.RowKit
set_option maxRecDepth 100000
set_option maxHeartbeats 3000000

def latEnd (L : Int) (o : List Int) (B : List Nat) : Int := B.foldl (fun e b => min e (o.getD b 0)) L
def latTask (es : List (Nat × Nat)) (T : Nat) (L : Int) (l : List Int) (t : Nat) (o : List Int) : List Int := o.set t (latEnd L o (behindL es T t) - l.getD t 0)
def latL (es : List (Nat × Nat)) (T : Nat) (L : Int) (l : List Int) (ord : List Nat) : List Int := ord.foldr (latTask es T L l) (List.replicate T 0)
noncomputable def latestOf (p : Plan) (l : List Int) : List Int := if weightsOk p l = true then latL (esOf p) p.tasks.toNat (longestOf p l) l (orderOf p) else []
def Ld (o : List Int) (c : Nat) : Prop := ∀ x ∈ o, -(1000 * (c : Int)) ≤ x ∧ x ≤ 145000
theorem latL_len (es : List (Nat × Nat)) (T : Nat) (L : Int) (l : List Int) : ∀ ord : List Nat, (latL es T L l ord).length = T
  | [] => by simp [latL]
  | t :: ord => by
    have := latL_len es T L l ord
    unfold latL at *
    rw [List.foldr_cons, latTask, List.length_set, this]
theorem latL_cons (es : List (Nat × Nat)) (T : Nat) (L : Int) (l : List Int) (ord : List Nat) {n : Nat} (h : n < ord.length) : latL es T L l (ord.drop n) = (latL es T L l (ord.drop (n + 1))).set ord[n] (latEnd L (latL es T L l (ord.drop (n + 1))) (behindL es T ord[n]) - l.getD ord[n] 0) := by
  rw [List.drop_eq_getElem_cons h]
  rfl
theorem getD_ld {o : List Int} {c : Nat} (h : Ld o c) (k : Nat) : -(1000 * (c : Int)) ≤ o.getD k 0 ∧ o.getD k 0 ≤ 145000 := by
  rw [List.getD_eq_getElem?_getD]
  cases hk : o[k]? with
  | none => simp; omega
  | some x => exact h x (List.mem_of_getElem? hk)
theorem latEnd_bd {L : Int} (hL : 0 ≤ L ∧ L ≤ 145000) {o : List Int} {c : Nat} (h : Ld o c) : ∀ (B : List Nat) (L' : Int), -(1000 * (c : Int)) ≤ L' ∧ L' ≤ 145000 → -(1000 * (c : Int)) ≤ latEnd L' o B ∧ latEnd L' o B ≤ 145000
  | [], L', h' => h'
  | b :: B, L', h' => by
    have := getD_ld h b
    have h2 := latEnd_bd hL h B (min L' (o.getD b 0)) (by omega)
    simpa [latEnd] using h2
theorem Ld.step {L : Int} (hL : 0 ≤ L ∧ L ≤ 145000) {o : List Int} {c : Nat} (h : Ld o c) {l : List Int} (hl : ∀ x ∈ l, 1 ≤ x ∧ x ≤ 1000) (B : List Nat) (t : Nat) : Ld (o.set t (latEnd L o B - l.getD t 0)) (c + 1) := by
  intro x hx
  have hw : 0 ≤ l.getD t 0 ∧ l.getD t 0 ≤ 1000 := by
    rw [List.getD_eq_getElem?_getD]
    cases hk : l[t]? with
    | none => simp
    | some y => have := hl y (List.mem_of_getElem? hk); simp; omega
  rcases List.mem_or_eq_of_mem_set hx with hx | rfl
  · have := h x hx; omega
  · have h1 := latEnd_bd hL h B L (by omega)
    omega
theorem latEnd_step {L : Int} {o : List Int} {B : List Nat} {j : Nat} (hj : j < B.length) (hb : B[j] < o.length) : latEnd L o (B.take (j + 1)) = min (latEnd L o (B.take j)) o[B[j]] := by
  unfold latEnd
  rw [earTake_step hj]
  simp [List.getD_eq_getElem?_getD, hb]
theorem latestOf_len (p : Plan) (l : List Int) : (latestOf p l).length ≤ 12 := by
  unfold latestOf
  split
  · rename_i hf
    have := manyOk_tasks (planFault_zero.1 (weightsOk_all hf).1).1
    rw [latL_len]
    omega
  · simp
theorem latL_ld {es : List (Nat × Nat)} {T : Nat} {L : Int} (hL : 0 ≤ L ∧ L ≤ 145000) {l : List Int} (hl : ∀ x ∈ l, 1 ≤ x ∧ x ≤ 1000) : ∀ ord : List Nat, Ld (latL es T L l ord) ord.length
  | [] => fun x hx => by have := List.eq_of_mem_replicate hx; subst this; simp
  | t :: ord => Ld.step hL (latL_ld hL hl ord) hl _ _
theorem latestOf_bd (p : Plan) (l : List Int) : Ld (latestOf p l) 12 := by
  unfold latestOf
  split
  · rename_i hf
    obtain ⟨g1, g2, g3⟩ := weightsOk_all hf
    have h1 := manyOk_tasks (planFault_zero.1 g1).1
    have h2 := (orderOf_inv g1).len
    have h3 := latL_ld (es := esOf p) (T := p.tasks.toNat) (longUpto_bd (earliestOf_bd p l) g3 (earliestOf p l).length) g3 (orderOf p)
    intro x hx
    have := h3 x hx
    omega
  · intro x hx; cases hx

theorem implLatest_any (p : Plan) (ve v : Value) (l : List Int) (w : World) (hl : p.edges.length ≤ 2000000) (hl2 : l.length ≤ 2000000) (h : Rd edgeE w w.heap.size ve p.edges) (h2 : Rd intE w w.heap.size v l) :
    Calls Try.prog 36 #[planV p ve, v] w fun e w' => ∃ u, e = .returned u ∧ Ow intE 3 w' w.heap.size u (latestOf p l) ∧ Below w.heap.size w w' := by
  obtain ⟨A, c, rfl, -⟩ := id h2
  have hb0 := planBox_below 26 p ve w
  have D0 := BoxAt.new 26 p ve w
  cases hf : weightsOk p l
  · have H := Lib.hid (show latestOf p l = [] by simp [latestOf, hf])
    have HF := Lib.hid hf
    clear hf
    unfold planV
    go_enter Try.func36, Try.ntmps36
    go_wp2_with fail
    refine (implWeightsOk_any p ve (.slice A l.length c) l _ hl hl2 ((h.below hb0).more hb0.size) ((h2.below hb0).more hb0.size)).mono ?_
    rintro e w1 ⟨rfl, hb1⟩
    rw [HF.out]
    have hb := bnext hb0 hb1
    go_wp2
    go_ret
    exact ⟨_, rfl, by rw [H.out]; exact Ow.nil _ _ _ _, hb⟩
  obtain ⟨g1, g2, g3⟩ := weightsOk_all hf
  have G := Lib.hid (planFault_zero.1 g1)
  have HF := Lib.hid hf
  have HP := Lib.hid g1
  have HW := Lib.hid g3
  obtain ⟨t1, t2⟩ := manyOk_tasks G.out.1
  obtain ⟨T, hT⟩ := Int.eq_ofNat_of_zero_le (show 0 ≤ p.tasks by omega)
  have HT := Lib.hid hT
  have HTn := Lib.hid (show p.tasks.toNat = T by omega)
  have hT12 : T ≤ 12 := by omega
  have HLl := Lib.hid (show l.length = T by omega)
  have H := Lib.hid (show latestOf p l = latL (esOf p) T (longestOf p l) l (orderOf p) by unfold latestOf; rw [if_pos hf, HTn.out])
  have hLg : Hid (0 ≤ longestOf p l ∧ longestOf p l ≤ 145000) := Lib.hid (longUpto_bd (earliestOf_bd p l) g3 _)
  have hO := Lib.hid (orderOf_inv g1)
  obtain ⟨j0, hj0, jz0, jz1, jz2⟩ := info_parts int_info
  have hmk : ∀ w : World, (Instr.makeSlice 27 (.int .i64 p.tasks) (.int .i64 p.tasks)).run Try.prog w = .ok (.slice (some ⟨w.heap.size, 0, none⟩) T T) (w.alloc (.cells (madeCells #[.int .i64 0] (T * 1)) 3)) := by
    intro w
    have := run_make (P := Try.prog) w 27 3 j0 _ Try.underlying27 hj0 jz0 .i64 .i64 T T (by omega) (by omega) (by rw [jz2]; omega) (by omega)
    rw [jz1] at this
    rw [hT]
    simpa [Value.cells] using this
  clear hf g1 g2 g3 hT
  unfold planV
  go_enter Try.func36, Try.ntmps36
  go_wp2_with fail
  refine (implWeightsOk_any p ve (.slice A l.length c) l _ hl hl2 ((h.below hb0).more hb0.size) ((h2.below hb0).more hb0.size)).mono ?_
  rintro e w1 ⟨rfl, hb1⟩
  rw [HF.out]
  have D := D0.below hb1
  have hb := bnext hb0 hb1
  obtain ⟨x0, x1, x2, x3, x4, xs⟩ := D.cells
  go_wp2_with fail
  clear x0 x1 x2 x3 x4 hmk D0 hb0 hb1
  have O1 := Ow.made intE 3 w1 0 T (by decide) (by simp [maxLen]; omega) (z := #[.int .i64 0]) rfl (m := T) (by simp [intE])
  have ha := (Below.refl w1.heap.size w1).alloc (Nat.le_refl _) (.cells (madeCells #[.int .i64 0] T) 3)
  have hsz1 : (w1.alloc (.cells (madeCells #[.int .i64 0] T) 3)).heap.size = w1.heap.size + 1 := by simp
  have Hsz1 := Lib.hid hsz1
  have D := D.below ha
  have hb := bnext hb ha
  clear ha hsz1
  refine (implOrder_any p ve _ hl ((h.below hb).more hb.size)).mono ?_
  rintro e w2 ⟨v2, rfl, o2, hb2⟩
  have o2 := o2.more (base' := w1.heap.size + 1) (by rw [Hsz1.out]; omega)
  have O := O1.below hb2
  have D := D.below hb2
  have hb := bnext hb hb2
  have hX := xs
  clear O1 xs hb2
  have hlen : (orderOf p).length = T := by rw [hO.out.len, HTn.out]
  have hlt0 : Hid (∀ x ∈ orderOf p, x < T) := fun x hx => by have := hO.out.lt x hx; rw [HTn.out] at this; exact this
  generalize orderOf p = ord at *
  generalize hLL : longestOf p l = L at *
  have HLL := Lib.hid hLL
  clear hLL
  obtain ⟨A2, c2, rfl, -⟩ := id (Rd.of_own o2)
  rw [hlen] at o2 ⊢
  have HO2 := Lib.hid hlen
  clear hlen
  have hsT : IntKind.i64.wrap ((T : Int) - 1) = (T : Int) - 1 := IntWalk.i64_in _ (by omega)
  go_wp2
  go_loopw [7] (fun i wr => ∃ n : Nat, n ≤ T ∧ i = .int .i64 ((n : Int) - 1) ∧ Hid (Ld (latL (esOf p) T L l (ord.drop n)) (T - n)) ∧ Ow intE 3 wr w1.heap.size (.slice (some ⟨w1.heap.size, 0, none⟩) T T) (latL (esOf p) T L l (ord.drop n)) ∧ Ow natE 3 wr (w1.heap.size + 1) (.slice A2 T c2) ord ∧ BoxAt w.heap.size p ve wr ∧ Below w.heap.size w wr) (fun i _ => (intOf i + 1).toNat)
  case atStart => exact ⟨T, Nat.le_refl _, rfl, by rw [List.drop_of_length_le (by rw [HO2.out]; exact Nat.le_refl _)]; exact fun x hx => by have := List.eq_of_mem_replicate hx; subst this; omega, by rw [List.drop_of_length_le (by rw [HO2.out]; exact Nat.le_refl _)]; exact O, o2, D, hb⟩
  case round =>
    clear O o2 D hb hsT
    obtain ⟨n, hn, rfl, hbd, ho, o2, D, hb⟩ := hrel
    cases n with
    | zero =>
      have hltI : ¬ ((0 : Nat) : Int) - 1 ≥ 0 := by omega
      have hbF := hb
      rw [List.drop_zero] at ho
      go_wp2
      go_ret
      exact ⟨_, rfl, by rw [H.out]; exact ho.more (by omega), hbF⟩
    | succ n =>
      have he1 : ((n + 1 : Nat) : Int) - 1 = (n : Int) := by omega
      rw [he1]
      clear he1
      have hnT : n < T := by omega
      have hge : (n : Int) ≥ 0 := by omega
      have hnI : (n : Int) < (T : Int) := by omega
      have hko : n < ord.length := by rw [HO2.out]; exact hnT
      have S0 := Lib.hid (latL_cons (esOf p) T L l ord hko)
      have hEl := latL_len (esOf p) T L l (ord.drop (n + 1))
      have htT : ord[n] < T := hlt0.out _ (List.getElem_mem hko)
      obtain ⟨g2, rfl, hg2, hg2'⟩ := o2.some_ (by omega)
      have ct := o2.nat hko
      generalize hE : latL (esOf p) T L l (ord.drop (n + 1)) = E at *
      have HE := Lib.hid hE
      clear hE
      generalize hkt : ord[n] = t at *
      have Hkt := Lib.hid hkt
      clear hkt
      obtain ⟨x0, x1, x2, x3, x4, xs⟩ := D.cells
      have hblk := ho.blk.2
      go_wp2_with fail
      clear x0 x1 x2 x3 x4 xs ct hblk
      refine (implLongest_any p ve (.slice A l.length c) l _ hl hl2 ((h.below hb).more hb.size) ((h2.below hb).more hb.size)).mono ?_
      rintro e w3 ⟨rfl, b3⟩
      rw [HLL.out]
      have ho := ho.below b3
      have o2 := o2.below b3
      have D := D.below b3
      have hb := bnext hb b3
      clear b3
      have hblk := ho.blk.2
      obtain ⟨x0, x1, x2, x3, x4, xs⟩ := D.cells
      go_wp2_with fail
      clear x0 x1 x2 x3 x4 xs
      refine (implBehind_any p ve t _ HP.out ((h.below hb).more hb.size)).mono ?_
      rintro e w4 ⟨v3, rfl, o3, b3⟩
      rw [HTn.out] at o3
      have o3 := o3.more (base' := w1.heap.size + 1) (by omega)
      have ho := ho.below b3
      have o2 := o2.below b3
      have D := D.below b3
      have hb := bnext hb b3
      have hbl := behindL_len (esOf p) T t
      have hbm : Hid (∀ x ∈ behindL (esOf p) T t, x < T) := fun x hx => by simp [behindL] at hx; exact hx.1
      have hst := Lib.hid (hbd.out.step hLg.out HW.out (behindL (esOf p) T t) t)
      generalize behindL (esOf p) T t = B at *
      obtain ⟨A3, c3, rfl, -⟩ := id (Rd.of_own o3)
      clear b3 hblk
      go_wp2
      go_loop [9, 39] (fun e i => ∃ j : Nat, j ≤ B.length ∧ i = .int .i64 j ∧ e = .int .i64 (latEnd L E (B.take j))) (fun _ i => B.length - (intOf i).toNat)
      case atStart => exact ⟨0, Nat.zero_le _, rfl, rfl⟩
      case round =>
        obtain ⟨j, hj, rfl, rfl⟩ := hrel
        by_cases hjt : j < B.length
        · have hjI : (j : Int) < (B.length : Int) := by omega
          have hbT : B[j] < T := hbm.out _ (List.getElem_mem hjt)
          have hbE : B[j] < E.length := by omega
          have Sj := Lib.hid (latEnd_step (L := L) (o := E) hjt hbE)
          generalize latEnd L E (B.take j) = m at *
          obtain ⟨g3, rfl, hg3, hg3'⟩ := o3.some_ (by omega)
          have cb := o3.nat hjt
          have cO := ho.int hbE
          generalize hbj : B[j] = b at *
          have hbI : (b : Int) < (T : Int) := by omega
          go_wp2
          exact ⟨⟨j + 1, by omega, by go_num, by rw [Sj.out]⟩, by simp [intOf]; omega⟩
        · have hjI : ¬ (j : Int) < (B.length : Int) := by omega
          have hj' : j = B.length := by omega
          subst hj'
          rw [List.take_length]
          have hen := latEnd_bd hLg.out hbd.out B L (by have := hLg.out; omega)
          have htl : t < l.length := by rw [HLl.out]; exact htT
          have htlI : (t : Int) < (l.length : Int) := by omega
          have htI : (t : Int) < (T : Int) := by omega
          have htO : t < E.length := by omega
          obtain ⟨bw, ow, rfl, hbw, cw⟩ := (h2.below hb).int htl
          have hwt := HW.out _ (List.getElem_mem htl)
          have hS2 := Lib.hid (show l.getD t 0 = l[t] by simp [List.getD_eq_getElem?_getD, htl])
          have hput := Lib.hid (Ow.put ho hEl t htT (latEnd L E B - l[t]))
          generalize latEnd L E B = m at *
          have hs : IntKind.i64.wrap (m - l[t]) = m - l[t] := IntWalk.i64_in _ (by omega)
          have cO := ho.int htO
          have hf := ho.free
          clear hwt hen
          go_wp2
          refine ⟨⟨n, by omega, rfl, by rw [S0.out, hS2.out] at *; exact fun x hx => by have := hst.out x hx; omega, ?_, o2.setOther (by simp [Value.ownBlock]; omega) _, D.other (by simp; omega) _, hb.setCell (by simp; omega) _⟩, by simp [intOf]⟩
          rw [S0.out, hS2.out]
          have := hput.out.1
          simp only [intE, Nat.mul_one] at this
          exact this
end Go.Proofs.Ytnaicippgocdfaa
end
section
namespace Go.Proofs.Ytnaicippgocdfaa
open Go.RowKit
set_option maxRecDepth 100000
set_option maxHeartbeats 2000000

noncomputable def leastEnd (p : Plan) (l : List Int) (many : Int) : Int := if weightsOk p l = true ∧ inB many 1 8 = true then max (longestOf p l) ((workOf p l + many - 1) / many) else 0
theorem leastEnd_no {p : Plan} {l : List Int} {many : Int} (h : ¬ (weightsOk p l = true ∧ inB many 1 8 = true)) : leastEnd p l many = 0 := by unfold leastEnd; rw [if_neg h]
theorem leastEnd_yes {p : Plan} {l : List Int} {many : Int} (h : weightsOk p l = true ∧ inB many 1 8 = true) : leastEnd p l many = max (longestOf p l) ((workOf p l + many - 1) / many) := by unfold leastEnd; rw [if_pos h]
theorem longestOf_bd {p : Plan} {l : List Int} (h : weightsOk p l = true) : 0 ≤ longestOf p l ∧ longestOf p l ≤ 145000 := longUpto_bd (earliestOf_bd p l) (weightsOk_all h).2.2 _
theorem workOf_bd {p : Plan} {l : List Int} (h : weightsOk p l = true) : 0 ≤ workOf p l ∧ workOf p l ≤ 12000 := by
  have h1 := sum_bound (weightsOk_all h).2.2
  have h2 := weightsOk_len h
  simp only [workOf, if_pos h]
  omega

theorem implLeast_any (p : Plan) (ve v : Value) (l : List Int) (many : Int) (w : World) (hl : p.edges.length ≤ 2000000) (hl2 : l.length ≤ 2000000) (h : Rd edgeE w w.heap.size ve p.edges) (h2 : Rd intE w w.heap.size v l) :
    Calls Try.prog 14 #[planV p ve, v, .int .i64 many] w fun e w' => e = .returned (.int .i64 (leastEnd p l many)) ∧ Below w.heap.size w w' := by
  have hb0 := planBox_below 26 p ve w
  have D0 := BoxAt.new 26 p ve w
  cases hf : weightsOk p l
  · have H := Lib.hid (leastEnd_no (p := p) (l := l) (many := many) (fun x => by rw [hf] at x; cases x.1))
    have HF := Lib.hid hf
    clear hf
    unfold planV
    go_enter Try.func14, Try.ntmps14
    go_wp2_with fail
    refine (implWeightsOk_any p ve v l _ hl hl2 ((h.below hb0).more hb0.size) ((h2.below hb0).more hb0.size)).mono ?_
    rintro e w1 ⟨rfl, hb1⟩
    rw [HF.out]
    go_wp2
    go_ret
    exact ⟨ret_int H.out.symm, bnext hb0 hb1⟩
  cases hm : inB many 1 8
  · have H := Lib.hid (leastEnd_no (p := p) (l := l) (many := many) (fun x => by rw [hm] at x; cases x.2))
    have HF := Lib.hid hf
    clear hf
    unfold planV
    go_enter Try.func14, Try.ntmps14
    go_wp2_with fail
    refine (implWeightsOk_any p ve v l _ hl hl2 ((h.below hb0).more hb0.size) ((h2.below hb0).more hb0.size)).mono ?_
    rintro e w1 ⟨rfl, hb1⟩
    rw [HF.out]
    have hb := bnext hb0 hb1
    go_wp2_with (go_at_call 49; refine (within_any _ _ _ _).mono ?_; rintro e w' ⟨rfl, rfl⟩)
    go_ret
    exact ⟨ret_int H.out.symm, hb⟩
  have H := Lib.hid (leastEnd_yes ⟨hf, hm⟩)
  have HF := Lib.hid hf
  obtain ⟨m1, m2⟩ := inB_iff.1 hm
  obtain ⟨l1, l2⟩ := longestOf_bd hf
  obtain ⟨k1, k2⟩ := workOf_bd hf
  clear hf
  unfold planV
  go_enter Try.func14, Try.ntmps14
  go_wp2_with fail
  refine (implWeightsOk_any p ve v l _ hl hl2 ((h.below hb0).more hb0.size) ((h2.below hb0).more hb0.size)).mono ?_
  rintro e w1 ⟨rfl, hb1⟩
  rw [HF.out]
  have hb := bnext hb0 hb1
  have D := D0.below hb1
  clear hb0 hb1 D0
  obtain ⟨x0, x1, x2, x3, x4, xs⟩ := D.cells
  generalize hL : longestOf p l = L at *
  have HL := Lib.hid hL
  generalize hK : workOf p l = K at *
  have HK := Lib.hid hK
  clear hL hK
  have hs1 : IntKind.i64.wrap (K + many) = K + many := IntWalk.i64_in _ (by omega)
  have hs2 : IntKind.i64.wrap (K + many - 1) = K + many - 1 := IntWalk.i64_in _ (by omega)
  have hq : 0 ≤ (K + many - 1) / many ∧ (K + many - 1) / many ≤ 20000 := by
    refine ⟨Int.ediv_nonneg (by omega) (by omega), ?_⟩
    have := Int.ediv_le_self many (a := K + many - 1) (by omega)
    omega
  obtain ⟨q1, q2⟩ := hq
  go_wp2_with (go_at_call 49; refine (within_any _ _ _ _).mono ?_; rintro e w' ⟨rfl, rfl⟩)
  have hlc := later_cell w1
  refine wp_region_pure (by kernel_rfl) (by kernel_rfl) ?_
  repeat (go_big_quiet_step ((first
    | (go_at_call 31; rename_i x; have h1 := implLongest_any p ve v l x.1 hl hl2 ((h.below (bnext hb x.2)).more (bnext hb x.2).size) ((h2.below (bnext hb x.2)).more (bnext hb x.2).size); rw [HL.out] at h1; unfold planV at h1; with_reducible exact pure_of h1)
    | (go_at_call 44; rename_i x; have h1 := implWorkOf_any p ve v l x.1 hl hl2 ((h.below (bnext hb x.2)).more (bnext hb x.2).size) ((h2.below (bnext hb x.2)).more (bnext hb x.2).size); rw [HK.out] at h1; unfold planV at h1; with_reducible exact pure_of h1))))
  refine wpQuiet_nil ?_
  rintro _ ⟨⟨w3, hb3⟩, rfl⟩
  clear hlc
  go_wp2
  go_ret
  exact ⟨ret_int H.out.symm, bnext hb hb3⟩
theorem specLeast_any (p : Plan) (ve v : Value) (l : List Int) (many : Int) (w : World) (hl : p.edges.length ≤ 2000000) (hl2 : l.length ≤ 2000000) (h : Rd edgeE w w.heap.size ve p.edges) (h2 : Rd intE w w.heap.size v l) :
    Calls Try.prog 16 #[planV p ve, v, .int .i64 many] w fun e w' => e = .returned (.int .i64 (leastEnd p l many)) ∧ Below w.heap.size w w' := by
  have hb0 := planBox_below 26 p ve w
  have D0 := BoxAt.new 26 p ve w
  cases hf : weightsOk p l
  · have H := Lib.hid (leastEnd_no (p := p) (l := l) (many := many) (fun x => by rw [hf] at x; cases x.1))
    have HF := Lib.hid hf
    clear hf
    unfold planV
    go_enter Try.func16, Try.ntmps16
    go_wp2_with fail
    refine (specWeightsOk_any p ve v l _ hl hl2 ((h.below hb0).more hb0.size) ((h2.below hb0).more hb0.size)).mono ?_
    rintro e w1 ⟨rfl, hb1⟩
    rw [HF.out]
    go_wp2
    go_ret
    exact ⟨ret_int H.out.symm, bnext hb0 hb1⟩
  cases hm : inB many 1 8
  · have H := Lib.hid (leastEnd_no (p := p) (l := l) (many := many) (fun x => by rw [hm] at x; cases x.2))
    have HF := Lib.hid hf
    clear hf
    unfold planV
    go_enter Try.func16, Try.ntmps16
    go_wp2_with fail
    refine (specWeightsOk_any p ve v l _ hl hl2 ((h.below hb0).more hb0.size) ((h2.below hb0).more hb0.size)).mono ?_
    rintro e w1 ⟨rfl, hb1⟩
    rw [HF.out]
    have hb := bnext hb0 hb1
    go_wp2_with (go_at_call 52; refine (l01In_any _ _ _ _).mono ?_; rintro e w' ⟨rfl, rfl⟩)
    go_ret
    exact ⟨ret_int H.out.symm, hb⟩
  have H := Lib.hid (leastEnd_yes ⟨hf, hm⟩)
  have HF := Lib.hid hf
  obtain ⟨m1, m2⟩ := inB_iff.1 hm
  obtain ⟨l1, l2⟩ := longestOf_bd hf
  obtain ⟨k1, k2⟩ := workOf_bd hf
  clear hf
  unfold planV
  go_enter Try.func16, Try.ntmps16
  go_wp2_with fail
  refine (specWeightsOk_any p ve v l _ hl hl2 ((h.below hb0).more hb0.size) ((h2.below hb0).more hb0.size)).mono ?_
  rintro e w1 ⟨rfl, hb1⟩
  rw [HF.out]
  have hb := bnext hb0 hb1
  have D := D0.below hb1
  clear hb0 hb1 D0
  obtain ⟨x0, x1, x2, x3, x4, xs⟩ := D.cells
  generalize hL : longestOf p l = L at *
  have HL := Lib.hid hL
  generalize hK : workOf p l = K at *
  have HK := Lib.hid hK
  clear hL hK
  have hs1 : IntKind.i64.wrap (K + many) = K + many := IntWalk.i64_in _ (by omega)
  have hs2 : IntKind.i64.wrap (K + many - 1) = K + many - 1 := IntWalk.i64_in _ (by omega)
  have hq : 0 ≤ (K + many - 1) / many ∧ (K + many - 1) / many ≤ 20000 := by
    refine ⟨Int.ediv_nonneg (by omega) (by omega), ?_⟩
    have := Int.ediv_le_self many (a := K + many - 1) (by omega)
    omega
  obtain ⟨q1, q2⟩ := hq
  go_wp2_with (go_at_call 52; refine (l01In_any _ _ _ _).mono ?_; rintro e w' ⟨rfl, rfl⟩)
  clear x0 x1 x2 x3 x4 xs
  refine (specWorkOf_any p ve v l _ hl hl2 ((h.below hb).more hb.size) ((h2.below hb).more hb.size)).mono ?_
  rintro e w2 ⟨rfl, hb2⟩
  rw [HK.out]
  have D := D.below hb2
  have hb := bnext hb hb2
  obtain ⟨x0, x1, x2, x3, x4, xs⟩ := D.cells
  go_wp2_with fail
  clear x0 x1 x2 x3 x4 xs
  refine (specLongest_any p ve v l _ hl hl2 ((h.below hb).more hb.size) ((h2.below hb).more hb.size)).mono ?_
  rintro e w3 ⟨rfl, hb3⟩
  rw [HL.out]
  have D := D.below hb3
  have hb := bnext hb hb3
  obtain ⟨x0, x1, x2, x3, x4, xs⟩ := D.cells
  by_cases hgt : (K + many - 1) / many < L
  · have hmax := Lib.hid (show max L ((K + many - 1) / many) = L by omega)
    go_wp2_with fail
    clear x0 x1 x2 x3 x4 xs
    refine (specLongest_any p ve v l _ hl hl2 ((h.below hb).more hb.size) ((h2.below hb).more hb.size)).mono ?_
    rintro e w4 ⟨rfl, hb4⟩
    rw [HL.out]
    have hb := bnext hb hb4
    go_wp2
    go_ret
    exact ⟨ret_int (by rw [H.out, hmax.out]), hb⟩
  · have hmax := Lib.hid (show max L ((K + many - 1) / many) = (K + many - 1) / many by omega)
    go_wp2
    go_ret
    exact ⟨ret_int (by rw [H.out, hmax.out]), hb⟩
end Go.Proofs.Ytnaicippgocdfaa
end
section
namespace Go.Proofs.Ytnaicippgocdfaa
open Go.RowKit
set_option maxRecDepth 100000
set_option maxHeartbeats 3000000

theorem specLatest_any (p : Plan) (ve v : Value) (l : List Int) (w : World) (hl : p.edges.length ≤ 2000000) (hl2 : l.length ≤ 2000000) (h : Rd edgeE w w.heap.size ve p.edges) (h2 : Rd intE w w.heap.size v l) :
    Calls Try.prog 40 #[planV p ve, v] w fun e w' => ∃ u, e = .returned u ∧ Ow intE 3 w' w.heap.size u (latestOf p l) ∧ Below w.heap.size w w' := by
  obtain ⟨A, c, rfl, -⟩ := id h2
  have hb0 := planBox_below 26 p ve w
  have D0 := BoxAt.new 26 p ve w
  cases hf : weightsOk p l
  · have H := Lib.hid (show latestOf p l = [] by simp [latestOf, hf])
    have HF := Lib.hid hf
    clear hf
    unfold planV
    go_enter Try.func40, Try.ntmps40
    go_wp2_with fail
    refine (specWeightsOk_any p ve (.slice A l.length c) l _ hl hl2 ((h.below hb0).more hb0.size) ((h2.below hb0).more hb0.size)).mono ?_
    rintro e w1 ⟨rfl, hb1⟩
    rw [HF.out]
    have hb := bnext hb0 hb1
    go_wp2
    go_ret
    exact ⟨_, rfl, by rw [H.out]; exact (Ow.empty intE 3 w1 rfl).more hb.size, hb.alloc hb.size _⟩
  obtain ⟨g1, g2, g3⟩ := weightsOk_all hf
  have G := Lib.hid (planFault_zero.1 g1)
  have HF := Lib.hid hf
  have HP := Lib.hid g1
  have HW := Lib.hid g3
  obtain ⟨t1, t2⟩ := manyOk_tasks G.out.1
  obtain ⟨T, hT⟩ := Int.eq_ofNat_of_zero_le (show 0 ≤ p.tasks by omega)
  have HT := Lib.hid hT
  have HTn := Lib.hid (show p.tasks.toNat = T by omega)
  have hT12 : T ≤ 12 := by omega
  have HLl := Lib.hid (show l.length = T by omega)
  have H := Lib.hid (show latestOf p l = latL (esOf p) T (longestOf p l) l (orderOf p) by unfold latestOf; rw [if_pos hf, HTn.out])
  have hLg : Hid (0 ≤ longestOf p l ∧ longestOf p l ≤ 145000) := Lib.hid (longUpto_bd (earliestOf_bd p l) g3 _)
  have hO := Lib.hid (orderOf_inv g1)
  obtain ⟨j0, hj0, jz0, jz1, jz2⟩ := info_parts int_info
  have hmk : ∀ w : World, (Instr.makeSlice 27 (.int .i64 p.tasks) (.int .i64 p.tasks)).run Try.prog w = .ok (.slice (some ⟨w.heap.size, 0, none⟩) T T) (w.alloc (.cells (madeCells #[.int .i64 0] (T * 1)) 3)) := by
    intro w
    have := run_make (P := Try.prog) w 27 3 j0 _ Try.underlying27 hj0 jz0 .i64 .i64 T T (by omega) (by omega) (by rw [jz2]; omega) (by omega)
    rw [jz1] at this
    rw [hT]
    simpa [Value.cells] using this
  clear hf g1 g2 g3 hT
  unfold planV
  go_enter Try.func40, Try.ntmps40
  go_wp2_with fail
  refine (specWeightsOk_any p ve (.slice A l.length c) l _ hl hl2 ((h.below hb0).more hb0.size) ((h2.below hb0).more hb0.size)).mono ?_
  rintro e w1 ⟨rfl, hb1⟩
  rw [HF.out]
  have D := D0.below hb1
  have hb := bnext hb0 hb1
  obtain ⟨x0, x1, x2, x3, x4, xs⟩ := D.cells
  go_wp2_with fail
  clear x0 x1 x2 x3 x4 hmk D0 hb0 hb1
  have O1 := Ow.made intE 3 w1 0 T (by decide) (by simp [maxLen]; omega) (z := #[.int .i64 0]) rfl (m := T) (by simp [intE])
  have ha := (Below.refl w1.heap.size w1).alloc (Nat.le_refl _) (.cells (madeCells #[.int .i64 0] T) 3)
  have hsz1 : (w1.alloc (.cells (madeCells #[.int .i64 0] T) 3)).heap.size = w1.heap.size + 1 := by simp
  have Hsz1 := Lib.hid hsz1
  have D := D.below ha
  have hb := bnext hb ha
  clear ha hsz1
  refine (specOrder_any p ve _ hl ((h.below hb).more hb.size)).mono ?_
  rintro e w2 ⟨v2, rfl, o2, hb2⟩
  have o2 := o2.more (base' := w1.heap.size + 1) (by rw [Hsz1.out]; omega)
  have O := O1.below hb2
  have D := D.below hb2
  have hb := bnext hb hb2
  have hX := xs
  clear O1 xs hb2
  have hlen : (orderOf p).length = T := by rw [hO.out.len, HTn.out]
  have hlt0 : Hid (∀ x ∈ orderOf p, x < T) := fun x hx => by have := hO.out.lt x hx; rw [HTn.out] at this; exact this
  generalize orderOf p = ord at *
  generalize hLL : longestOf p l = L at *
  have HLL := Lib.hid hLL
  clear hLL
  obtain ⟨A2, c2, rfl, -⟩ := id (Rd.of_own o2)
  rw [hlen] at o2 ⊢
  have HO2 := Lib.hid hlen
  clear hlen
  have hsT : IntKind.i64.wrap ((T : Int) - 1) = (T : Int) - 1 := IntWalk.i64_in _ (by omega)
  go_wp2
  go_loopw [7] (fun i wr => ∃ n : Nat, n ≤ T ∧ i = .int .i64 ((n : Int) - 1) ∧ Hid (Ld (latL (esOf p) T L l (ord.drop n)) (T - n)) ∧ Ow intE 3 wr w1.heap.size (.slice (some ⟨w1.heap.size, 0, none⟩) T T) (latL (esOf p) T L l (ord.drop n)) ∧ Ow natE 3 wr (w1.heap.size + 1) (.slice A2 T c2) ord ∧ BoxAt w.heap.size p ve wr ∧ Below w.heap.size w wr) (fun i _ => (intOf i + 1).toNat)
  case atStart => exact ⟨T, Nat.le_refl _, rfl, by rw [List.drop_of_length_le (by rw [HO2.out]; exact Nat.le_refl _)]; exact fun x hx => by have := List.eq_of_mem_replicate hx; subst this; omega, by rw [List.drop_of_length_le (by rw [HO2.out]; exact Nat.le_refl _)]; exact O, o2, D, hb⟩
  case round =>
    clear O o2 D hb hsT
    obtain ⟨n, hn, rfl, hbd, ho, o2, D, hb⟩ := hrel
    cases n with
    | zero =>
      have hltI : ¬ ((0 : Nat) : Int) - 1 ≥ 0 := by omega
      have hbF := hb
      rw [List.drop_zero] at ho
      go_wp2
      go_ret
      exact ⟨_, rfl, by rw [H.out]; exact ho.more (by omega), hbF⟩
    | succ n =>
      have he1 : ((n + 1 : Nat) : Int) - 1 = (n : Int) := by omega
      rw [he1]
      clear he1
      have hnT : n < T := by omega
      have hge : (n : Int) ≥ 0 := by omega
      have hnI : (n : Int) < (T : Int) := by omega
      have hko : n < ord.length := by rw [HO2.out]; exact hnT
      have S0 := Lib.hid (latL_cons (esOf p) T L l ord hko)
      have hEl := latL_len (esOf p) T L l (ord.drop (n + 1))
      have htT : ord[n] < T := hlt0.out _ (List.getElem_mem hko)
      obtain ⟨g2, rfl, hg2, hg2'⟩ := o2.some_ (by omega)
      have ct := o2.nat hko
      generalize hE : latL (esOf p) T L l (ord.drop (n + 1)) = E at *
      have HE := Lib.hid hE
      clear hE
      generalize hkt : ord[n] = t at *
      have Hkt := Lib.hid hkt
      clear hkt
      obtain ⟨x0, x1, x2, x3, x4, xs⟩ := D.cells
      have hblk := ho.blk.2
      go_wp2_with fail
      clear x0 x1 x2 x3 x4 xs ct hblk
      refine (specLongest_any p ve (.slice A l.length c) l _ hl hl2 ((h.below hb).more hb.size) ((h2.below hb).more hb.size)).mono ?_
      rintro e w3 ⟨rfl, b3⟩
      rw [HLL.out]
      have ho := ho.below b3
      have o2 := o2.below b3
      have D := D.below b3
      have hb := bnext hb b3
      clear b3
      have hblk := ho.blk.2
      obtain ⟨x0, x1, x2, x3, x4, xs⟩ := D.cells
      go_wp2_with fail
      clear x0 x1 x2 x3 x4 xs
      refine (specBehind_any p ve t _ G.out.1 G.out.2.1 G.out.2.2.1 ((h.below hb).more hb.size)).mono ?_
      rintro e w4 ⟨v3, rfl, o3, b3⟩
      rw [HTn.out] at o3
      have o3 := o3.more (base' := w1.heap.size + 1) (by omega)
      have ho := ho.below b3
      have o2 := o2.below b3
      have D := D.below b3
      have hb := bnext hb b3
      have hbl := behindL_len (esOf p) T t
      have hbm : Hid (∀ x ∈ behindL (esOf p) T t, x < T) := fun x hx => by simp [behindL] at hx; exact hx.1
      have hst := Lib.hid (hbd.out.step hLg.out HW.out (behindL (esOf p) T t) t)
      generalize behindL (esOf p) T t = B at *
      obtain ⟨A3, c3, rfl, -⟩ := id (Rd.of_own o3)
      clear b3 hblk
      go_wp2
      go_loopw [9, 11] (fun e i wr => ∃ j : Nat, j ≤ B.length ∧ i = .int .i64 j ∧ e = .int .i64 (latEnd L E (B.take j)) ∧ Ow intE 3 wr w1.heap.size (.slice (some ⟨w1.heap.size, 0, none⟩) T T) E ∧ Ow natE 3 wr (w1.heap.size + 1) (.slice (some ⟨g2, 0, none⟩) T c2) ord ∧ Ow natE 3 wr (w1.heap.size + 1) (.slice A3 B.length c3) B ∧ BoxAt w.heap.size p ve wr ∧ Below w.heap.size w wr) (fun _ i _ => B.length - (intOf i).toNat)
      case atStart => exact ⟨0, Nat.zero_le _, rfl, rfl, ho, o2, o3, D, hb⟩
      case round =>
        clear ho o2 o3 D hb
        obtain ⟨j, hj, rfl, rfl, ho, o2, o3, D, hb⟩ := hrel
        by_cases hjt : j < B.length
        · have hjI : (j : Int) < (B.length : Int) := by omega
          have hbT : B[j] < T := hbm.out _ (List.getElem_mem hjt)
          have hbE : B[j] < E.length := by omega
          have Sj := Lib.hid (latEnd_step (L := L) (o := E) hjt hbE)
          generalize latEnd L E (B.take j) = m at *
          obtain ⟨g3, rfl, hg3, hg3'⟩ := o3.some_ (by omega)
          have cb := o3.nat hjt
          have cO := ho.int hbE
          generalize hbj : B[j] = b at *
          have Hbj := Lib.hid hbj
          clear hbj
          have hbI : (b : Int) < (T : Int) := by omega
          by_cases hgt : E[b] < m
          · have hmin := Lib.hid (show min m E[b] = E[b] by omega)
            go_wp2
            exact ⟨⟨j + 1, by omega, by go_num, by rw [Sj.out, hmin.out], ho, o2, o3, D, hb⟩, by simp [intOf]; omega⟩
          · have hmin := Lib.hid (show min m E[b] = m by omega)
            have hdec : decide (E[b] < m) = false := by simpa using hgt
            go_wp2
            exact ⟨⟨j + 1, by omega, by go_num, by rw [Sj.out, hmin.out], ho, o2, o3, D, hb⟩, by simp [intOf]; omega⟩
        · have hjI : ¬ (j : Int) < (B.length : Int) := by omega
          have hj' : j = B.length := by omega
          subst hj'
          rw [List.take_length]
          have hen := latEnd_bd hLg.out hbd.out B L (by have := hLg.out; omega)
          have htl : t < l.length := by rw [HLl.out]; exact htT
          have htlI : (t : Int) < (l.length : Int) := by omega
          have htI : (t : Int) < (T : Int) := by omega
          have htO : t < E.length := by omega
          obtain ⟨bw, ow, rfl, hbw, cw⟩ := (h2.below hb).int htl
          have hwt := HW.out _ (List.getElem_mem htl)
          have hS2 := Lib.hid (show l.getD t 0 = l[t] by simp [List.getD_eq_getElem?_getD, htl])
          have hput := Lib.hid (Ow.put ho hEl t htT (latEnd L E B - l[t]))
          generalize latEnd L E B = m at *
          have hs : IntKind.i64.wrap (m - l[t]) = m - l[t] := IntWalk.i64_in _ (by omega)
          have cO := ho.int htO
          have hf := ho.free
          clear hwt hen
          go_wp2
          refine ⟨⟨n, by omega, rfl, by rw [S0.out, hS2.out] at *; exact fun x hx => by have := hst.out x hx; omega, ?_, o2.setOther (by simp [Value.ownBlock]; omega) _, D.other (by simp; omega) _, hb.setCell (by simp; omega) _⟩, by simp [intOf]⟩
          rw [S0.out, hS2.out]
          have := hput.out.1
          simp only [intE, Nat.mul_one] at this
          exact this
end Go.Proofs.Ytnaicippgocdfaa
end
section
namespace Go.Proofs.Ytnaicippgocdfaa
open Go.RowKit
set_option maxRecDepth 100000
set_option maxHeartbeats 2000000

def nextZ : Option Nat → Int
  | none => -1
  | some t => (t : Int)
theorem all_succ {B : List Nat} {f : Nat → Bool} {j : Nat} (hj : j < B.length) : (B.take (j + 1)).all f = ((B.take j).all f && f B[j]) := by
  rw [take_snoc B j hj, List.all_append]
  simp

theorem implNext_any (p : Plan) (ve v : Value) (E : List Int) (now : Int) (w : World) (hf : planFault p = 0) (hE : E.length = p.tasks.toNat) (h : Rd edgeE w w.heap.size ve p.edges) (h2 : Rd intE w w.heap.size v E) :
    Calls Try.prog 50 #[planV p ve, v, .int .i64 now] w fun e w' => e = .returned (.int .i64 (nextZ (nextT (esOf p) p.tasks.toNat E now))) ∧ Below w.heap.size w w' := by
  obtain ⟨A, c, rfl, -⟩ := id h2
  have hb0 := planBox_below 26 p ve w
  have D0 := BoxAt.new 26 p ve w
  have G := Lib.hid (planFault_zero.1 hf)
  obtain ⟨t1, t2⟩ := manyOk_tasks G.out.1
  obtain ⟨T, hT⟩ := Int.eq_ofNat_of_zero_le (show 0 ≤ p.tasks by omega)
  have HT := Lib.hid hT
  have HTn := Lib.hid (show p.tasks.toNat = T by omega)
  have hT12 : T ≤ 12 := by omega
  have HE := Lib.hid (show E.length = T by omega)
  have HF := Lib.hid hf
  rw [HTn.out]
  clear hf hE hT
  unfold planV
  go_enter Try.func50, Try.ntmps50
  go_wp2
  go_loopw [7] (fun i wr => ∃ k : Nat, k ≤ T ∧ i = .int .i64 k ∧ Hid (∀ s, s < k → mayStart (esOf p) T E now s = false) ∧ BoxAt w.heap.size p ve wr ∧ Below w.heap.size w wr) (fun i _ => T - (intOf i).toNat)
  case atStart => exact ⟨0, Nat.zero_le _, rfl, fun s hs => absurd hs (by omega), D0, hb0⟩
  case round =>
    clear D0 hb0
    obtain ⟨k, hk, rfl, hno, D, hb⟩ := hrel
    obtain ⟨x0, x1, x2, x3, x4, xs⟩ := D.cells
    by_cases hlt : k < T
    · have hltI : (k : Int) < p.tasks := by rw [HT.out]; omega
      have hkE : k < E.length := by rw [HE.out]; exact hlt
      have hkEI : (k : Int) < (E.length : Int) := by omega
      obtain ⟨b2, o2, rfl, hbb2, d0⟩ := (h2.below hb).int hkE
      have Hgd := Lib.hid (getD_at hkE (0 : Int))
      have hmay : Hid (mayStart (esOf p) T E now k = (decide (E[k] < 0) && (beforeL (esOf p) T k).all (beforeOk E now))) := by unfold Hid mayStart; rw [Hgd.out]
      have S0 : mayStart (esOf p) T E now k = false → Hid (∀ s, s < k + 1 → mayStart (esOf p) T E now s = false) := fun h s hs => by
        by_cases e : s = k
        · subst e; exact h
        · exact hno.out s (by omega)
      by_cases hneg : E[k] < 0
      case neg =>
        have S := S0 (by rw [hmay.out]; simp [hneg])
        clear S0 Hgd hmay
        have hge : (0 : Int) ≤ E[k] := by omega
        go_wp2
        exact ⟨⟨k + 1, by omega, by go_num, S, D, hb⟩, by simp [intOf]; omega⟩
      have S1 := Lib.hid S0
      clear S0 Hgd
      have hge : ¬ (0 : Int) ≤ E[k] := by omega
      have HN := Lib.hid hneg
      clear hneg
      go_wp2_with fail
      clear x0 x1 x2 x3 x4 xs
      refine (implBefore_any p ve k _ HF.out ((h.below hb).more hb.size)).mono ?_
      rintro e w3 ⟨v3, rfl, o3, b3⟩
      have D := D.below b3
      have hb := bnext hb b3
      rw [HTn.out] at o3
      have hbl := beforeL_len (esOf p) T k
      have hbm : Hid (∀ x ∈ beforeL (esOf p) T k, x < T) := fun x hx => by simp [beforeL] at hx; exact hx.1
      have hmay2 : Hid (mayStart (esOf p) T E now k = (beforeL (esOf p) T k).all (beforeOk E now)) := by unfold Hid; rw [hmay.out]; simp [HN.out]
      clear hmay
      generalize beforeL (esOf p) T k = B at *
      obtain ⟨A3, c3, rfl, -⟩ := id (Rd.of_own o3)
      clear b3 d0
      have hbb3 := Nat.lt_of_lt_of_le hbb2 hb.size
      go_wp2
      go_loop [8, 26] (fun fr i => ∃ (j : Nat) (r : Bool), j ≤ B.length ∧ i = .int .i64 j ∧ fr = .bool r ∧ Hid (r = (B.take j).all (beforeOk E now))) (fun _ i => B.length - (intOf i).toNat)
      case atStart => exact ⟨0, true, Nat.zero_le _, rfl, rfl, by simp [Hid]⟩
      case round =>
        obtain ⟨j, r, hj, rfl, rfl, hr⟩ := hrel
        by_cases hjt : j < B.length
        · have hjI : (j : Int) < (B.length : Int) := by omega
          have hS := Lib.hid (all_succ (f := beforeOk E now) hjt)
          obtain ⟨g3, rfl, hg3, hg3'⟩ := o3.some_ (by omega)
          have cb := o3.nat hjt
          have hxT : B[j] < T := hbm.out _ (List.getElem_mem hjt)
          have hxE : B[j] < E.length := by rw [HE.out]; exact hxT
          have hxI : (B[j] : Int) < (E.length : Int) := by omega
          obtain ⟨b5, o5, he5, hbb5, d5⟩ := (h2.below hb).int hxE
          simp only [Option.some.injEq, Addr.mk.injEq, and_true] at he5
          obtain ⟨rfl, rfl⟩ := he5
          have hbo : Hid (beforeOk E now B[j] = (decide (0 ≤ E[B[j]]) && decide (E[B[j]] ≤ now))) := by unfold Hid beforeOk; rw [getD_at hxE]
          cases r
          · have S := Lib.hid (show false = (B.take (j + 1)).all (beforeOk E now) by rw [hS.out, ← hr.out]; rfl)
            clear hbo
            go_wp2
            exact ⟨⟨j + 1, false, by omega, by go_num, rfl, S⟩, by simp [intOf]; omega⟩
          by_cases u1 : (0 : Int) ≤ E[B[j]]
          case neg =>
            have S := Lib.hid (show false = (B.take (j + 1)).all (beforeOk E now) by rw [hS.out, hbo.out]; simp [u1])
            have ud : decide ((0 : Int) ≤ E[B[j]]) = false := by simpa using u1
            clear hbo u1
            go_wp2
            exact ⟨⟨j + 1, false, by omega, by go_num, rfl, S⟩, by simp [intOf]; omega⟩
          have ud : decide ((0 : Int) ≤ E[B[j]]) = true := by simpa using u1
          by_cases u2 : E[B[j]] ≤ now
          case neg =>
            have S := Lib.hid (show false = (B.take (j + 1)).all (beforeOk E now) by rw [hS.out, hbo.out]; simp [u2])
            have ue : decide (E[B[j]] ≤ now) = false := by simpa using u2
            clear hbo u2 u1
            go_wp2
            exact ⟨⟨j + 1, false, by omega, by go_num, rfl, S⟩, by simp [intOf]; omega⟩
          have S := Lib.hid (show true = (B.take (j + 1)).all (beforeOk E now) by rw [hS.out, hbo.out, ← hr.out]; simp [u1, u2])
          have ue : decide (E[B[j]] ≤ now) = true := by simpa using u2
          clear hbo u2 u1
          go_wp2
          exact ⟨⟨j + 1, true, by omega, by go_num, rfl, S⟩, by simp [intOf]; omega⟩
        · have hjI : ¬ (j : Int) < (B.length : Int) := by omega
          have hj' : j = B.length := by omega
          have hR := Lib.hid (show r = mayStart (esOf p) T E now k by rw [hmay2.out, hr.out, hj', List.take_length])
          clear hj'
          cases r
          · have S := S1.out hR.out.symm
            go_wp2
            exact ⟨⟨k + 1, by omega, by go_num, S, D, hb⟩, by simp [intOf]; omega⟩
          · have H := Lib.hid (nextT_first hlt hR.out.symm hno.out)
            go_wp2
            go_ret
            exact ⟨ret_int (by rw [H.out]; rfl), hb⟩
    · have hltI : ¬ (k : Int) < p.tasks := by rw [HT.out]; omega
      have H := Lib.hid (nextT_none (es := esOf p) (T := T) (ends := E) (now := now) fun s hs => hno.out s (by omega))
      go_wp2
      go_ret
      exact ⟨ret_int (by rw [H.out]; rfl), hb⟩

theorem specNext_any (p : Plan) (ve v : Value) (E : List Int) (now : Int) (w : World) (hf : planFault p = 0) (hE : E.length = p.tasks.toNat) (h : Rd edgeE w w.heap.size ve p.edges) (h2 : Rd intE w w.heap.size v E) :
    Calls Try.prog 53 #[planV p ve, v, .int .i64 now] w fun e w' => e = .returned (.int .i64 (nextZ (nextT (esOf p) p.tasks.toNat E now))) ∧ Below w.heap.size w w' := by
  obtain ⟨A, c, rfl, -⟩ := id h2
  have hb0 := planBox_below 26 p ve w
  have D0 := BoxAt.new 26 p ve w
  have G := Lib.hid (planFault_zero.1 hf)
  obtain ⟨t1, t2⟩ := manyOk_tasks G.out.1
  obtain ⟨T, hT⟩ := Int.eq_ofNat_of_zero_le (show 0 ≤ p.tasks by omega)
  have HT := Lib.hid hT
  have HTn := Lib.hid (show p.tasks.toNat = T by omega)
  have hT12 : T ≤ 12 := by omega
  have HE := Lib.hid (show E.length = T by omega)
  have HF := Lib.hid hf
  rw [HTn.out]
  clear hf hE hT
  unfold planV
  go_enter Try.func53, Try.ntmps53
  go_wp2
  go_loopw [7] (fun i wr => ∃ k : Nat, k ≤ T ∧ i = .int .i64 k ∧ Hid (∀ s, s < k → mayStart (esOf p) T E now s = false) ∧ BoxAt w.heap.size p ve wr ∧ Below w.heap.size w wr) (fun i _ => T - (intOf i).toNat)
  case atStart => exact ⟨0, Nat.zero_le _, rfl, fun s hs => absurd hs (by omega), D0, hb0⟩
  case round =>
    clear D0 hb0
    obtain ⟨k, hk, rfl, hno, D, hb⟩ := hrel
    obtain ⟨x0, x1, x2, x3, x4, xs⟩ := D.cells
    by_cases hlt : k < T
    · have hltI : (k : Int) < p.tasks := by rw [HT.out]; omega
      have hkE : k < E.length := by rw [HE.out]; exact hlt
      have hkEI : (k : Int) < (E.length : Int) := by omega
      obtain ⟨b2, o2, rfl, hbb2, d0⟩ := (h2.below hb).int hkE
      have Hgd := Lib.hid (getD_at hkE (0 : Int))
      have hmay : Hid (mayStart (esOf p) T E now k = (decide (E[k] < 0) && (beforeL (esOf p) T k).all (beforeOk E now))) := by unfold Hid mayStart; rw [Hgd.out]
      have S0 : mayStart (esOf p) T E now k = false → Hid (∀ s, s < k + 1 → mayStart (esOf p) T E now s = false) := fun h s hs => by
        by_cases e : s = k
        · subst e; exact h
        · exact hno.out s (by omega)
      by_cases hneg : E[k] < 0
      case neg =>
        have S := S0 (by rw [hmay.out]; simp [hneg])
        clear S0 Hgd hmay
        have hdn : decide (E[k] < 0) = false := by simpa using hneg
        clear hneg
        go_wp2_with fail
        clear x0 x1 x2 x3 x4 xs
        refine (specBefore_any p ve k _ G.out.1 G.out.2.1 G.out.2.2.1 ((h.below hb).more hb.size)).mono ?_
        rintro e w3 ⟨v3, rfl, o3, b3⟩
        have D := D.below b3
        have hb := bnext hb b3
        rw [HTn.out] at o3
        have hbl := beforeL_len (esOf p) T k
        generalize beforeL (esOf p) T k = B at *
        obtain ⟨A3, c3, rfl, -⟩ := id (Rd.of_own o3)
        clear b3 d0
        go_wp2
        go_loop [8, 10] (fun fr i => ∃ j : Nat, j ≤ B.length ∧ i = .int .i64 j ∧ fr = .bool false) (fun _ i => B.length - (intOf i).toNat)
        case atStart => exact ⟨0, Nat.zero_le _, rfl, rfl⟩
        case round =>
          obtain ⟨j, hj, rfl, rfl⟩ := hrel
          by_cases hjt : j < B.length
          · have hjI : (j : Int) < (B.length : Int) := by omega
            go_wp2
            exact ⟨⟨j + 1, by omega, by go_num, rfl⟩, by simp [intOf]; omega⟩
          · have hjI : ¬ (j : Int) < (B.length : Int) := by omega
            go_wp2
            exact ⟨⟨k + 1, by omega, by go_num, S, D, hb⟩, by simp [intOf]; omega⟩
      have S1 := Lib.hid S0
      clear S0 Hgd
      have hdn : decide (E[k] < 0) = true := by simpa using hneg
      have HN := Lib.hid hneg
      clear hneg
      go_wp2_with fail
      clear x0 x1 x2 x3 x4 xs
      refine (specBefore_any p ve k _ G.out.1 G.out.2.1 G.out.2.2.1 ((h.below hb).more hb.size)).mono ?_
      rintro e w3 ⟨v3, rfl, o3, b3⟩
      have D := D.below b3
      have hb := bnext hb b3
      rw [HTn.out] at o3
      have hbl := beforeL_len (esOf p) T k
      have hbm : Hid (∀ x ∈ beforeL (esOf p) T k, x < T) := fun x hx => by simp [beforeL] at hx; exact hx.1
      have hmay2 : Hid (mayStart (esOf p) T E now k = (beforeL (esOf p) T k).all (beforeOk E now)) := by unfold Hid; rw [hmay.out]; simp [HN.out]
      clear hmay
      generalize beforeL (esOf p) T k = B at *
      obtain ⟨A3, c3, rfl, -⟩ := id (Rd.of_own o3)
      clear b3 d0
      have hbb3 := Nat.lt_of_lt_of_le hbb2 hb.size
      go_wp2
      go_loop [8, 10] (fun fr i => ∃ (j : Nat) (r : Bool), j ≤ B.length ∧ i = .int .i64 j ∧ fr = .bool r ∧ Hid (r = (B.take j).all (beforeOk E now))) (fun _ i => B.length - (intOf i).toNat)
      case atStart => exact ⟨0, true, Nat.zero_le _, rfl, rfl, by simp [Hid]⟩
      case round =>
        obtain ⟨j, r, hj, rfl, rfl, hr⟩ := hrel
        by_cases hjt : j < B.length
        · have hjI : (j : Int) < (B.length : Int) := by omega
          have hS := Lib.hid (all_succ (f := beforeOk E now) hjt)
          obtain ⟨g3, rfl, hg3, hg3'⟩ := o3.some_ (by omega)
          have cb := o3.nat hjt
          have hxT : B[j] < T := hbm.out _ (List.getElem_mem hjt)
          have hxE : B[j] < E.length := by rw [HE.out]; exact hxT
          have hxI : (B[j] : Int) < (E.length : Int) := by omega
          obtain ⟨b5, o5, he5, hbb5, d5⟩ := (h2.below hb).int hxE
          simp only [Option.some.injEq, Addr.mk.injEq, and_true] at he5
          obtain ⟨rfl, rfl⟩ := he5
          have hbo : Hid (beforeOk E now B[j] = (decide (0 ≤ E[B[j]]) && decide (E[B[j]] ≤ now))) := by unfold Hid beforeOk; rw [getD_at hxE]
          cases r
          · have S := Lib.hid (show false = (B.take (j + 1)).all (beforeOk E now) by rw [hS.out, ← hr.out]; rfl)
            clear hbo
            go_wp2
            exact ⟨⟨j + 1, false, by omega, by go_num, rfl, S⟩, by simp [intOf]; omega⟩
          by_cases u1 : (0 : Int) ≤ E[B[j]]
          case neg =>
            have S := Lib.hid (show false = (B.take (j + 1)).all (beforeOk E now) by rw [hS.out, hbo.out]; simp [u1])
            have ud : decide ((0 : Int) ≤ E[B[j]]) = false := by simpa using u1
            clear hbo u1
            go_wp2
            exact ⟨⟨j + 1, false, by omega, by go_num, rfl, S⟩, by simp [intOf]; omega⟩
          have ud : decide ((0 : Int) ≤ E[B[j]]) = true := by simpa using u1
          by_cases u2 : E[B[j]] ≤ now
          case neg =>
            have S := Lib.hid (show false = (B.take (j + 1)).all (beforeOk E now) by rw [hS.out, hbo.out]; simp [u2])
            have ue : decide (E[B[j]] ≤ now) = false := by simpa using u2
            clear hbo u2 u1
            go_wp2
            exact ⟨⟨j + 1, false, by omega, by go_num, rfl, S⟩, by simp [intOf]; omega⟩
          have S := Lib.hid (show true = (B.take (j + 1)).all (beforeOk E now) by rw [hS.out, hbo.out, ← hr.out]; simp [u1, u2])
          have ue : decide (E[B[j]] ≤ now) = true := by simpa using u2
          clear hbo u2 u1
          go_wp2
          exact ⟨⟨j + 1, true, by omega, by go_num, rfl, S⟩, by simp [intOf]; omega⟩
        · have hjI : ¬ (j : Int) < (B.length : Int) := by omega
          have hj' : j = B.length := by omega
          have hR := Lib.hid (show r = mayStart (esOf p) T E now k by rw [hmay2.out, hr.out, hj', List.take_length])
          clear hj'
          cases r
          · have S := S1.out hR.out.symm
            go_wp2
            exact ⟨⟨k + 1, by omega, by go_num, S, D, hb⟩, by simp [intOf]; omega⟩
          · have H := Lib.hid (nextT_first hlt hR.out.symm hno.out)
            go_wp2
            go_ret
            exact ⟨ret_int (by rw [H.out]; rfl), hb⟩
    · have hltI : ¬ (k : Int) < p.tasks := by rw [HT.out]; omega
      have H := Lib.hid (nextT_none (es := esOf p) (T := T) (ends := E) (now := now) fun s hs => hno.out s (by omega))
      go_wp2
      go_ret
      exact ⟨ret_int (by rw [H.out]; rfl), hb⟩

end Go.Proofs.Ytnaicippgocdfaa
end
