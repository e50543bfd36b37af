/-
  OrderOf of the reference.
-/
import Derived.Test.YtoccmpijfggmkaaOi
import Derived.Test.YtoccmpijfggmkaaPs
namespace Go.Proofs.Ytoccmpijfggmkaa
open Go.RowKit
set_option maxRecDepth 100000
set_option maxHeartbeats 2000000

/-- who is in o, task by task -/
def toldL (T : Nat) (o : List Nat) : List Bool := (List.range T).map fun s => decide (s ∈ o)
theorem toldL_len (T : Nat) (o : List Nat) : (toldL T o).length = T := by simp [toldL]
theorem toldL_get {T : Nat} {o : List Nat} {s : Nat} (h : s < (toldL T o).length) : (toldL T o)[s] = decide (s ∈ o) := by simp [toldL]
theorem toldL_nil (T : Nat) : toldL T [] = List.replicate T false := by
  apply List.ext_getElem
  · simp [toldL]
  · intro i h1 h2
    simp [toldL]
theorem toldL_set {T : Nat} {o : List Nat} {t : Nat} : (toldL T o).set t true = toldL T (o ++ [t]) := by
  apply List.ext_getElem
  · simp [toldL]
  · intro i h1 h2
    rw [List.getElem_set]
    by_cases e : t = i
    · subst e; simp [toldL]
    · rw [if_neg e]
      simp [toldL, Ne.symm e]
/-- what the look at the first j finds -/
def okUpto (o b : List Nat) (t j : Nat) : Bool := !decide (t ∈ o) && decide (∀ x ∈ b.take j, x ∈ o)
theorem okUpto_succ {o b : List Nat} {t j : Nat} (hj : j < b.length) : okUpto o b t (j + 1) = (okUpto o b t j && decide (b[j] ∈ o)) := by
  unfold okUpto
  rw [take_snoc b j hj, Bool.and_assoc, ← Bool.decide_and]
  congr 1
  refine decide_eq_decide.2 ⟨fun h => ⟨fun x hx => h x (List.mem_append_left _ hx), h _ (List.mem_append_right _ (List.mem_singleton.2 rfl))⟩, ?_⟩
  rintro ⟨h1, h2⟩ x hx
  rcases List.mem_append.1 hx with h | h
  · exact h1 x h
  · rw [List.mem_singleton.1 h]; exact h2

theorem specOrder_any (p : Plan) (ve : Value) (w : World) (hl : p.edges.length ≤ 2000000) (h : Rd edgeE w w.heap.size ve p.edges) :
    Calls Try.prog 142 #[planV p ve] w fun e w' => ∃ v, e = .returned v ∧ Ow natE 3 w' w.heap.size v (orderOf p) ∧ Below w.heap.size w w' := by
  have ha0 : ∀ w : World, Below w.heap.size w (w.alloc (.cells #[] 3)) := fun w => (Below.refl _ _).alloc (Nat.le_refl _) _
  have hb00 := planBox_below 47 p ve w
  have hb0 := bnext hb00 (ha0 _)
  have D0 := (BoxAt.new 47 p ve w).below (ha0 _)
  have O0 := Ow.empty natE 3 (planBox 47 p ve w) (g := w.heap.size + 1) (by rw [planBox_size])
  clear hb00 ha0
  by_cases hf : planFault p = 0
  case neg =>
    have hfb : (planFault p != 0) = true := by simp [hf]
    have H := Lib.hid (show orderOf p = [] by unfold orderOf; rw [if_neg hf])
    clear hf
    unfold planV
    go_enter Try.func142, Try.ntmps142
    go_wp2_with fail
    refine (specPlanFault_any p ve _ hl ((h.below hb0).more hb0.size)).mono ?_
    rintro e w1 ⟨rfl, hb1⟩
    go_wp2
    go_ret
    exact ⟨_, rfl, by rw [H.out]; exact (O0.below hb1).more (by omega), bnext hb0 hb1⟩
  have hfb : (planFault p != 0) = false := by simp [hf]
  have G := Lib.hid (planFault_zero.1 hf)
  have HF := Lib.hid hf
  have hac := Lib.hid (plan_ac hf)
  obtain ⟨t1, t2⟩ := manyOk_tasks G.out.1
  obtain ⟨T, hT⟩ := Int.eq_ofNat_of_zero_le (show 0 ≤ p.tasks by omega)
  have HT := Lib.hid hT
  have HTn := Lib.hid (show p.tasks.toNat = T by omega)
  have hT12 : T ≤ 12 := by omega
  have H := Lib.hid (show orderOf p = orderL (esOf p) T T by unfold orderOf; rw [if_pos hf, HTn.out])
  have he1 := Lib.hid (show ∀ e ∈ esOf p, e.1 < T by have := (esOf_lt G.out.2.1).1; rw [HTn.out] at this; exact this)
  have hac' := Lib.hid (show ∀ t, t < T → ¬ Pg.Reach (esOf p) t t by have := hac.out; rw [HTn.out] at this; exact this)
  obtain ⟨j0, hj0, jz0, jz1, jz2⟩ := info_parts int_info
  obtain ⟨i0, hi0, hz0, hz1, hz2⟩ := info_parts bool_info
  have hmk : ∀ w : World, (Instr.makeSlice 101 (.int .i64 p.tasks) (.int .i64 p.tasks)).run Try.prog w = .ok (.slice (some ⟨w.heap.size, 0, none⟩) T T) (w.alloc (.cells (madeCells #[.bool false] (T * 1)) 4)) := by
    intro w
    have := run_make (P := Try.prog) w 101 4 i0 _ Try.underlying101 hi0 hz0 .i64 .i64 T T (by omega) (by omega) (by rw [hz2]; omega) (by omega)
    rw [hz1] at this
    rw [hT]
    simpa [Value.cells] using this
  clear hf hT hac
  unfold planV
  go_enter Try.func142, Try.ntmps142
  go_wp2_with fail
  refine (specPlanFault_any p ve _ hl ((h.below hb0).more hb0.size)).mono ?_
  rintro e w1 ⟨rfl, hb1⟩
  have D := D0.below hb1
  have O := O0.below hb1
  have hb := bnext hb0 hb1
  obtain ⟨x0, x1, x2, x3, x4, xs⟩ := D.cells
  have hOl := O.blk
  go_wp2
  clear x0 x1 x2 x3 x4 D0 O0 hb0 hb1 hmk
  have hX : w.heap.size + 1 ≤ w1.heap.size := by omega
  go_loopw [3] (fun vl wr => ∃ n : Nat, n ≤ T ∧ Ow natE 3 wr (w.heap.size + 1) vl (orderL (esOf p) T n) ∧ Ow boolE 4 wr (w.heap.size + 1) (.slice (some ⟨w1.heap.size, 0, none⟩) T T) (toldL T (orderL (esOf p) T n)) ∧ BoxAt w.heap.size p ve wr ∧ Below w.heap.size w wr) (fun vl _ => T - slen vl)
  case atStart =>
    have ha := (Below.refl w1.heap.size w1).alloc (Nat.le_refl _) (.cells (madeCells #[.bool false] T) 4)
    refine ⟨0, Nat.zero_le _, O.below ha, ?_, D.below ha, bnext hb ha⟩
    have := Ow.made boolE 4 w1 false T (by decide) (by simp [maxLen]; omega) (z := #[.bool false]) rfl (m := T) (by simp [boolE])
    show Ow boolE _ _ _ _ (toldL T [])
    rw [toldL_nil]
    exact this.more hX
  case round =>
    clear D O hb xs hOl
    obtain ⟨n, hn, ho, hto, D, hb⟩ := hrel
    have hinv := Lib.hid (orderL_inv he1.out hac'.out n hn)
    obtain ⟨A, c, rfl, -⟩ := id (Rd.of_own ho)
    have hlen : (orderL (esOf p) T n).length = n := hinv.out.len
    rw [hlen] at ho ⊢
    obtain ⟨x0, x1, x2, x3, x4, xs⟩ := D.cells
    have hlen2 : (orderL (esOf p) T n).length ≤ 2000000 := by omega
    have HL := Lib.hid hlen
    clear hlen hlen2
    by_cases hlt : n < T
    · have hltI : (n : Int) < p.tasks := by rw [HT.out]; omega
      obtain ⟨wo, rfl⟩ : ∃ wo : World, wo = wr := ⟨_, rfl⟩
      go_wp2
      clear x0 x1 x2 x3 x4 xs
      go_loopw [3, 5] (fun vl i wr => ∃ k : Nat, k ≤ T ∧ vl = .slice A n c ∧ i = .int .i64 k ∧ Hid (∀ s, s < k → mayCome (esOf p) (orderL (esOf p) T n) s = false) ∧ Ow natE 3 wr (w.heap.size + 1) (.slice A n c) (orderL (esOf p) T n) ∧ Ow boolE 4 wr (w.heap.size + 1) (.slice (some ⟨w1.heap.size, 0, none⟩) T T) (toldL T (orderL (esOf p) T n)) ∧ BoxAt w.heap.size p ve wr ∧ Below w.heap.size w wr) (fun _ i _ => T - (intOf i).toNat)
      case atStart => exact ⟨0, Nat.zero_le _, rfl, rfl, fun s hs => absurd hs (by omega), ho, hto, D, hb⟩
      case round =>
        clear ho D hb hto
        obtain ⟨k, hk, rfl, rfl, hno, ho, hto, D, hb⟩ := hrel
        obtain ⟨x0, x1, x2, x3, x4, xs⟩ := D.cells
        by_cases hkt : k < T
        · have hktI : (k : Int) < p.tasks := by rw [HT.out]; omega
          have hkTI : (k : Int) < (T : Int) := by omega
          have hmc := Lib.hid (mayCome_before (out := orderL (esOf p) T n) (t := k) he1.out)
          have hnext : mayCome (esOf p) (orderL (esOf p) T n) k = false → Hid (∀ s, s < k + 1 → mayCome (esOf p) (orderL (esOf p) T n) s = false) := fun hm s hs => by
            by_cases e : s = k
            · subst e; exact hm
            · exact hno.out s (by omega)
          have Hnext := Lib.hid hnext
          clear hnext
          have ck := hto.bool (k := k) (by rw [toldL_len]; exact hkt)
          rw [toldL_get] at ck
          go_wp2_with fail
          refine (specBefore_any p ve k _ G.out.1 G.out.2.1 G.out.2.2.1 ((h.below hb).more hb.size)).mono ?_
          rintro e w3 ⟨v3, rfl, o3, b3⟩
          rw [HTn.out] at o3
          have ho := ho.below b3
          have hto := hto.below b3
          have D := D.below b3
          have hb := bnext hb b3
          clear x0 x1 x2 x3 x4 xs ck
          have hbl := beforeL_len (esOf p) T k
          have hbm : Hid (∀ x ∈ beforeL (esOf p) T k, x < T) := fun x hx => by simp [beforeL] at hx; exact hx.1
          generalize hB : beforeL (esOf p) T k = B at *
          have HB := Lib.hid hB
          clear hB
          obtain ⟨A3, c3, rfl, -⟩ := id (Rd.of_own o3)
          go_wp2
          go_loop [6, 8] (fun y i => ∃ j : Nat, j ≤ B.length ∧ i = .int .i64 j ∧ y = .bool (okUpto (orderL (esOf p) T n) B k j)) (fun _ i => B.length - (intOf i).toNat)
          case atStart => exact ⟨0, Nat.zero_le _, rfl, by simp [okUpto]⟩
          case round =>
            obtain ⟨j, hj, rfl, rfl⟩ := hrel
            by_cases hjt : j < B.length
            · have hjI : (j : Int) < (B.length : Int) := by omega
              have hun := Lib.hid (okUpto_succ (o := orderL (esOf p) T n) (t := k) hjt)
              cases hok : okUpto (orderL (esOf p) T n) B k j
              · have S := Lib.hid (show okUpto (orderL (esOf p) T n) B k (j + 1) = false by rw [hun.out, hok]; rfl)
                go_wp2
                exact ⟨⟨j + 1, by omega, by go_num, by rw [S.out]⟩, by simp [intOf]; omega⟩
              · have S := Lib.hid (show okUpto (orderL (esOf p) T n) B k (j + 1) = decide (B[j] ∈ orderL (esOf p) T n) by rw [hun.out, hok]; rfl)
                obtain ⟨g3, rfl, _, _⟩ := o3.some_ (by omega)
                have cB := o3.nat hjt
                have hBT : B[j] < T := hbm.out _ (List.getElem_mem hjt)
                have hBTI : (B[j] : Int) < (T : Int) := by omega
                have cT := hto.bool (k := B[j]) (by rw [toldL_len]; exact hBT)
                rw [toldL_get] at cT
                go_wp2
                exact ⟨⟨j + 1, by omega, by go_num, by rw [S.out]⟩, by simp [intOf]; omega⟩
            · have hjI : ¬ (j : Int) < (B.length : Int) := by omega
              have hj' : j = B.length := by omega
              subst hj'
              have hfin := Lib.hid (show okUpto (orderL (esOf p) T n) B k B.length = mayCome (esOf p) (orderL (esOf p) T n) k by rw [hmc.out, okUpto, List.take_length])
              cases hok : okUpto (orderL (esOf p) T n) B k B.length
              · have S := Hnext.out (by rw [← hfin.out, hok])
                go_wp2
                exact ⟨⟨k + 1, by omega, rfl, by go_num, S, ho, hto, D, hb⟩, by simp [intOf]; omega⟩
              · have S := Lib.hid (orderL_succ (pickT_first hkt (show mayCome (esOf p) (orderL (esOf p) T n) k = true by rw [← hfin.out, hok]) hno.out))
                have hcf := hto.free
                have ck := hto.bool (k := k) (by rw [toldL_len]; exact hkt)
                have hput := Ow.put hto (n := T) (toldL_len _ _) k hkt true
                rw [toldL_set] at hput
                simp only [boolE, Nat.mul_one] at hput
                have hto2 : Ow boolE 4 (w3.setCell ⟨w1.heap.size, k, none⟩ (.bool true)) (w.heap.size + 1) (.slice (some ⟨w1.heap.size, 0, none⟩) T T) (toldL T (orderL (esOf p) T n ++ [k])) := hput.1
                have ho2 : Ow natE 3 (w3.setCell ⟨w1.heap.size, k, none⟩ (.bool true)) (w.heap.size + 1) (.slice A n c) (orderL (esOf p) T n) := ho.grown hput.2 (ho.ne_ hto (by decide))
                have D2 : BoxAt w.heap.size p ve (w3.setCell ⟨w1.heap.size, k, none⟩ (.bool true)) := D.far hput.2 (by simp; omega)
                have hb2 : Below w.heap.size w (w3.setCell ⟨w1.heap.size, k, none⟩ (.bool true)) := hb.grown hput.2 hb.size (fun g' hg' => by simp at hg'; omega)
                have hsz2 : (w3.setCell ⟨w1.heap.size, k, none⟩ (.bool true)).heap.size = w3.heap.size := by simp [World.setCell]
                have Hsz2 := Lib.hid hsz2
                clear hput hsz2
                have ha : Hid (∀ w : World, Below w.heap.size w (w.alloc (.cells #[.int .i64 (k : Int)] 3))) := fun w => (Below.refl _ _).alloc (Nat.le_refl _) _
                have hDl := D.lt
                have Ho2 := Lib.hid ho2
                have Hto2 := Lib.hid hto2
                have HD2 := Lib.hid D2
                have Hb2 := Lib.hid hb2
                have Hwi := Lib.hid ho2.within
                clear ho2 hto2 D2 hb2
                go_wp2_with (at_builtin; refine wpList_push_all _ natE (by decide) rfl (.tmp 56) (.tmp 58) rfl Try.underlying50 hj0 jz0 jz1 jz2 rfl (l := orderL (esOf p) T n) rfl (Ho2.out.below (ha.out _)) rfl (Rd.one natE (w3.setCell ⟨w1.heap.size, k, none⟩ (.bool true)) _ k Hsz2.out.symm rfl 1 (Nat.le_refl _) (Nat.lt_succ_self _)) (by have := HL.out; omega) (by simp) (by decide) (by rw [World.size_alloc, Hsz2.out]; omega) ?_; intro v5 w5 o5 g5 hat5; obtain ⟨A5, c5, rfl, -⟩ := id (Rd.of_own o5))
                have D5 := (HD2.out.below (ha.out _)).far g5 (fun e => by have := Hwi.out _ e.symm; omega)
                have hb' := bnext Hb2.out (ha.out _)
                have W5 := hb'.grown g5 hb'.size (fun g hg => by have := Hwi.out _ hg; omega)
                have T5 := (Hto2.out.below (ha.out _)).grown g5 ((Hto2.out.below (ha.out _)).ne_ (Ho2.out.below (ha.out _)) (by decide))
                refine ⟨⟨n + 1, by omega, ?_, ?_, D5, W5⟩, ?_⟩
                · rw [S.out]
                  simpa using o5
                · rw [S.out]
                  exact T5
                · simp only [slen]
                  have := HL.out
                  first | omega | (simp; omega)
        · exfalso
          obtain ⟨t, _, ht, hm⟩ := pick_some he1.out hac'.out (exists_out (T := T) (o := orderL (esOf p) T n) (by rw [HL.out]; exact hlt))
          rw [hno.out t (by omega)] at hm
          cases hm
    · have hltI : ¬ (n : Int) < p.tasks := by rw [HT.out]; omega
      have hn' : n = T := by omega
      subst hn'
      go_wp2
      go_ret
      refine ⟨_, rfl, ?_, hb⟩
      rw [H.out]
      exact ho.more (by omega)
end Go.Proofs.Ytoccmpijfggmkaa
