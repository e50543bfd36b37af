/-
  slices.DeleteFunc at memos, with the closure of Heard. Written by program (df.py). Heard of the program and of the reference. Written by program (zc.py). The law FnExactHeard: its walk, out of the contracts of what it calls. Written by program (lawdeep.py).
-/
import Derived.Test.YtjobmbjadpldfaaGreatZHeard7
section
namespace Go.Proofs.YtjobmbjadpldfaaGreat
open Go.RowKit
set_option maxRecDepth 100000
set_option maxHeartbeats 2000000
set_option linter.unusedVariables false
set_option linter.unusedSimpArgs false

theorem setCells_wSeq (b : Nat) : ∀ (us : List Value) (o : Nat) (w : World), w.setCells b o us = wSeq w b o us
  | [], _, _ => rfl
  | u :: us, o, w => by rw [World.setCells, wSeq, setCells_wSeq b us (o + 1)]
theorem run_clear_cells {P : Program} (w : World) (t e ty : TypeId) (z : Value) (ht : P.underlying t = some (.slice e)) (hv : ∀ w, (zeroValue e).run P w = .ok z w) (b o n c : Nat) (hn : 0 < n) (h1 : ∀ v ∈ z.cells, v.oneCell' = true)
    (hc : ∀ j, j < n * z.cells.size → (w.cell? ⟨b, o + j, none⟩).isSome = true) (hf : ∀ j, w.frozen? ⟨b, j, none⟩ = false) :
    (Builtin.clear_ #[t] ty #[.slice (some ⟨b, o, none⟩) n c]).run P w = .ok (.tuple #[]) (wSeq w b o (Builtin.zeroCells z.cells n).toList) := by
  have hl : (Builtin.zeroCells z.cells n).toList.length = n * z.cells.size := by simp [Builtin.zeroCells]
  have hst := run_storeCells_cells (P := P) b o (Builtin.zeroCells z.cells n).toList 0 w (by rw [hl]; simpa using hc) (fun j _ => hf _) (by
    intro v hv'
    simp only [Builtin.zeroCells, Array.toList_map, Array.toList_range, List.mem_map, List.mem_range] at hv'
    obtain ⟨i, hi, rfl⟩ := hv'
    have hz : 0 < z.cells.size := Nat.pos_of_ne_zero (fun h => by rw [h] at hi; simp at hi)
    have hlt : i % z.cells.size < z.cells.size := Nat.mod_lt _ hz
    rw [getElem!_pos z.cells (i % z.cells.size) hlt]
    exact h1 _ (Array.getElem_mem hlt))
  simp only [Nat.add_zero] at hst
  obtain ⟨m, rfl⟩ : ∃ m, n = m + 1 := ⟨n - 1, by omega⟩
  rw [← setCells_wSeq]
  simp [Builtin.clear_, run_underlying ht, hv, hst]
/-- cells ahead of those that are written -/
theorem wSeq_cell_lt : ∀ (us : List Value) (w : World) (b i o : Nat), o < i → (wSeq w b i us).cell? ⟨b, o, none⟩ = w.cell? ⟨b, o, none⟩
  | [], _, _, _, _, _ => rfl
  | u :: us, w, b, i, o, h => by
    rw [wSeq, wSeq_cell_lt us _ b (i + 1) o (by omega)]
    exact World.cell?_setCell_other _ _ _ _ (fun e => by injection e with _ h2 _; omega)
theorem Rd.clear {α : Type} {e : Enc α} {w : World} {B b o n c : Nat} {l : List α} (h : Rd e w B (.slice (some ⟨b, o, none⟩) n c) l) (k : Nat) (hk : k ≤ l.length) (us : List Value) : Rd e (wSeq w b (o + k * e.sz) us) B (.slice (some ⟨b, o, none⟩) k c) (l.take k) := by
  have h1 := h.take hk c (by have := h.cap; omega)
  obtain ⟨A', c', hv, hcap, hA⟩ := h1
  simp only [Value.slice.injEq] at hv
  obtain ⟨rfl, hlen, rfl⟩ := hv
  have h2 : (l.take k).length = k := by rw [List.length_take, Nat.min_eq_left hk]
  refine ⟨_, c, by rw [h2], by omega, fun hl => ?_⟩
  obtain ⟨b', o', he, hlt, hc⟩ := hA hl
  simp only [Option.some.injEq, Addr.mk.injEq, and_true] at he
  obtain ⟨rfl, rfl⟩ := he
  refine ⟨b, o, rfl, hlt, fun i hi j u hu => ?_⟩
  have hj : j < e.sz := by
    have := (List.getElem?_eq_some_iff.1 hu).1
    rwa [e.len] at this
  rw [wSeq_cell_lt _ _ _ _ _ (by
    have : (i + 1) * e.sz ≤ k * e.sz := Nat.mul_le_mul_right _ (by omega)
    rw [Nat.succ_mul] at this
    omega)]
  exact hc i hi j u hu
theorem Rd.some_ {α : Type} {e : Enc α} {w : World} {B b o n c : Nat} {l : List α} (h : Rd e w B (.slice (some ⟨b, o, none⟩) n c) l) (hsz : 0 < e.sz) (q : Nat) (hq : q < l.length * e.sz) : (w.cell? ⟨b, o + q, none⟩).isSome = true := by
  obtain ⟨A', c', hv, hcap, hA⟩ := h
  simp only [Value.slice.injEq] at hv
  obtain ⟨rfl, hlen, rfl⟩ := hv
  have hk : q / e.sz < l.length := Nat.div_lt_of_lt_mul (by rw [Nat.mul_comm]; exact hq)
  have hj : q % e.sz < e.sz := Nat.mod_lt _ hsz
  have hij : q / e.sz * e.sz + q % e.sz = q := by rw [Nat.mul_comm]; exact Nat.div_add_mod _ _
  obtain ⟨b', o', he, hlt, hc⟩ := hA (Nat.lt_of_le_of_lt (Nat.zero_le _) hk)
  simp only [Option.some.injEq, Addr.mk.injEq, and_true] at he
  obtain ⟨rfl, rfl⟩ := he
  have hjl : q % e.sz < (e.cells l[q / e.sz]).length := by rw [e.len]; exact hj
  have := hc (q / e.sz) hk (q % e.sz) _ (List.getElem?_eq_getElem hjl)
  rw [Nat.add_assoc, hij] at this
  rw [this]
  rfl
theorem Hw.of_rd {α : Type} {e : Enc α} {w : World} {b o n c : Nat} {l : List α} (h : Rd e w w.heap.size (.slice (some ⟨b, o, none⟩) n c) l) (hf : ∀ j, w.frozen? ⟨b, j, none⟩ = false) : Hw e w (blocks (.slice (some ⟨b, o, none⟩) n c) l.length) (.slice (some ⟨b, o, none⟩) n c) l := by
  refine ⟨h, rfl, fun g hg j => ?_⟩
  have := blocks_sub _ _ _ hg
  have : b = g := by simpa [Value.ownBlock] using this
  subst this
  exact hf j
/-- what a deletion in place answers -/
def DelPost {α : Type} (e : Enc α) (A : Option Addr) (c : Nat) (F : List Nat) (l : List α) (w : World) (en : Ending) (w' : World) : Prop :=
  ∃ k F', en = .returned (.slice A k c) ∧ Hw e w' F' (.slice A k c) l ∧ (∀ b ∈ F', b ∈ F) ∧ Chg F w w'
/-- a list whose first elements are those of another one that are kept -/
structure Kept {α : Type} (p : α → Bool) (l M : List α) (i j : Nat) : Prop where
  len : M.length = l.length
  head : M.take i = (l.take j).filter fun x => !p x
  tail : ∀ t (h : t < l.length) (h' : t < M.length), j ≤ t → M[t] = l[t]
theorem Kept.lt {α : Type} {p : α → Bool} {l M : List α} {i j : Nat} (h : Kept p l M i j) (hi : i ≤ M.length) (hj : j ≤ l.length) : i ≤ j := by
  have := congrArg List.length h.head
  rw [List.length_take, Nat.min_eq_left hi] at this
  have h2 := List.length_filter_le (fun x => !p x) (l.take j)
  rw [List.length_take, Nat.min_eq_left hj] at h2
  omega
theorem Kept.drop {α : Type} {p : α → Bool} {l M : List α} {i j : Nat} (h : Kept p l M i j) (hj : j < l.length) (hp : p l[j] = true) : Kept p l M i (j + 1) := by
  refine ⟨h.len, ?_, fun t ht ht' htj => h.tail t ht ht' (by omega)⟩
  rw [h.head, take_snoc l j hj, List.filter_append]
  simp [hp]
theorem Kept.keep {α : Type} {p : α → Bool} {l M : List α} {i j : Nat} (h : Kept p l M i j) (hj : j < l.length) (hi : i < j) (hp : p l[j] = false) : Kept p l (M.set i l[j]) (i + 1) (j + 1) := by
  have hl := h.len
  refine ⟨by rw [List.length_set]; exact h.len, ?_, fun t ht ht' htj => ?_⟩
  · rw [take_snoc l j hj, List.filter_append, ← h.head, take_snoc _ i (by rw [List.length_set]; omega), List.getElem_set_self, List.take_set_of_le (Nat.le_refl _)]
    simp [hp]
  · rw [List.getElem_set_ne (by omega)]
    exact h.tail t ht (by rw [List.length_set] at ht'; exact ht') (by omega)
theorem kept_start {α : Type} {p : α → Bool} {l : List α} {k : Nat} (hk : k < l.length) (h : ∀ j (hj : j < l.length), j < k → p l[j] = false) (hp : p l[k] = true) : Kept p l l k (k + 1) := by
  refine ⟨rfl, ?_, fun t _ _ _ => rfl⟩
  rw [take_snoc l k hk, List.filter_append]
  have : (l.take k).filter (fun x => !p x) = l.take k := List.filter_eq_self.2 (fun x hx => by
    obtain ⟨j, hj, rfl⟩ := List.getElem_of_mem hx
    rw [List.length_take] at hj
    rw [List.getElem_take]
    simp [h j (by omega) (by omega)])
  rw [this]
  simp [hp]
theorem kept_all {α : Type} {p : α → Bool} {l : List α} (h : ∀ j (hj : j < l.length), p l[j] = false) : (l.filter fun x => !p x) = l := List.filter_eq_self.2 (fun x hx => by
  obtain ⟨j, hj, rfl⟩ := List.getElem_of_mem hx
  simp [h j hj])


theorem deleteMemo_any (l : List Memo) (A : Option Addr) (n c : Nat) (F : List Nat) (p : Nat) (u : Int) (w : World) (hl : l.length ≤ 2000000)
    (hdel : ∀ (W : World) (x : Memo), Chg F w W → Calls Tryz.prog 46 #[memoW x (), .pointer (some ⟨p, 0, none⟩)] W fun e w' => e = .returned (.bool ((heardP u) x)) ∧ Below W.heap.size W w')
    (hidx : Calls Tryz.prog 78 #[.slice A n c, .func (.func 46) #[] #[.pointer (some ⟨p, 0, none⟩)]] w fun e w' => e = .returned (.int .i64 (idxOf (heardP u) l)) ∧ Below w.heap.size w w')
    (h : Hw mmoE w F (.slice A n c) l) :
    Calls Tryz.prog 45 #[.slice A n c, .func (.func 46) #[] #[.pointer (some ⟨p, 0, none⟩)]] w (DelPost mmoE A c F (l.filter fun x => !(heardP u) x) w) := by
  obtain rfl : n = l.length := by obtain ⟨A', c', hv, _⟩ := h.1; simp only [Value.slice.injEq] at hv; exact hv.2.1
  have HDel := Lib.hid hdel
  clear hdel
  rcases idxOf_range (heardP u) l with hr | ⟨k, hk, hr⟩
  · have HN : Hid (∀ j (hj : j < l.length), (heardP u) l[j] = false) := fun j hj => by
      cases hp : (heardP u) l[j] with
      | false => rfl
      | true => exact absurd (idxOf_any.2 ⟨_, List.getElem_mem hj, hp⟩) (by omega)
    rw [hr] at hidx
    clear hr
    go_enter Tryz.func45, Tryz.ntmps45
    go_wp2_with fail
    refine hidx.mono ?_
    rintro e w1 ⟨rfl, b1⟩
    go_wp2
    go_ret
    exact ⟨l.length, F, rfl, by rw [kept_all HN.out]; exact h.below b1, fun b hb => hb, Chg.of_below F b1⟩
  have HK := Lib.hid (show Kept (heardP u) l l k (k + 1) from by
    obtain ⟨h1, h2⟩ : (∀ j (hj : j < l.length), j < k → (heardP u) l[j] = false) ∧ (heardP u) l[k] = true := by
      unfold idxOf at hr
      cases hf : l.findIdx? (heardP u) with
      | none => rw [hf] at hr; simp only at hr; omega
      | some i =>
        rw [hf] at hr
        simp only at hr
        obtain ⟨hi, hp, hb⟩ := List.findIdx?_eq_some_iff_getElem.1 hf
        obtain rfl : i = k := by omega
        exact ⟨fun j hj hjk => by simpa using hb j hjk, hp⟩
    exact kept_start hk h1 h2)
  obtain ⟨b, o, rfl, rfl, hb, hfr⟩ := h.at_ (by omega)
  have HRd := h.rd
  clear h
  rw [hr] at hidx
  clear hr
  have hm1 : ((k : Int) == -1) = false := beq_eq_false_iff_ne.2 (by omega)
  go_enter Tryz.func45, Tryz.ntmps45
  go_wp2_with fail
  refine hidx.mono ?_
  rintro e w1 ⟨rfl, b1⟩
  have HR1 := (HRd.below b1).more b1.size
  have hf1 : ∀ j, w1.frozen? ⟨b, j, none⟩ = false := fun j => (b1.frozen (p := ⟨b, j, none⟩) hb).trans (hfr j)
  have C1 := Chg.of_below [b] b1
  go_wp2
  clear hm1
  go_loopw [5, 6] (fun vi vj wr => ∃ (i j : Nat) (M : List Memo), i < j ∧ j ≤ l.length ∧ vi = .int .i64 i ∧ vj = .int .i64 j ∧ Hid (Kept (heardP u) l M i j) ∧ Rd mmoE wr wr.heap.size (.slice (some ⟨b, o, none⟩) l.length c) M ∧ Hid (∀ t, wr.frozen? ⟨b, t, none⟩ = false) ∧ Chg [b] w wr) (fun _ vj _ => l.length - (intOf vj).toNat)
  case atStart => exact ⟨k, k + 1, l, Nat.lt_succ_self _, hk, rfl, by go_num, HK, HR1, hf1, C1⟩
  case round =>
    clear HR1 hf1 C1 HK b1 HRd hfr hk
    obtain ⟨i, j, M, hij, hj, rfl, rfl, hK, hR, hF, hC⟩ := hrel
    have hML := hK.out.len
    have hbs : b < wr.heap.size := Nat.lt_of_lt_of_le hb hC.size
    by_cases hlt : j < l.length
    · have hltI : (j : Int) < (l.length : Int) := by omega
      have hiI : (i : Int) < (l.length : Int) := by omega
      obtain ⟨b', o', hA, _, d0, d1, d2, d3, d4⟩ := hR.memo_ (k := j) (by omega)
      simp only [Option.some.injEq, Addr.mk.injEq, and_true] at hA
      obtain ⟨rfl, rfl⟩ := hA
      have hMj := hK.out.tail j hlt (by omega) (Nat.le_refl _)
      rw [hMj] at d0 d1 d2 d3 d4
      clear hMj
      have ha := (Below.refl wr.heap.size wr).alloc (Nat.le_refl _) (.cells #[.int .i64 l[j].id, .int .i64 l[j].reply.code, .int .i64 l[j].reply.run, .int .i64 l[j].reply.task, .int .i64 l[j].reply.try_] 61)
      have V := DBox.new 61 [.int .i64 l[j].id, .int .i64 l[j].reply.code, .int .i64 l[j].reply.run, .int .i64 l[j].reply.task, .int .i64 l[j].reply.try_] wr rfl
      have C := HDel.out _ l[j] (hC.trans (Chg.of_below [b] ha))
      have HMl := Lib.hid hML
      clear hML
      cases q : (heardP u) l[j]
      · have S := Lib.hid (hK.out.keep hlt hij q)
        rw [q] at C
        go_wp2_with fail
        refine C.mono ?_
        rintro e w3 ⟨rfl, b3⟩
        replace V := V.below b3
        have ha3 := bnext ha b3
        have V_0 := V.cell 0 _ rfl
        have V_1 := V.cell 1 _ rfl
        have V_2 := V.cell 2 _ rfl
        have V_3 := V.cell 3 _ rfl
        have V_4 := V.cell 4 _ rfl
        have V_l := V.lt
        have R3 := (hR.below ha3).more ha3.size
        have F3 : ∀ t, w3.frozen? ⟨b, t, none⟩ = false := fun t => (ha3.frozen (p := ⟨b, t, none⟩) hbs).trans (hF.out t)
        obtain ⟨b', o', hA, hb3, f0, f1, f2, f3, f4⟩ := R3.memo_ (k := i) (by rw [HMl.out]; omega)
        simp only [Option.some.injEq, Addr.mk.injEq, and_true] at hA
        obtain ⟨rfl, rfl⟩ := hA
        have R4 := Lib.hid (R3.part i (by rw [HMl.out]; omega) l[j] 0 (mmoE.cells l[j]) (by rw [mmoE.len]; omega) (fun t ht => by rw [Nat.zero_add]; exact List.getElem?_eq_getElem ht) (fun t ht h => by rw [mmoE.len] at h; omega))
        go_wp2
        have hw : wSeq w3 b (o + i * mmoE.sz + 0) (mmoE.cells l[j]) = (((((w3.setCell ⟨b, o + i * 5, none⟩ (.int .i64 l[j].id)).setCell ⟨b, o + i * 5 + 1, none⟩ (.int .i64 l[j].reply.code)).setCell ⟨b, o + i * 5 + 2, none⟩ (.int .i64 l[j].reply.run)).setCell ⟨b, o + i * 5 + 3, none⟩ (.int .i64 l[j].reply.task)).setCell ⟨b, o + i * 5 + 4, none⟩ (.int .i64 l[j].reply.try_)) := rfl
        have R5 := R4.out
        have C4 := wSeq_chg (mmoE.cells l[j]) w3 b (o + i * mmoE.sz + 0)
        have Z4 := wSeq_size (mmoE.cells l[j]) w3 b (o + i * mmoE.sz + 0)
        have F4 : ∀ t, (wSeq w3 b (o + i * mmoE.sz + 0) (mmoE.cells l[j])).frozen? ⟨b, t, none⟩ = false := fun t => by rw [wSeq_frozen]; exact F3 t
        rw [hw] at R5 C4 Z4 F4
        have C5 := (hC.trans (Chg.of_below [b] ha3)).trans C4
        have R6 := R5.more (Nat.le_of_eq Z4.symm)
        first
          | exact ⟨⟨i + 1, by omega, j + 1, by omega, by go_num, by go_num, _, S, R6, F4, C5⟩, by simp [intOf]; omega⟩
          | exact ⟨⟨i + 1, j + 1, _, by omega, by omega, by go_num, by go_num, S, R6, F4, C5⟩, by simp [intOf]; omega⟩
          | (refine ⟨?_, by simp [intOf]; omega⟩; (repeat apply Exists.intro); first | exact ⟨⟨i + 1, j + 1, _, by omega, by omega, by go_num, by go_num, S, R6, F4, C5⟩, rfl⟩ | exact ⟨⟨i + 1, j + 1, _, by omega, by omega, by go_num, by go_num, S, R6, F4, C5⟩, rfl, rfl⟩ | exact ⟨⟨i + 1, j + 1, _, by omega, by omega, by go_num, by go_num, S, R6, F4, C5⟩, rfl, rfl, rfl⟩ | exact ⟨⟨i + 1, j + 1, _, by omega, by omega, by go_num, by go_num, S, R6, F4, C5⟩, rfl, rfl, rfl, rfl⟩ | exact ⟨⟨i + 1, j + 1, _, by omega, by omega, by go_num, by go_num, S, R6, F4, C5⟩, rfl, rfl, rfl, rfl, rfl⟩ | exact ⟨⟨i + 1, j + 1, _, by omega, by omega, by go_num, by go_num, S, R6, F4, C5⟩, rfl, rfl, rfl, rfl, rfl, rfl⟩ | exact ⟨⟨i + 1, j + 1, _, by omega, by omega, by go_num, by go_num, S, R6, F4, C5⟩, rfl, rfl, rfl, rfl, rfl, rfl, rfl⟩)
      · have S := Lib.hid (hK.out.drop hlt q)
        rw [q] at C
        go_wp2_with fail
        refine C.mono ?_
        rintro e w3 ⟨rfl, b3⟩
        have ha3 := bnext ha b3
        have R3 := (hR.below ha3).more ha3.size
        have F3 : Hid (∀ t, w3.frozen? ⟨b, t, none⟩ = false) := fun t => (ha3.frozen (p := ⟨b, t, none⟩) hbs).trans (hF.out t)
        have C5 := hC.trans (Chg.of_below [b] ha3)
        go_wp2
        first
          | exact ⟨⟨i, j + 1, M, by omega, by omega, rfl, by go_num, S, R3, F3, C5⟩, by simp [intOf]; omega⟩
          | (refine ⟨?_, by simp [intOf]; omega⟩; (repeat apply Exists.intro); first | exact ⟨⟨i, j + 1, M, by omega, by omega, rfl, by go_num, S, R3, F3, C5⟩, rfl⟩ | exact ⟨⟨i, j + 1, M, by omega, by omega, rfl, by go_num, S, R3, F3, C5⟩, rfl, rfl⟩ | exact ⟨⟨i, j + 1, M, by omega, by omega, rfl, by go_num, S, R3, F3, C5⟩, rfl, rfl, rfl⟩ | exact ⟨⟨i, j + 1, M, by omega, by omega, rfl, by go_num, S, R3, F3, C5⟩, rfl, rfl, rfl, rfl⟩ | exact ⟨⟨i, j + 1, M, by omega, by omega, rfl, by go_num, S, R3, F3, C5⟩, rfl, rfl, rfl, rfl, rfl⟩ | exact ⟨⟨i, j + 1, M, by omega, by omega, rfl, by go_num, S, R3, F3, C5⟩, rfl, rfl, rfl, rfl, rfl, rfl⟩ | exact ⟨⟨i, j + 1, M, by omega, by omega, rfl, by go_num, S, R3, F3, C5⟩, rfl, rfl, rfl, rfl, rfl, rfl, rfl⟩)
    · have hltI : ¬ (j : Int) < (l.length : Int) := by omega
      have HH := Lib.hid (show M.take i = l.filter fun x => !(heardP u) x by rw [hK.out.head, List.take_of_length_le (by omega)])
      have hcl : l.length ≤ c := by have := hR.cap; omega
      have kz : ∀ w, (zeroValue 61).run Tryz.prog w = .ok (.agg #[.int .i64 0, .int .i64 0, .int .i64 0, .int .i64 0, .int .i64 0]) w := fun w => by
        obtain ⟨i0, hi0, hz0, hz1, hz2⟩ := info_parts mmoE_info
        simp [zeroValue, typeInfo, hi0, hz0]
      have kc := run_clear_cells (P := Tryz.prog) wr 35 61 0 (.agg #[.int .i64 0, .int .i64 0, .int .i64 0, .int .i64 0, .int .i64 0]) Tryz.underlying35 kz b (o + i * 5) (l.length - i) (c - i) (by omega) (fun v hv => by
          simp [Value.cells] at hv
          try subst hv
          rfl) (fun q hq => by
          have hq' : q < (l.length - i) * 5 := hq
          have := hR.some_ (by decide) (i * 5 + q) (by
            show _ < M.length * 5
            rw [hML]
            have h3 : l.length * 5 = i * 5 + (l.length - i) * 5 := by rw [← Nat.add_mul]; congr 1; omega
            omega)
          rw [Nat.add_assoc]
          exact this) hF.out
      go_wp2
      clear kc
      go_ret
      have Rc := hR.clear i (by omega) (Builtin.zeroCells #[.int .i64 0, .int .i64 0, .int .i64 0, .int .i64 0, .int .i64 0] (l.length - i)).toList
      rw [HH.out] at Rc
      have Cc := hC.trans (wSeq_chg (Builtin.zeroCells #[.int .i64 0, .int .i64 0, .int .i64 0, .int .i64 0, .int .i64 0] (l.length - i)).toList wr b (o + i * 5))
      have Rw := Hw.of_rd (Rc.more (Nat.le_of_eq (wSeq_size _ _ _ _).symm)) (fun t => by rw [wSeq_frozen]; exact hF.out t)
      refine ⟨i, _, rfl, Rw, fun x hx => ?_, Cc⟩
      have := blocks_sub _ _ _ hx
      have : b = x := by simpa [Value.ownBlock] using this
      simp [this]

end Go.Proofs.YtjobmbjadpldfaaGreat
end
section
namespace Go.Proofs.YtjobmbjadpldfaaGreat
open Go.RowKit
set_option maxRecDepth 100000
set_option maxHeartbeats 4000000
set_option linter.unusedVariables false
set_option linter.unusedSimpArgs false

def heardK (k : Desk) (u : Int) : Desk := ⟨k.yard, k.memos.filter fun m => !heardP u m, max k.fr (u + 1)⟩
open Classical in
noncomputable def heard (k : Desk) (u : Int) : Desk := if deskP k ∧ (0 ≤ u ∧ u ≤ 999999999) then heardK k u else k
theorem heard_yes {k : Desk} {u : Int} (h : deskP k) (hq : inB u 0 999999999 = true) : heard k u = heardK k u := by unfold heard; rw [if_pos ⟨h, inB_iff.1 hq⟩]
theorem heard_no {k : Desk} {u : Int} (h : ¬ (deskP k ∧ (0 ≤ u ∧ u ≤ 999999999))) : heard k u = k := by unfold heard; rw [if_neg h]
theorem heard_cnt (k : Desk) (u : Int) (h : cntDesk k ≤ 2000000) : cntDesk (heard k u) ≤ 2000000 := by
  unfold heard
  split
  · unfold cntDesk heardK at *
    simp only
    have h1 : cntL cntMemo (k.memos.filter fun m => !heardP u m) ≤ cntL cntMemo k.memos := by
      rw [cntL_zero (cnt := cntMemo) (fun _ => rfl) (k.memos.filter fun m => !heardP u m), cntL_zero (cnt := cntMemo) (fun _ => rfl) k.memos]
      exact List.length_filter_le _ _
    omega
  · exact h


theorem implHeard_own (k : Desk) (s : (Sl × Sl) × Sl) (u : Int) (w : World) (hm0 : cntDesk k ≤ 2000000) (h : deskD.rd w w.heap.size k s) :
    Calls Tryz.prog 21 #[deskW k s, .int .i64 u] w (OwnPost deskD deskW (heard k u) w) := by
  have HR := Lib.hid (show ∀ W, Below w.heap.size w W → deskD.rd W W.heap.size k s from fun W hW => deskD.rd_more (deskD.rd_below h hW) hW.size)
  obtain ⟨⟨⟨A1, n1, c1⟩, ⟨A2, n2, c2⟩⟩, ⟨A3, n3, c3⟩⟩ := s
  obtain rfl : n3 = k.memos.length := RdL.at1 (s := ⟨A3, n3, c3⟩) h.2
  have h3 : Rd mmoE w w.heap.size (.slice A3 k.memos.length c3) k.memos := memo_rd h.2
  have hll : k.memos.length ≤ 2000000 := Nat.le_trans (cntL_len cntMemo _) (by unfold cntDesk at hm0; omega)
  clear h
  have X := ((DBox.new 37 [.int .i64 k.yard.now, .int .i64 k.yard.seq, .slice A1 n1 c1, .slice A2 n2 c2, .slice A3 k.memos.length c3, .int .i64 k.fr] w (b := w.heap.size) rfl).below ((Below.refl _ _).alloc (Nat.le_refl _) (.cells #[.int .i64 u] 3))).below ((Below.refl _ _).alloc (Nat.le_refl _) (.cells #[.int .i64 0, .int .i64 0, .slice none 0 0, .slice none 0 0, .slice none 0 0, .int .i64 0] 37))
  have U := (DBox.new 3 [.int .i64 u] (w.alloc (.cells #[.int .i64 k.yard.now, .int .i64 k.yard.seq, .slice A1 n1 c1, .slice A2 n2 c2, .slice A3 k.memos.length c3, .int .i64 k.fr] 37)) (b := w.heap.size + 1) (by simp)).below ((Below.refl _ _).alloc (Nat.le_refl _) (.cells #[.int .i64 0, .int .i64 0, .slice none 0 0, .slice none 0 0, .slice none 0 0, .int .i64 0] 37))
  have Z := DBox.new 37 [.int .i64 0, .int .i64 0, .slice none 0 0, .slice none 0 0, .slice none 0 0, .int .i64 0] ((w.alloc (.cells #[.int .i64 k.yard.now, .int .i64 k.yard.seq, .slice A1 n1 c1, .slice A2 n2 c2, .slice A3 k.memos.length c3, .int .i64 k.fr] 37)).alloc (.cells #[.int .i64 u] 3)) (b := w.heap.size + 1 + 1) (by simp)
  have B0 : Below w.heap.size w (((w.alloc (.cells #[.int .i64 k.yard.now, .int .i64 k.yard.seq, .slice A1 n1 c1, .slice A2 n2 c2, .slice A3 k.memos.length c3, .int .i64 k.fr] 37)).alloc (.cells #[.int .i64 u] 3)).alloc (.cells #[.int .i64 0, .int .i64 0, .slice none 0 0, .slice none 0 0, .slice none 0 0, .int .i64 0] 37)) := by repeat (first | exact Below.refl _ _ | refine Below.alloc ?_ (by simp <;> omega) _)
  go_enter Tryz.func21, Tryz.ntmps21
  go_wp2_with fail
  generalize (((w.alloc (.cells #[.int .i64 k.yard.now, .int .i64 k.yard.seq, .slice A1 n1 c1, .slice A2 n2 c2, .slice A3 k.memos.length c3, .int .i64 k.fr] 37)).alloc (.cells #[.int .i64 u] 3)).alloc (.cells #[.int .i64 0, .int .i64 0, .slice none 0 0, .slice none 0 0, .slice none 0 0, .int .i64 0] 37)) = W at *
  have hW : w.heap.size + 3 ≤ W.heap.size := Z.lt
  refine (implCopyDesk_own k ((⟨A1, n1, c1⟩, ⟨A2, n2, c2⟩), ⟨A3, k.memos.length, c3⟩) W hm0 (HR.out _ B0)).mono ?_
  rintro e w1 ⟨s5, F, rfl, ⟨F1, F2, rfl, hnd, oy, om⟩, hge0, b1⟩
  have oy : yardD.ow w1 F1 k.yard s5.1 := oy
  have om : OwL memoD w1 F2 s5.2.v k.memos := om
  have hge : ∀ b ∈ F1 ++ F2, w.heap.size ≤ b := fun b hb => by have := hge0 b hb; omega
  have hge3 : ∀ b ∈ F1 ++ F2, w.heap.size + 3 ≤ b := fun b hb => by have := hge0 b hb; omega
  have hlt1 : ∀ b ∈ F1, b < w1.heap.size := yardD.ow_lt oy
  have hlt2 : ∀ b ∈ F2, b < w1.heap.size := om.lt
  clear hge0
  replace X := X.below b1
  replace Z := Z.below b1
  replace U := U.below b1
  replace B0 := bnext B0 b1
  have O := DBox.new 37 [.int .i64 k.yard.now, .int .i64 k.yard.seq, .slice s5.1.1.a s5.1.1.n s5.1.1.c, .slice s5.1.2.a s5.1.2.n s5.1.2.c, .slice s5.2.a s5.2.n s5.2.c, .int .i64 k.fr] w1 rfl
  have ha := (Below.refl w1.heap.size w1).alloc (Nat.le_refl _) (.cells #[.int .i64 k.yard.now, .int .i64 k.yard.seq, .slice s5.1.1.a s5.1.1.n s5.1.1.c, .slice s5.1.2.a s5.1.2.n s5.1.2.c, .slice s5.2.a s5.2.n s5.2.c, .int .i64 k.fr] 37)
  have X_0 := X.cell 0 _ rfl
  have X_1 := X.cell 1 _ rfl
  have X_2 := X.cell 2 _ rfl
  have X_3 := X.cell 3 _ rfl
  have X_4 := X.cell 4 _ rfl
  have X_5 := X.cell 5 _ rfl
  have X_l := X.lt
  have Z_0 := Z.cell 0 _ rfl
  have Z_1 := Z.cell 1 _ rfl
  have Z_2 := Z.cell 2 _ rfl
  have Z_3 := Z.cell 3 _ rfl
  have Z_4 := Z.cell 4 _ rfl
  have Z_5 := Z.cell 5 _ rfl
  have Z_l := Z.lt
  have U_0 := U.cell 0 _ rfl
  have U_l := U.lt
  have C1 := implDeskOk_own k ((⟨A1, n1, c1⟩, ⟨A2, n2, c2⟩), ⟨A3, k.memos.length, c3⟩) _ hm0 (HR.out _ (bnext B0 ha))
  have b1s := b1.size
  go_wp2_with fail
  refine C1.mono ?_
  rintro e w2 ⟨rfl, b2⟩
  have hb2 := bnext ha b2
  replace X := X.below hb2
  clear X_0 X_1 X_2 X_3 X_4 X_5 X_l
  have X_0 := X.cell 0 _ rfl
  have X_1 := X.cell 1 _ rfl
  have X_2 := X.cell 2 _ rfl
  have X_3 := X.cell 3 _ rfl
  have X_4 := X.cell 4 _ rfl
  have X_5 := X.cell 5 _ rfl
  have X_l := X.lt
  replace Z := Z.below hb2
  clear Z_0 Z_1 Z_2 Z_3 Z_4 Z_5 Z_l
  have Z_0 := Z.cell 0 _ rfl
  have Z_1 := Z.cell 1 _ rfl
  have Z_2 := Z.cell 2 _ rfl
  have Z_3 := Z.cell 3 _ rfl
  have Z_4 := Z.cell 4 _ rfl
  have Z_5 := Z.cell 5 _ rfl
  have Z_l := Z.lt
  replace U := U.below hb2
  clear U_0 U_l
  have U_0 := U.cell 0 _ rfl
  have U_l := U.lt
  replace O := O.below b2
  have O_0 := O.cell 0 _ rfl
  have O_1 := O.cell 1 _ rfl
  have O_2 := O.cell 2 _ rfl
  have O_3 := O.cell 3 _ rfl
  have O_4 := O.cell 4 _ rfl
  have O_5 := O.cell 5 _ rfl
  have O_l := O.lt
  replace oy := yardD.ow_below oy hb2
  replace om := om.below hb2
  replace B0 := bnext B0 hb2
  have Z_f := Z.free
  have O_f := O.free
  have hb2s := hb2.size
  by_cases p1 : deskP k
  case neg =>
    have H := Lib.hid (heard_no (u := u) (fun h => p1 h.1))
    rw [tf_false p1]
    clear p1
    go_wp2
    refine bodyPost_ret (v := deskW k s5) ?_ rfl ?_
    · simp [deskW, results, Tryz.results21, go_sem, Z_0, Z_1, Z_2, Z_3, Z_4, Z_5]
    · rw [H.out]
      refine ⟨s5, F1 ++ F2, rfl, ⟨F1, F2, rfl, hnd, ?_, ?_⟩, hge, ?_⟩
      · have hn : w.heap.size + 1 + 1 ∉ F1 := fun hm => by have := hge3 _ (List.mem_append_left _ hm); omega
        repeat (first | (with_reducible exact oy) | refine Dt.ow_set yardD ?_ hn _)
      · have hn : w.heap.size + 1 + 1 ∉ F2 := fun hm => by have := hge3 _ (List.mem_append_right _ hm); omega
        repeat (first | (with_reducible exact om) | refine OwL.set ?_ hn _)
      · repeat (first | (with_reducible exact B0) | refine Below.setCell ?_ (by first | (simp; done) | (simp; omega)) _)
  rw [tf_true p1]
  cases p2 : inB u 0 999999999
  case false =>
    have H := Lib.hid (heard_no (k := k) (u := u) (fun h => by have := inB_iff.2 h.2; rw [p2] at this; cases this))
    clear p1
    go_wp2_with (go_at_call 29; refine (within_any _ _ _ _).mono ?_; rintro e w' ⟨rfl, rfl⟩)
    refine bodyPost_ret (v := deskW k s5) ?_ rfl ?_
    · simp [deskW, results, Tryz.results21, go_sem, Z_0, Z_1, Z_2, Z_3, Z_4, Z_5]
    · rw [H.out]
      refine ⟨s5, F1 ++ F2, rfl, ⟨F1, F2, rfl, hnd, ?_, ?_⟩, hge, ?_⟩
      · have hn : w.heap.size + 1 + 1 ∉ F1 := fun hm => by have := hge3 _ (List.mem_append_left _ hm); omega
        repeat (first | (with_reducible exact oy) | refine Dt.ow_set yardD ?_ hn _)
      · have hn : w.heap.size + 1 + 1 ∉ F2 := fun hm => by have := hge3 _ (List.mem_append_right _ hm); omega
        repeat (first | (with_reducible exact om) | refine OwL.set ?_ hn _)
      · repeat (first | (with_reducible exact B0) | refine Below.setCell ?_ (by first | (simp; done) | (simp; omega)) _)
  have H := Lib.hid (heard_yes p1 p2)
  have hu := inB_iff.1 p2
  have hfr := p1.2.2.1
  clear p1
  have hpF : w.heap.size + 1 ∉ F2 := fun hm => by have := hge3 _ (List.mem_append_right _ hm); omega
  have hXF : w.heap.size ∉ F2 := fun hm => by have := hge3 _ (List.mem_append_right _ hm); omega
  have hZF : w.heap.size + 1 + 1 ∉ F2 := fun hm => by have := hge3 _ (List.mem_append_right _ hm); omega
  have hOF : w1.heap.size ∉ F2 := fun hm => by have := hlt2 _ hm; omega
  have HU := Lib.hid (show ∀ W, Chg F2 w2 W → W.cell? ⟨w.heap.size + 1, 0, none⟩ = some (.int .i64 u) ∧ w.heap.size + 1 < W.heap.size from fun W hW => ⟨(hW.cell (p := ⟨w.heap.size + 1, 0, none⟩) U_l hpF).trans U_0, Nat.lt_of_lt_of_le U_l hW.size⟩)
  have hHw := memo_hw om
  obtain ⟨s6, ⟨A5, n5, c5⟩⟩ := s5
  have Cd := deleteMemo_any k.memos A5 n5 c5 F2 (w.heap.size + 1) u w2 hll (fun W x hW => heard1_any x (w.heap.size + 1) u W (HU.out W hW).1 (HU.out W hW).2)
    (indexMemo_any k.memos A5 n5 c5 (w.heap.size + 1) u w2 hll hHw.rd U_0 U_l) hHw
  go_wp2_with (first | (go_at_call 29; refine (within_any _ _ _ _).mono ?_; rintro e w' ⟨rfl, rfl⟩) | (go_at_call 45; refine Cd.mono ?_; rintro e w3 ⟨q, F3, rfl, hw3, hsub, hC⟩; have X3 := X.chg hC hXF; have U3 := U.chg hC hpF; have Z3 := Z.chg hC hZF; have O3 := O.chg hC hOF; have x5 := X3.cell 5 _ rfl; have xl := X3.lt; have u0 := U3.cell 0 _ rfl; have ul := U3.lt; have z0 := Z3.cell 0 _ rfl; have z1 := Z3.cell 1 _ rfl; have z2 := Z3.cell 2 _ rfl; have z3 := Z3.cell 3 _ rfl; have z4 := Z3.cell 4 _ rfl; have z5 := Z3.cell 5 _ rfl; have zf := Z3.free; have zl := Z3.lt; have o0 := O3.cell 0 _ rfl; have o1 := O3.cell 1 _ rfl; have o2 := O3.cell 2 _ rfl; have o3 := O3.cell 3 _ rfl; have o4 := O3.cell 4 _ rfl; have o5 := O3.cell 5 _ rfl; have of := O3.free; have ol := O3.lt))
  have oy3 : yardD.ow w3 F1 k.yard s6 := Dt.ow_chg yardD (x := k.yard) (s := s6) oy hC (fun b hb hb' => by
    rw [List.nodup_append] at hnd
    exact hnd.2.2 b hb b hb' rfl)
  have om3 := memo_owl hw3
  have B3 : Below w.heap.size w w3 := B0.trans (hC.below (by omega) (fun x hx => hge x (List.mem_append_right _ hx)))
  refine bodyPost_ret (v := deskW (heardK k u) (s6, ⟨A5, q, c5⟩)) ?_ rfl ?_
  · simp [deskW, heardK, results, Tryz.results21, go_sem, z0, z1, z2, z3, z4, z5]
    try (rw [Int.max_def]; split <;> rfl)
  · rw [H.out]
    have hge' : ∀ b ∈ F1 ++ F3, w.heap.size + 3 ≤ b := fun b hb => by
      rcases List.mem_append.1 hb with hb | hb
      · exact hge3 _ (List.mem_append_left _ hb)
      · exact hge3 _ (List.mem_append_right _ (hsub _ hb))
    refine ⟨(s6, ⟨A5, q, c5⟩), F1 ++ F3, rfl, ⟨F1, F3, rfl, ?_, ?_, ?_⟩, fun b hb => by have := hge' b hb; omega, ?_⟩
    · rw [List.nodup_append] at hnd ⊢
      exact ⟨hnd.1, hw3.nodup, fun a ha b hb e => hnd.2.2 a ha b (hsub _ hb) e⟩
    · have hn : w.heap.size + 1 + 1 ∉ F1 := fun hm => by have := hge3 _ (List.mem_append_left _ hm); omega
      have hn2 : w1.heap.size ∉ F1 := fun hm => by have := hlt1 _ hm; omega
      show yardD.ow _ F1 k.yard s6
      repeat (first | (with_reducible exact oy3) | refine Dt.ow_set yardD ?_ (by first | exact hn | exact hn2) _)
    · have hn : w.heap.size + 1 + 1 ∉ F3 := fun hm => hZF (hsub _ hm)
      have hn2 : w1.heap.size ∉ F3 := fun hm => hOF (hsub _ hm)
      show OwL memoD _ F3 (.slice A5 q c5) (k.memos.filter fun m => !heardP u m)
      repeat (first | (with_reducible exact om3) | refine OwL.set ?_ (by first | exact hn | exact hn2) _)
    · repeat (first | (with_reducible exact B3) | refine Below.setCell ?_ (by first | (simp; done) | (simp; omega)) _)


theorem specHeard_own (k : Desk) (s : (Sl × Sl) × Sl) (u : Int) (w : World) (hm0 : cntDesk k ≤ 2000000) (h : deskD.rd w w.heap.size k s) :
    Calls Tryz.prog 20 #[deskW k s, .int .i64 u] w (OwnPost deskD deskW (heard k u) w) := by
  have HR := Lib.hid (show ∀ W, Below w.heap.size w W → deskD.rd W W.heap.size k s from fun W hW => deskD.rd_more (deskD.rd_below h hW) hW.size)
  obtain ⟨⟨⟨A1, n1, c1⟩, ⟨A2, n2, c2⟩⟩, ⟨A3, n3, c3⟩⟩ := s
  obtain rfl : n3 = k.memos.length := RdL.at1 (s := ⟨A3, n3, c3⟩) h.2
  have h3 : Rd mmoE w w.heap.size (.slice A3 k.memos.length c3) k.memos := memo_rd h.2
  have hll : k.memos.length ≤ 2000000 := Nat.le_trans (cntL_len cntMemo _) (by unfold cntDesk at hm0; omega)
  clear h
  have X := (DBox.new 37 [.int .i64 k.yard.now, .int .i64 k.yard.seq, .slice A1 n1 c1, .slice A2 n2 c2, .slice A3 k.memos.length c3, .int .i64 k.fr] w (b := w.heap.size) rfl).below ((Below.refl _ _).alloc (Nat.le_refl _) (.cells #[.int .i64 0, .int .i64 0, .slice none 0 0, .slice none 0 0, .slice none 0 0, .int .i64 0] 37))
  have Z := DBox.new 37 [.int .i64 0, .int .i64 0, .slice none 0 0, .slice none 0 0, .slice none 0 0, .int .i64 0] (w.alloc (.cells #[.int .i64 k.yard.now, .int .i64 k.yard.seq, .slice A1 n1 c1, .slice A2 n2 c2, .slice A3 k.memos.length c3, .int .i64 k.fr] 37)) (b := w.heap.size + 1) (by simp)
  have B0 : Below w.heap.size w ((w.alloc (.cells #[.int .i64 k.yard.now, .int .i64 k.yard.seq, .slice A1 n1 c1, .slice A2 n2 c2, .slice A3 k.memos.length c3, .int .i64 k.fr] 37)).alloc (.cells #[.int .i64 0, .int .i64 0, .slice none 0 0, .slice none 0 0, .slice none 0 0, .int .i64 0] 37)) := by repeat (first | exact Below.refl _ _ | refine Below.alloc ?_ (by simp <;> omega) _)
  go_enter Tryz.func20, Tryz.ntmps20
  go_wp2_with fail
  generalize ((w.alloc (.cells #[.int .i64 k.yard.now, .int .i64 k.yard.seq, .slice A1 n1 c1, .slice A2 n2 c2, .slice A3 k.memos.length c3, .int .i64 k.fr] 37)).alloc (.cells #[.int .i64 0, .int .i64 0, .slice none 0 0, .slice none 0 0, .slice none 0 0, .int .i64 0] 37)) = W at *
  have hW : w.heap.size + 2 ≤ W.heap.size := Z.lt
  refine (specCopyDesk_own k ((⟨A1, n1, c1⟩, ⟨A2, n2, c2⟩), ⟨A3, k.memos.length, c3⟩) W hm0 (HR.out _ B0)).mono ?_
  rintro e w1 ⟨s5, F, rfl, ⟨F1, F2, rfl, hnd, oy, om⟩, hge0, b1⟩
  have oy : yardD.ow w1 F1 k.yard s5.1 := oy
  have om : OwL memoD w1 F2 s5.2.v k.memos := om
  have hge : ∀ b ∈ F1 ++ F2, w.heap.size ≤ b := fun b hb => by have := hge0 b hb; omega
  have hge3 : ∀ b ∈ F1 ++ F2, w.heap.size + 2 ≤ b := fun b hb => by have := hge0 b hb; omega
  have hlt1 : ∀ b ∈ F1, b < w1.heap.size := yardD.ow_lt oy
  have hlt2 : ∀ b ∈ F2, b < w1.heap.size := om.lt
  clear hge0
  replace X := X.below b1
  replace Z := Z.below b1
  replace B0 := bnext B0 b1
  have O := DBox.new 37 [.int .i64 k.yard.now, .int .i64 k.yard.seq, .slice s5.1.1.a s5.1.1.n s5.1.1.c, .slice s5.1.2.a s5.1.2.n s5.1.2.c, .slice s5.2.a s5.2.n s5.2.c, .int .i64 k.fr] w1 rfl
  have ha := (Below.refl w1.heap.size w1).alloc (Nat.le_refl _) (.cells #[.int .i64 k.yard.now, .int .i64 k.yard.seq, .slice s5.1.1.a s5.1.1.n s5.1.1.c, .slice s5.1.2.a s5.1.2.n s5.1.2.c, .slice s5.2.a s5.2.n s5.2.c, .int .i64 k.fr] 37)
  have X_0 := X.cell 0 _ rfl
  have X_1 := X.cell 1 _ rfl
  have X_2 := X.cell 2 _ rfl
  have X_3 := X.cell 3 _ rfl
  have X_4 := X.cell 4 _ rfl
  have X_5 := X.cell 5 _ rfl
  have X_l := X.lt
  have Z_0 := Z.cell 0 _ rfl
  have Z_1 := Z.cell 1 _ rfl
  have Z_2 := Z.cell 2 _ rfl
  have Z_3 := Z.cell 3 _ rfl
  have Z_4 := Z.cell 4 _ rfl
  have Z_5 := Z.cell 5 _ rfl
  have Z_l := Z.lt
  have C1 := specDeskOk_own k ((⟨A1, n1, c1⟩, ⟨A2, n2, c2⟩), ⟨A3, k.memos.length, c3⟩) _ hm0 (HR.out _ (bnext B0 ha))
  have b1s := b1.size
  go_wp2_with fail
  refine C1.mono ?_
  rintro e w2 ⟨rfl, b2⟩
  have hb2 := bnext ha b2
  replace X := X.below hb2
  clear X_0 X_1 X_2 X_3 X_4 X_5 X_l
  have X_0 := X.cell 0 _ rfl
  have X_1 := X.cell 1 _ rfl
  have X_2 := X.cell 2 _ rfl
  have X_3 := X.cell 3 _ rfl
  have X_4 := X.cell 4 _ rfl
  have X_5 := X.cell 5 _ rfl
  have X_l := X.lt
  replace Z := Z.below hb2
  clear Z_0 Z_1 Z_2 Z_3 Z_4 Z_5 Z_l
  have Z_0 := Z.cell 0 _ rfl
  have Z_1 := Z.cell 1 _ rfl
  have Z_2 := Z.cell 2 _ rfl
  have Z_3 := Z.cell 3 _ rfl
  have Z_4 := Z.cell 4 _ rfl
  have Z_5 := Z.cell 5 _ rfl
  have Z_l := Z.lt
  replace O := O.below b2
  have O_0 := O.cell 0 _ rfl
  have O_1 := O.cell 1 _ rfl
  have O_2 := O.cell 2 _ rfl
  have O_3 := O.cell 3 _ rfl
  have O_4 := O.cell 4 _ rfl
  have O_5 := O.cell 5 _ rfl
  have O_l := O.lt
  replace oy := yardD.ow_below oy hb2
  replace om := om.below hb2
  replace B0 := bnext B0 hb2
  have Z_f := Z.free
  have O_f := O.free
  have hb2s := hb2.size
  by_cases p1 : deskP k
  case neg =>
    have H := Lib.hid (heard_no (u := u) (fun h => p1 h.1))
    rw [tf_false p1]
    clear p1
    go_wp2
    refine bodyPost_ret (v := deskW k s5) ?_ rfl ?_
    · simp [deskW, results, Tryz.results20, go_sem, Z_0, Z_1, Z_2, Z_3, Z_4, Z_5]
    · rw [H.out]
      refine ⟨s5, F1 ++ F2, rfl, ⟨F1, F2, rfl, hnd, ?_, ?_⟩, hge, ?_⟩
      · have hn : w.heap.size + 1 ∉ F1 := fun hm => by have := hge3 _ (List.mem_append_left _ hm); omega
        repeat (first | (with_reducible exact oy) | refine Dt.ow_set yardD ?_ hn _)
      · have hn : w.heap.size + 1 ∉ F2 := fun hm => by have := hge3 _ (List.mem_append_right _ hm); omega
        repeat (first | (with_reducible exact om) | refine OwL.set ?_ hn _)
      · repeat (first | (with_reducible exact B0) | refine Below.setCell ?_ (by first | (simp; done) | (simp; omega)) _)
  rw [tf_true p1]
  cases p2 : inB u 0 999999999
  case false =>
    have H := Lib.hid (heard_no (k := k) (u := u) (fun h => by have := inB_iff.2 h.2; rw [p2] at this; cases this))
    clear p1
    go_wp2_with (go_at_call 26; refine (l01In_any _ _ _ _).mono ?_; rintro e w' ⟨rfl, rfl⟩)
    refine bodyPost_ret (v := deskW k s5) ?_ rfl ?_
    · simp [deskW, results, Tryz.results20, go_sem, Z_0, Z_1, Z_2, Z_3, Z_4, Z_5]
    · rw [H.out]
      refine ⟨s5, F1 ++ F2, rfl, ⟨F1, F2, rfl, hnd, ?_, ?_⟩, hge, ?_⟩
      · have hn : w.heap.size + 1 ∉ F1 := fun hm => by have := hge3 _ (List.mem_append_left _ hm); omega
        repeat (first | (with_reducible exact oy) | refine Dt.ow_set yardD ?_ hn _)
      · have hn : w.heap.size + 1 ∉ F2 := fun hm => by have := hge3 _ (List.mem_append_right _ hm); omega
        repeat (first | (with_reducible exact om) | refine OwL.set ?_ hn _)
      · repeat (first | (with_reducible exact B0) | refine Below.setCell ?_ (by first | (simp; done) | (simp; omega)) _)
  have H := Lib.hid (heard_yes p1 p2)
  have hu := inB_iff.1 p2
  have hfr := p1.2.2.1
  clear p1
  have hZ1 : w.heap.size + 1 < w1.heap.size := by omega
  have wr1 : IntKind.i64.wrap (u + 1) = u + 1 := IntWalk.i64_in _ (by omega)
  obtain ⟨i0, hi0, iz0, iz1, iz2⟩ := info_parts mmoE_info
  have X_f := X.free
  have hO2 : w1.heap.size < w2.heap.size := O_l
  by_cases c1 : k.fr < u + 1
  · have HFr : Hid (u + 1 = max k.fr (u + 1)) := by show u + 1 = _; omega
    have c1' : k.fr < u + 1 := c1
    go_wp2
    have O5 : DBox w1.heap.size [.int .i64 k.yard.now, .int .i64 k.yard.seq, .slice s5.1.1.a s5.1.1.n s5.1.1.c, .slice s5.1.2.a s5.1.2.n s5.1.2.c, .slice (some ⟨w2.heap.size, 0, none⟩) 0 0, .int .i64 (u + 1)] (((w2.setCell ⟨w1.heap.size, 5, none⟩ (.int .i64 (u + 1))).setCell ⟨w1.heap.size, 4, none⟩ (.slice (some ⟨w2.heap.size, 0, none⟩) 0 0)).alloc (.cells #[] 61)) := (((O.set 5 (by simp) (.int .i64 (u + 1)))).set 4 (by simp) (.slice (some ⟨w2.heap.size, 0, none⟩) 0 0)).below ((Below.refl ((w2.setCell ⟨w1.heap.size, 5, none⟩ (.int .i64 (u + 1))).setCell ⟨w1.heap.size, 4, none⟩ (.slice (some ⟨w2.heap.size, 0, none⟩) 0 0)).heap.size ((w2.setCell ⟨w1.heap.size, 5, none⟩ (.int .i64 (u + 1))).setCell ⟨w1.heap.size, 4, none⟩ (.slice (some ⟨w2.heap.size, 0, none⟩) 0 0))).alloc (Nat.le_refl _) (.cells #[] 61))
    have X5 := ((X.setOther (a := ⟨w1.heap.size, 5, none⟩) (by show w.heap.size ≠ w1.heap.size; omega) (.int .i64 (u + 1))).setOther (a := ⟨w1.heap.size, 4, none⟩) (by show w.heap.size ≠ w1.heap.size; omega) (.slice (some ⟨w2.heap.size, 0, none⟩) 0 0)).below ((Below.refl ((w2.setCell ⟨w1.heap.size, 5, none⟩ (.int .i64 (u + 1))).setCell ⟨w1.heap.size, 4, none⟩ (.slice (some ⟨w2.heap.size, 0, none⟩) 0 0)).heap.size ((w2.setCell ⟨w1.heap.size, 5, none⟩ (.int .i64 (u + 1))).setCell ⟨w1.heap.size, 4, none⟩ (.slice (some ⟨w2.heap.size, 0, none⟩) 0 0))).alloc (Nat.le_refl _) (.cells #[] 61))
    have Z5 := ((Z.setOther (a := ⟨w1.heap.size, 5, none⟩) (by show w.heap.size + 1 ≠ w1.heap.size; omega) (.int .i64 (u + 1))).setOther (a := ⟨w1.heap.size, 4, none⟩) (by show w.heap.size + 1 ≠ w1.heap.size; omega) (.slice (some ⟨w2.heap.size, 0, none⟩) 0 0)).below ((Below.refl ((w2.setCell ⟨w1.heap.size, 5, none⟩ (.int .i64 (u + 1))).setCell ⟨w1.heap.size, 4, none⟩ (.slice (some ⟨w2.heap.size, 0, none⟩) 0 0)).heap.size ((w2.setCell ⟨w1.heap.size, 5, none⟩ (.int .i64 (u + 1))).setCell ⟨w1.heap.size, 4, none⟩ (.slice (some ⟨w2.heap.size, 0, none⟩) 0 0))).alloc (Nat.le_refl _) (.cells #[] 61))
    have hnO : w1.heap.size ∉ F1 := fun hm => by have := hlt1 _ hm; omega
    have oy5 : yardD.ow (((w2.setCell ⟨w1.heap.size, 5, none⟩ (.int .i64 (u + 1))).setCell ⟨w1.heap.size, 4, none⟩ (.slice (some ⟨w2.heap.size, 0, none⟩) 0 0)).alloc (.cells #[] 61)) F1 k.yard s5.1 := by
      refine yardD.ow_below (x := k.yard) (s := s5.1) ?_ ((Below.refl ((w2.setCell ⟨w1.heap.size, 5, none⟩ (.int .i64 (u + 1))).setCell ⟨w1.heap.size, 4, none⟩ (.slice (some ⟨w2.heap.size, 0, none⟩) 0 0)).heap.size ((w2.setCell ⟨w1.heap.size, 5, none⟩ (.int .i64 (u + 1))).setCell ⟨w1.heap.size, 4, none⟩ (.slice (some ⟨w2.heap.size, 0, none⟩) 0 0))).alloc (Nat.le_refl _) (.cells #[] 61))
      repeat (first | (with_reducible exact oy) | refine Dt.ow_set yardD ?_ hnO _)
    have E5 : Ow mmoE 61 (((w2.setCell ⟨w1.heap.size, 5, none⟩ (.int .i64 (u + 1))).setCell ⟨w1.heap.size, 4, none⟩ (.slice (some ⟨w2.heap.size, 0, none⟩) 0 0)).alloc (.cells #[] 61)) w2.heap.size (.slice (some ⟨w2.heap.size, 0, none⟩) 0 0) [] := Ow.empty mmoE 61 ((w2.setCell ⟨w1.heap.size, 5, none⟩ (.int .i64 (u + 1))).setCell ⟨w1.heap.size, 4, none⟩ (.slice (some ⟨w2.heap.size, 0, none⟩) 0 0)) (g := w2.heap.size) (by simp)
    have B5 : Below w.heap.size w (((w2.setCell ⟨w1.heap.size, 5, none⟩ (.int .i64 (u + 1))).setCell ⟨w1.heap.size, 4, none⟩ (.slice (some ⟨w2.heap.size, 0, none⟩) 0 0)).alloc (.cells #[] 61)) := by
      repeat (first | (with_reducible exact B0) | refine Below.setCell ?_ (by show w.heap.size ≤ w1.heap.size; omega) _ | refine Below.alloc ?_ (by simp <;> omega) _)
    have S5 : w2.heap.size ≤ (((w2.setCell ⟨w1.heap.size, 5, none⟩ (.int .i64 (u + 1))).setCell ⟨w1.heap.size, 4, none⟩ (.slice (some ⟨w2.heap.size, 0, none⟩) 0 0)).alloc (.cells #[] 61)).heap.size := by simp
    generalize (((w2.setCell ⟨w1.heap.size, 5, none⟩ (.int .i64 (u + 1))).setCell ⟨w1.heap.size, 4, none⟩ (.slice (some ⟨w2.heap.size, 0, none⟩) 0 0)).alloc (.cells #[] 61)) = W5 at *
    clear X_0 X_1 X_2 X_3 X_4 X_5 X_l X_f Z_0 Z_1 Z_2 Z_3 Z_4 Z_5 Z_l Z_f O_0 O_1 O_2 O_3 O_4 O_5 O_l O_f X Z O B0 oy om c1
    go_loopw [6] (fun i wr => ∃ (j : Nat) (v : Value), j ≤ k.memos.length ∧ i = .int .i64 j ∧ Hid (Ow mmoE 61 wr w2.heap.size v ((k.memos.take j).filter fun m => !heardP u m)) ∧ Hid (yardD.ow wr F1 k.yard s5.1) ∧ DBox w.heap.size [.int .i64 k.yard.now, .int .i64 k.yard.seq, .slice A1 n1 c1, .slice A2 n2 c2, .slice A3 k.memos.length c3, .int .i64 k.fr] wr ∧ DBox (w.heap.size + 1) [.int .i64 0, .int .i64 0, .slice none 0 0, .slice none 0 0, .slice none 0 0, .int .i64 0] wr ∧ DBox w1.heap.size [.int .i64 k.yard.now, .int .i64 k.yard.seq, .slice s5.1.1.a s5.1.1.n s5.1.1.c, .slice s5.1.2.a s5.1.2.n s5.1.2.c, v, .int .i64 (u + 1)] wr ∧ Below w.heap.size w wr ∧ w2.heap.size ≤ wr.heap.size) (fun i _ => k.memos.length - (intOf i).toNat)
    case atStart => exact ⟨0, _, Nat.zero_le _, rfl, E5, oy5, X5, Z5, O5, B5, S5⟩
    case round =>
      clear X5 Z5 O5 B5 E5 oy5 S5
      obtain ⟨j, v, hj, rfl, hE, hY, X, Z, O, hb, hsz⟩ := hrel
      have X_0 := X.cell 0 _ rfl
      have X_1 := X.cell 1 _ rfl
      have X_2 := X.cell 2 _ rfl
      have X_3 := X.cell 3 _ rfl
      have X_4 := X.cell 4 _ rfl
      have X_5 := X.cell 5 _ rfl
      have X_l := X.lt
      have O_0 := O.cell 0 _ rfl
      have O_1 := O.cell 1 _ rfl
      have O_2 := O.cell 2 _ rfl
      have O_3 := O.cell 3 _ rfl
      have O_4 := O.cell 4 _ rfl
      have O_5 := O.cell 5 _ rfl
      have O_l := O.lt
      have O_f := O.free
      by_cases hlt : j < k.memos.length
      · have hltI : (j : Int) < (k.memos.length : Int) := by omega
        obtain ⟨b, o, hA3, hbb, d0, d1, d2, d3, d4⟩ := (h3.below hb).memo_ hlt
        subst hA3
        have hs1 : b < wr.heap.size := Nat.lt_of_lt_of_le hbb hb.size
        have om5 := hE.out
        have Hf := Lib.hid (take_snoc k.memos j hlt)
        cases q : decide (u < k.memos[j].id)
        · have S : Hid (Ow mmoE 61 wr w2.heap.size v ((k.memos.take (j + 1)).filter fun m => !heardP u m)) := by
            show Ow _ _ _ _ _ _
            rw [Hf.out, List.filter_append]
            have : heardP u k.memos[j] = true := by unfold heardP; simp at q ⊢; exact q
            simp [this]
            exact om5
          go_wp2
          first
            | exact ⟨⟨j + 1, v, by omega, by go_num, S, hY, X, Z, O, hb, hsz⟩, by simp [intOf]; omega⟩
            | exact ⟨⟨j + 1, by omega, by simp, v, S, hY, X, Z, O, hb, hsz⟩, by simp [intOf]; omega⟩
            | (refine ⟨?_, by simp [intOf]; omega⟩; (repeat apply Exists.intro); first | exact ⟨⟨j + 1, v, by omega, by go_num, S, hY, X, Z, O, hb, hsz⟩, rfl⟩ | exact ⟨⟨j + 1, v, by omega, by go_num, S, hY, X, Z, O, hb, hsz⟩, rfl, rfl⟩ | exact ⟨⟨j + 1, v, by omega, by go_num, S, hY, X, Z, O, hb, hsz⟩, rfl, rfl, rfl⟩ | exact ⟨⟨j + 1, v, by omega, by go_num, S, hY, X, Z, O, hb, hsz⟩, rfl, rfl, rfl, rfl⟩ | exact ⟨⟨j + 1, v, by omega, by go_num, S, hY, X, Z, O, hb, hsz⟩, rfl, rfl, rfl, rfl, rfl⟩ | exact ⟨⟨j + 1, v, by omega, by go_num, S, hY, X, Z, O, hb, hsz⟩, rfl, rfl, rfl, rfl, rfl, rfl⟩ | exact ⟨⟨j + 1, v, by omega, by go_num, S, hY, X, Z, O, hb, hsz⟩, rfl, rfl, rfl, rfl, rfl, rfl, rfl⟩ | exact ⟨⟨j + 1, v, by omega, by go_num, S, hY, X, Z, O, hb, hsz⟩, rfl, rfl, rfl, rfl, rfl, rfl, rfl, rfl⟩ | exact ⟨⟨j + 1, v, by omega, by go_num, S, hY, X, Z, O, hb, hsz⟩, rfl, rfl, rfl, rfl, rfl, rfl, rfl, rfl, rfl⟩ | exact ⟨⟨j + 1, v, by omega, by go_num, S, hY, X, Z, O, hb, hsz⟩, rfl, rfl, rfl, rfl, rfl, rfl, rfl, rfl, rfl, rfl⟩ | exact ⟨⟨j + 1, v, by omega, by go_num, S, hY, X, Z, O, hb, hsz⟩, rfl, rfl, rfl, rfl, rfl, rfl, rfl, rfl, rfl, rfl, rfl⟩ | exact ⟨⟨j + 1, v, by omega, by go_num, S, hY, X, Z, O, hb, hsz⟩, rfl, rfl, rfl, rfl, rfl, rfl, rfl, rfl, rfl, rfl, rfl, rfl⟩ | exact ⟨⟨j + 1, v, by omega, by go_num, S, hY, X, Z, O, hb, hsz⟩, rfl, rfl, rfl, rfl, rfl, rfl, rfl, rfl, rfl, rfl, rfl, rfl, rfl⟩)
        · have hfl := List.length_filter_le (fun m => !heardP u m) (k.memos.take j)
          rw [List.length_take] at hfl
          have HL : Hid ((k.memos.take (j + 1)).filter (fun m => !heardP u m) = ((k.memos.take j).filter fun m => !heardP u m) ++ [k.memos[j]]) := by
            show _ = _
            rw [Hf.out, List.filter_append]
            have : heardP u k.memos[j] = false := by unfold heardP; simp at q ⊢; exact q
            simp [this]
          generalize ((k.memos.take j).filter fun m => !heardP u m) = Lj at *
          go_wp2
          refine wp_region_last (fun w' => w'.cell? ⟨w1.heap.size, 4, none⟩ = some v ∧ w'.cell? ⟨w.heap.size, 4, none⟩ = some (.slice (some ⟨b, o, none⟩) k.memos.length c3) ∧ w'.cell? ⟨b, o + j * 5, none⟩ = some (.int .i64 k.memos[j].id) ∧ w'.cell? ⟨b, o + j * 5 + 1, none⟩ = some (.int .i64 k.memos[j].reply.code) ∧ w'.cell? ⟨b, o + j * 5 + 2, none⟩ = some (.int .i64 k.memos[j].reply.run) ∧ w'.cell? ⟨b, o + j * 5 + 3, none⟩ = some (.int .i64 k.memos[j].reply.task) ∧ w'.cell? ⟨b, o + j * 5 + 4, none⟩ = some (.int .i64 k.memos[j].reply.try_)) 10 (by kernel_rfl) ?_ (fun hHeld => ?_)
          · exact ⟨by simpa [go_sem] using O_4, by simpa [go_sem] using X_4, by simpa [go_sem] using d0, by simpa [go_sem] using d1, by simpa [go_sem] using d2, by simpa [go_sem] using d3, by simpa [go_sem] using d4⟩
          refine wpAnyL_take (i := 0) (oi := _) (v := ?_) rfl (by kernel_rfl) (by kernel_rfl) (by kernel_rfl) (by kernel_rfl) (fun _ _ _ h => h) hHeld (Or.inl ⟨by rfl, ?_⟩) ?_
          rotate_left
          · intro w hSw
            (try dsimp only at hSw)
            go_simp
            all_goals with_reducible rfl
          try simp only [Act.put, List.setIfInBounds_toArray, List.set_cons_zero, List.set_cons_succ]
          refine wpAnyL_take (i := 1) (oi := _) (v := ?_) rfl (by kernel_rfl) (by kernel_rfl) (by kernel_rfl) (by kernel_rfl) (fun _ _ _ h => h) hHeld (Or.inl ⟨by rfl, ?_⟩) ?_
          rotate_left
          · intro w hSw
            (try dsimp only at hSw)
            go_simp
            all_goals with_reducible rfl
          try simp only [Act.put, List.setIfInBounds_toArray, List.set_cons_zero, List.set_cons_succ]
          refine wpAnyL_take (i := 2) (oi := _) (v := ?_) rfl (by kernel_rfl) (by kernel_rfl) (by kernel_rfl) (by kernel_rfl) (fun _ _ _ h => h) hHeld (Or.inl ⟨by rfl, ?_⟩) ?_
          rotate_left
          · intro w hSw
            (try dsimp only at hSw)
            go_simp
            all_goals with_reducible rfl
          try simp only [Act.put, List.setIfInBounds_toArray, List.set_cons_zero, List.set_cons_succ]
          refine wpAnyL_take (i := 3) (oi := _) (v := ?_) rfl (by kernel_rfl) (by kernel_rfl) (by kernel_rfl) (by kernel_rfl) (fun _ _ _ h => h) hHeld (Or.inl ⟨by rfl, ?_⟩) ?_
          rotate_left
          · intro w hSw
            (try dsimp only at hSw)
            go_simp
            all_goals with_reducible rfl
          try simp only [Act.put, List.setIfInBounds_toArray, List.set_cons_zero, List.set_cons_succ]
          refine wpAnyL_take (i := 4) (oi := _) (v := ?_) rfl (by kernel_rfl) (by kernel_rfl) (by kernel_rfl) (by kernel_rfl) (fun _ _ _ h => h) hHeld (Or.inl ⟨by rfl, ?_⟩) ?_
          rotate_left
          · intro w hSw
            (try dsimp only at hSw)
            go_simp
            all_goals with_reducible rfl
          try simp only [Act.put, List.setIfInBounds_toArray, List.set_cons_zero, List.set_cons_succ]
          refine wpAnyL_take (i := 5) (oi := _) (v := ?_) rfl (by kernel_rfl) (by kernel_rfl) (by kernel_rfl) (by kernel_rfl) (fun _ _ _ h => h) hHeld (Or.inl ⟨by rfl, ?_⟩) ?_
          rotate_left
          · intro w hSw
            (try dsimp only at hSw)
            go_simp
            all_goals with_reducible rfl
          try simp only [Act.put, List.setIfInBounds_toArray, List.set_cons_zero, List.set_cons_succ]
          refine wpAnyL_take (i := 6) (oi := _) (v := ?_) rfl (by kernel_rfl) (by kernel_rfl) (by kernel_rfl) (by kernel_rfl) (fun _ _ _ h => h) hHeld (Or.inl ⟨by rfl, ?_⟩) ?_
          rotate_left
          · intro w hSw
            (try dsimp only at hSw)
            go_simp
            all_goals with_reducible rfl
          try simp only [Act.put, List.setIfInBounds_toArray, List.set_cons_zero, List.set_cons_succ]
          refine wpAnyL_one (i := 7) (o := _) rfl (by kernel_rfl) (fun K hK => ?_)
          go_simp
          refine hK.out _ _ (fun _ => ?_) ?_
          · (refine ⟨?_, ?_, ?_, ?_, ?_, ?_, ?_⟩ <;> first | assumption | go_keep)
          clear hK K
          try simp only [Act.put, List.setIfInBounds_toArray, List.set_cons_zero, List.set_cons_succ]
          refine wpAnyL_one (i := 8) (o := _) rfl (by kernel_rfl) (fun K hK => ?_)
          (refine step_push_all _ mmoE (by decide) (by rfl) (.tmp 44) (.tmp 50) (by rfl) Tryz.underlying35 hi0 iz0 iz1 iz2 (by rfl) (v := v) (l := Lj) (by rfl) (om5.below ((Below.refl wr.heap.size wr).drew.alloc (by simp) _)) (by rfl) (Rd.one mmoE _ _ k.memos[j] (by simp) rfl 1 (Nat.le_refl _) (Nat.lt_succ_self _)) (by omega) (by simp) (by decide) (by simp; omega) ?_; intro v5 w5 o5 g5 f5; obtain ⟨A9, c9, rfl, -⟩ := id (Rd.of_own o5); simp only [List.length_append, List.length_singleton] at o5 f5; have ha5 : Below wr.heap.size wr _ := (Below.refl wr.heap.size wr).drew.alloc (by simp) (.cells #[.int .i64 k.memos[j].id, .int .i64 k.memos[j].reply.code, .int .i64 k.memos[j].reply.run, .int .i64 k.memos[j].reply.task, .int .i64 k.memos[j].reply.try_] 61); have O9 := (O.below ha5).off g5 (fun e => by have := om5.within _ e.symm; omega); have X9 := (X.below ha5).off g5 (fun e => by have := om5.within _ e.symm; omega); have m0 : w5.cell? ⟨w1.heap.size, 4, none⟩ = some v := O9.cell 4 _ rfl; have m1 : w5.cell? ⟨w.heap.size, 4, none⟩ = some (.slice (some ⟨b, o, none⟩) k.memos.length c3) := X9.cell 4 _ rfl; have r0 : w5.cell? ⟨b, o + j * 5, none⟩ = some (.int .i64 k.memos[j].id) := (g5.cell_far ⟨b, o + j * 5, none⟩ (by simp; omega) (fun e => by have : _ ≤ b ∧ b < _ := om5.within _ e.symm; omega)).trans ((ha5.cell (p := ⟨b, o + j * 5, none⟩) (by show b < _; omega)).trans d0); have r1 : w5.cell? ⟨b, o + j * 5 + 1, none⟩ = some (.int .i64 k.memos[j].reply.code) := (g5.cell_far ⟨b, o + j * 5 + 1, none⟩ (by simp; omega) (fun e => by have : _ ≤ b ∧ b < _ := om5.within _ e.symm; omega)).trans ((ha5.cell (p := ⟨b, o + j * 5 + 1, none⟩) (by show b < _; omega)).trans d1); have r2 : w5.cell? ⟨b, o + j * 5 + 2, none⟩ = some (.int .i64 k.memos[j].reply.run) := (g5.cell_far ⟨b, o + j * 5 + 2, none⟩ (by simp; omega) (fun e => by have : _ ≤ b ∧ b < _ := om5.within _ e.symm; omega)).trans ((ha5.cell (p := ⟨b, o + j * 5 + 2, none⟩) (by show b < _; omega)).trans d2); have r3 : w5.cell? ⟨b, o + j * 5 + 3, none⟩ = some (.int .i64 k.memos[j].reply.task) := (g5.cell_far ⟨b, o + j * 5 + 3, none⟩ (by simp; omega) (fun e => by have : _ ≤ b ∧ b < _ := om5.within _ e.symm; omega)).trans ((ha5.cell (p := ⟨b, o + j * 5 + 3, none⟩) (by show b < _; omega)).trans d3); have r4 : w5.cell? ⟨b, o + j * 5 + 4, none⟩ = some (.int .i64 k.memos[j].reply.try_) := (g5.cell_far ⟨b, o + j * 5 + 4, none⟩ (by simp; omega) (fun e => by have : _ ≤ b ∧ b < _ := om5.within _ e.symm; omega)).trans ((ha5.cell (p := ⟨b, o + j * 5 + 4, none⟩) (by show b < _; omega)).trans d4); have fO := O9.free; have lO := O9.lt)
          refine hK.out _ _ (fun _ => ?_) ?_
          · exact ⟨m0, m1, r0, r1, r2, r3, r4⟩
          clear hK K
          try simp only [Act.put, List.setIfInBounds_toArray, List.set_cons_zero, List.set_cons_succ]
          refine wpAnyL_one (i := 9) (o := _) rfl (by kernel_rfl) (fun K hK => ?_)
          go_simp
          refine hK.out _ _ (fun _ => ?_) ?_
          · exact ⟨m0, m1, r0, r1, r2, r3, r4⟩
          clear hK K
          try simp only [Act.put, List.setIfInBounds_toArray, List.set_cons_zero, List.set_cons_succ]
          refine wpAnyL_one (i := 10) (o := _) rfl (by kernel_rfl) (fun K hK => ?_)
          go_simp
          refine hK.out _ _ (fun hne => absurd rfl hne) ?_
          clear hK K
          try simp only [Act.put, List.setIfInBounds_toArray, List.set_cons_zero, List.set_cons_succ]
          refine wpAnyL_done (by kernel_rfl) ?_ _
          go_wp2
          have Z9 := (Z.below ha5).off g5 (fun e => by have := om5.within _ e.symm; omega)
          have oy9 : yardD.ow w5 F1 k.yard s5.1 := yardD.ow_keep (x := k.yard) (s := s5.1) (yardD.ow_below (x := k.yard) (s := s5.1) hY.out ha5) g5.size (fun b' hb' => g5.block b' (by have := hlt1 b' hb'; simp; omega) (fun e => by have := om5.within _ e.symm; have := hlt1 b' hb'; omega))
          have W9 := (hb.trans (ha5.mono hb.size)).grown g5 (by simp; omega) (fun g hg => by have := om5.within g hg; omega)
          have S : Hid (Ow mmoE 61 (w5.setCell ⟨w1.heap.size, 4, none⟩ (.slice A9 (Lj.length + 1) c9)) w2.heap.size (.slice A9 (Lj.length + 1) c9) ((k.memos.take (j + 1)).filter fun m => !heardP u m)) := by
            show Ow _ _ _ _ _ _
            rw [HL.out]
            exact o5.setOther (a := ⟨w1.heap.size, 4, none⟩) (fun e => by have : _ ≤ w1.heap.size ∧ _ := o5.within _ e; omega) _
          have SY : Hid (yardD.ow (w5.setCell ⟨w1.heap.size, 4, none⟩ (.slice A9 (Lj.length + 1) c9)) F1 k.yard s5.1) := Dt.ow_set yardD (x := k.yard) (s := s5.1) oy9 hnO _
          have SX := X9.setOther (a := ⟨w1.heap.size, 4, none⟩) (by show w.heap.size ≠ w1.heap.size; omega) (.slice A9 (Lj.length + 1) c9)
          have SZ := Z9.setOther (a := ⟨w1.heap.size, 4, none⟩) (by show w.heap.size + 1 ≠ w1.heap.size; omega) (.slice A9 (Lj.length + 1) c9)
          have SO : DBox w1.heap.size [.int .i64 k.yard.now, .int .i64 k.yard.seq, .slice s5.1.1.a s5.1.1.n s5.1.1.c, .slice s5.1.2.a s5.1.2.n s5.1.2.c, .slice A9 (Lj.length + 1) c9, .int .i64 (u + 1)] (w5.setCell ⟨w1.heap.size, 4, none⟩ (.slice A9 (Lj.length + 1) c9)) := O9.set 4 (by simp) _
          have SW : Below w.heap.size w (w5.setCell ⟨w1.heap.size, 4, none⟩ (.slice A9 (Lj.length + 1) c9)) := W9.setCell (by show w.heap.size ≤ w1.heap.size; omega) _
          have g5s := g5.size
          simp only [World.size_alloc, World.size_drew] at g5s
          have SS : w2.heap.size ≤ (w5.setCell ⟨w1.heap.size, 4, none⟩ (.slice A9 (Lj.length + 1) c9)).heap.size := by simp [World.setCell]; omega
          first
            | exact ⟨⟨j + 1, by omega, by simp, .slice A9 (Lj.length + 1) c9, S, SY, SX, SZ, SO, SW, by simpa using SS⟩, by simp [intOf]; omega⟩
            | exact ⟨⟨j + 1, .slice A9 (Lj.length + 1) c9, by omega, by go_num, S, SY, SX, SZ, SO, SW, SS⟩, by simp [intOf]; omega⟩
            | (refine ⟨?_, by simp [intOf]; omega⟩; (repeat apply Exists.intro); first | exact ⟨⟨j + 1, .slice A9 (Lj.length + 1) c9, by omega, by go_num, S, SY, SX, SZ, SO, SW, SS⟩, rfl⟩ | exact ⟨⟨j + 1, .slice A9 (Lj.length + 1) c9, by omega, by go_num, S, SY, SX, SZ, SO, SW, SS⟩, rfl, rfl⟩ | exact ⟨⟨j + 1, .slice A9 (Lj.length + 1) c9, by omega, by go_num, S, SY, SX, SZ, SO, SW, SS⟩, rfl, rfl, rfl⟩ | exact ⟨⟨j + 1, .slice A9 (Lj.length + 1) c9, by omega, by go_num, S, SY, SX, SZ, SO, SW, SS⟩, rfl, rfl, rfl, rfl⟩ | exact ⟨⟨j + 1, .slice A9 (Lj.length + 1) c9, by omega, by go_num, S, SY, SX, SZ, SO, SW, SS⟩, rfl, rfl, rfl, rfl, rfl⟩ | exact ⟨⟨j + 1, .slice A9 (Lj.length + 1) c9, by omega, by go_num, S, SY, SX, SZ, SO, SW, SS⟩, rfl, rfl, rfl, rfl, rfl, rfl⟩ | exact ⟨⟨j + 1, .slice A9 (Lj.length + 1) c9, by omega, by go_num, S, SY, SX, SZ, SO, SW, SS⟩, rfl, rfl, rfl, rfl, rfl, rfl, rfl⟩ | exact ⟨⟨j + 1, .slice A9 (Lj.length + 1) c9, by omega, by go_num, S, SY, SX, SZ, SO, SW, SS⟩, rfl, rfl, rfl, rfl, rfl, rfl, rfl, rfl⟩ | exact ⟨⟨j + 1, .slice A9 (Lj.length + 1) c9, by omega, by go_num, S, SY, SX, SZ, SO, SW, SS⟩, rfl, rfl, rfl, rfl, rfl, rfl, rfl, rfl, rfl⟩ | exact ⟨⟨j + 1, .slice A9 (Lj.length + 1) c9, by omega, by go_num, S, SY, SX, SZ, SO, SW, SS⟩, rfl, rfl, rfl, rfl, rfl, rfl, rfl, rfl, rfl, rfl⟩ | exact ⟨⟨j + 1, .slice A9 (Lj.length + 1) c9, by omega, by go_num, S, SY, SX, SZ, SO, SW, SS⟩, rfl, rfl, rfl, rfl, rfl, rfl, rfl, rfl, rfl, rfl, rfl⟩ | exact ⟨⟨j + 1, .slice A9 (Lj.length + 1) c9, by omega, by go_num, S, SY, SX, SZ, SO, SW, SS⟩, rfl, rfl, rfl, rfl, rfl, rfl, rfl, rfl, rfl, rfl, rfl, rfl⟩ | exact ⟨⟨j + 1, .slice A9 (Lj.length + 1) c9, by omega, by go_num, S, SY, SX, SZ, SO, SW, SS⟩, rfl, rfl, rfl, rfl, rfl, rfl, rfl, rfl, rfl, rfl, rfl, rfl, rfl⟩)
      · have hltI : ¬ (j : Int) < (k.memos.length : Int) := by omega
        have hk' : j = k.memos.length := by omega
        subst hk'
        have om5 := hE.out
        rw [List.take_length] at om5
        obtain ⟨s7, F3, rfl, om6, hge6⟩ := memo_ow om5
        have oy6 : yardD.ow wr F1 k.yard s5.1 := hY.out
        have hZn := hZ1
        have Z_f := Z.free
        have Z_0 := Z.cell 0 _ rfl
        have Z_1 := Z.cell 1 _ rfl
        have Z_2 := Z.cell 2 _ rfl
        have Z_3 := Z.cell 3 _ rfl
        have Z_4 := Z.cell 4 _ rfl
        have Z_5 := Z.cell 5 _ rfl
        have Z_l := Z.lt
        go_wp2
        refine bodyPost_ret (v := deskW (heardK k u) (s5.1, s7)) ?_ rfl ?_
        · have hf := HFr.out
          simp [deskW, heardK, results, Tryz.results20, go_sem, Z_0, Z_1, Z_2, Z_3, Z_4, Z_5]
          omega
        · rw [H.out]
          have hn1 : w.heap.size + 1 ∉ F1 := fun hm => by have := hge3 _ (List.mem_append_left _ hm); omega
          have hn3 : w.heap.size + 1 ∉ F3 := fun hm => by have := hge6 _ hm; omega
          refine ⟨(s5.1, s7), F1 ++ F3, rfl, ⟨F1, F3, rfl, ?_, ?_, ?_⟩, fun b hb => ?_, ?_⟩
          · rw [List.nodup_append] at hnd ⊢
            exact ⟨hnd.1, om6.nodup, fun a ha b hb e => by have := hlt1 a ha; have := hge6 b hb; omega⟩
          · show yardD.ow _ F1 k.yard s5.1
            repeat (first | (with_reducible exact oy6) | refine Dt.ow_set yardD ?_ hn1 _)
          · show OwL memoD _ F3 s7.v (k.memos.filter fun m => !heardP u m)
            repeat (first | (with_reducible exact om6) | refine OwL.set ?_ hn3 _)
          · rcases List.mem_append.1 hb with hb | hb
            · exact hge _ (List.mem_append_left _ hb)
            · have := hge6 _ hb; omega
          · repeat (first | (with_reducible exact hb) | refine Below.setCell ?_ (by first | (simp; done) | (simp; omega)) _)
  · have HFr : Hid (k.fr = max k.fr (u + 1)) := by show k.fr = _; omega
    have c1' : ¬ k.fr < u + 1 := c1
    go_wp2
    have O5 : DBox w1.heap.size [.int .i64 k.yard.now, .int .i64 k.yard.seq, .slice s5.1.1.a s5.1.1.n s5.1.1.c, .slice s5.1.2.a s5.1.2.n s5.1.2.c, .slice (some ⟨w2.heap.size, 0, none⟩) 0 0, .int .i64 (k.fr)] ((w2.setCell ⟨w1.heap.size, 4, none⟩ (.slice (some ⟨w2.heap.size, 0, none⟩) 0 0)).alloc (.cells #[] 61)) := ((O).set 4 (by simp) (.slice (some ⟨w2.heap.size, 0, none⟩) 0 0)).below ((Below.refl (w2.setCell ⟨w1.heap.size, 4, none⟩ (.slice (some ⟨w2.heap.size, 0, none⟩) 0 0)).heap.size (w2.setCell ⟨w1.heap.size, 4, none⟩ (.slice (some ⟨w2.heap.size, 0, none⟩) 0 0))).alloc (Nat.le_refl _) (.cells #[] 61))
    have X5 := (X.setOther (a := ⟨w1.heap.size, 4, none⟩) (by show w.heap.size ≠ w1.heap.size; omega) (.slice (some ⟨w2.heap.size, 0, none⟩) 0 0)).below ((Below.refl (w2.setCell ⟨w1.heap.size, 4, none⟩ (.slice (some ⟨w2.heap.size, 0, none⟩) 0 0)).heap.size (w2.setCell ⟨w1.heap.size, 4, none⟩ (.slice (some ⟨w2.heap.size, 0, none⟩) 0 0))).alloc (Nat.le_refl _) (.cells #[] 61))
    have Z5 := (Z.setOther (a := ⟨w1.heap.size, 4, none⟩) (by show w.heap.size + 1 ≠ w1.heap.size; omega) (.slice (some ⟨w2.heap.size, 0, none⟩) 0 0)).below ((Below.refl (w2.setCell ⟨w1.heap.size, 4, none⟩ (.slice (some ⟨w2.heap.size, 0, none⟩) 0 0)).heap.size (w2.setCell ⟨w1.heap.size, 4, none⟩ (.slice (some ⟨w2.heap.size, 0, none⟩) 0 0))).alloc (Nat.le_refl _) (.cells #[] 61))
    have hnO : w1.heap.size ∉ F1 := fun hm => by have := hlt1 _ hm; omega
    have oy5 : yardD.ow ((w2.setCell ⟨w1.heap.size, 4, none⟩ (.slice (some ⟨w2.heap.size, 0, none⟩) 0 0)).alloc (.cells #[] 61)) F1 k.yard s5.1 := by
      refine yardD.ow_below (x := k.yard) (s := s5.1) ?_ ((Below.refl (w2.setCell ⟨w1.heap.size, 4, none⟩ (.slice (some ⟨w2.heap.size, 0, none⟩) 0 0)).heap.size (w2.setCell ⟨w1.heap.size, 4, none⟩ (.slice (some ⟨w2.heap.size, 0, none⟩) 0 0))).alloc (Nat.le_refl _) (.cells #[] 61))
      repeat (first | (with_reducible exact oy) | refine Dt.ow_set yardD ?_ hnO _)
    have E5 : Ow mmoE 61 ((w2.setCell ⟨w1.heap.size, 4, none⟩ (.slice (some ⟨w2.heap.size, 0, none⟩) 0 0)).alloc (.cells #[] 61)) w2.heap.size (.slice (some ⟨w2.heap.size, 0, none⟩) 0 0) [] := Ow.empty mmoE 61 (w2.setCell ⟨w1.heap.size, 4, none⟩ (.slice (some ⟨w2.heap.size, 0, none⟩) 0 0)) (g := w2.heap.size) (by simp)
    have B5 : Below w.heap.size w ((w2.setCell ⟨w1.heap.size, 4, none⟩ (.slice (some ⟨w2.heap.size, 0, none⟩) 0 0)).alloc (.cells #[] 61)) := by
      repeat (first | (with_reducible exact B0) | refine Below.setCell ?_ (by show w.heap.size ≤ w1.heap.size; omega) _ | refine Below.alloc ?_ (by simp <;> omega) _)
    have S5 : w2.heap.size ≤ ((w2.setCell ⟨w1.heap.size, 4, none⟩ (.slice (some ⟨w2.heap.size, 0, none⟩) 0 0)).alloc (.cells #[] 61)).heap.size := by simp
    generalize ((w2.setCell ⟨w1.heap.size, 4, none⟩ (.slice (some ⟨w2.heap.size, 0, none⟩) 0 0)).alloc (.cells #[] 61)) = W5 at *
    clear X_0 X_1 X_2 X_3 X_4 X_5 X_l X_f Z_0 Z_1 Z_2 Z_3 Z_4 Z_5 Z_l Z_f O_0 O_1 O_2 O_3 O_4 O_5 O_l O_f X Z O B0 oy om c1
    go_loopw [6] (fun i wr => ∃ (j : Nat) (v : Value), j ≤ k.memos.length ∧ i = .int .i64 j ∧ Hid (Ow mmoE 61 wr w2.heap.size v ((k.memos.take j).filter fun m => !heardP u m)) ∧ Hid (yardD.ow wr F1 k.yard s5.1) ∧ DBox w.heap.size [.int .i64 k.yard.now, .int .i64 k.yard.seq, .slice A1 n1 c1, .slice A2 n2 c2, .slice A3 k.memos.length c3, .int .i64 k.fr] wr ∧ DBox (w.heap.size + 1) [.int .i64 0, .int .i64 0, .slice none 0 0, .slice none 0 0, .slice none 0 0, .int .i64 0] wr ∧ DBox w1.heap.size [.int .i64 k.yard.now, .int .i64 k.yard.seq, .slice s5.1.1.a s5.1.1.n s5.1.1.c, .slice s5.1.2.a s5.1.2.n s5.1.2.c, v, .int .i64 (k.fr)] wr ∧ Below w.heap.size w wr ∧ w2.heap.size ≤ wr.heap.size) (fun i _ => k.memos.length - (intOf i).toNat)
    case atStart => exact ⟨0, _, Nat.zero_le _, rfl, E5, oy5, X5, Z5, O5, B5, S5⟩
    case round =>
      clear X5 Z5 O5 B5 E5 oy5 S5
      obtain ⟨j, v, hj, rfl, hE, hY, X, Z, O, hb, hsz⟩ := hrel
      have X_0 := X.cell 0 _ rfl
      have X_1 := X.cell 1 _ rfl
      have X_2 := X.cell 2 _ rfl
      have X_3 := X.cell 3 _ rfl
      have X_4 := X.cell 4 _ rfl
      have X_5 := X.cell 5 _ rfl
      have X_l := X.lt
      have O_0 := O.cell 0 _ rfl
      have O_1 := O.cell 1 _ rfl
      have O_2 := O.cell 2 _ rfl
      have O_3 := O.cell 3 _ rfl
      have O_4 := O.cell 4 _ rfl
      have O_5 := O.cell 5 _ rfl
      have O_l := O.lt
      have O_f := O.free
      by_cases hlt : j < k.memos.length
      · have hltI : (j : Int) < (k.memos.length : Int) := by omega
        obtain ⟨b, o, hA3, hbb, d0, d1, d2, d3, d4⟩ := (h3.below hb).memo_ hlt
        subst hA3
        have hs1 : b < wr.heap.size := Nat.lt_of_lt_of_le hbb hb.size
        have om5 := hE.out
        have Hf := Lib.hid (take_snoc k.memos j hlt)
        cases q : decide (u < k.memos[j].id)
        · have S : Hid (Ow mmoE 61 wr w2.heap.size v ((k.memos.take (j + 1)).filter fun m => !heardP u m)) := by
            show Ow _ _ _ _ _ _
            rw [Hf.out, List.filter_append]
            have : heardP u k.memos[j] = true := by unfold heardP; simp at q ⊢; exact q
            simp [this]
            exact om5
          go_wp2
          first
            | exact ⟨⟨j + 1, v, by omega, by go_num, S, hY, X, Z, O, hb, hsz⟩, by simp [intOf]; omega⟩
            | exact ⟨⟨j + 1, by omega, by simp, v, S, hY, X, Z, O, hb, hsz⟩, by simp [intOf]; omega⟩
            | (refine ⟨?_, by simp [intOf]; omega⟩; (repeat apply Exists.intro); first | exact ⟨⟨j + 1, v, by omega, by go_num, S, hY, X, Z, O, hb, hsz⟩, rfl⟩ | exact ⟨⟨j + 1, v, by omega, by go_num, S, hY, X, Z, O, hb, hsz⟩, rfl, rfl⟩ | exact ⟨⟨j + 1, v, by omega, by go_num, S, hY, X, Z, O, hb, hsz⟩, rfl, rfl, rfl⟩ | exact ⟨⟨j + 1, v, by omega, by go_num, S, hY, X, Z, O, hb, hsz⟩, rfl, rfl, rfl, rfl⟩ | exact ⟨⟨j + 1, v, by omega, by go_num, S, hY, X, Z, O, hb, hsz⟩, rfl, rfl, rfl, rfl, rfl⟩ | exact ⟨⟨j + 1, v, by omega, by go_num, S, hY, X, Z, O, hb, hsz⟩, rfl, rfl, rfl, rfl, rfl, rfl⟩ | exact ⟨⟨j + 1, v, by omega, by go_num, S, hY, X, Z, O, hb, hsz⟩, rfl, rfl, rfl, rfl, rfl, rfl, rfl⟩ | exact ⟨⟨j + 1, v, by omega, by go_num, S, hY, X, Z, O, hb, hsz⟩, rfl, rfl, rfl, rfl, rfl, rfl, rfl, rfl⟩ | exact ⟨⟨j + 1, v, by omega, by go_num, S, hY, X, Z, O, hb, hsz⟩, rfl, rfl, rfl, rfl, rfl, rfl, rfl, rfl, rfl⟩ | exact ⟨⟨j + 1, v, by omega, by go_num, S, hY, X, Z, O, hb, hsz⟩, rfl, rfl, rfl, rfl, rfl, rfl, rfl, rfl, rfl, rfl⟩ | exact ⟨⟨j + 1, v, by omega, by go_num, S, hY, X, Z, O, hb, hsz⟩, rfl, rfl, rfl, rfl, rfl, rfl, rfl, rfl, rfl, rfl, rfl⟩ | exact ⟨⟨j + 1, v, by omega, by go_num, S, hY, X, Z, O, hb, hsz⟩, rfl, rfl, rfl, rfl, rfl, rfl, rfl, rfl, rfl, rfl, rfl, rfl⟩ | exact ⟨⟨j + 1, v, by omega, by go_num, S, hY, X, Z, O, hb, hsz⟩, rfl, rfl, rfl, rfl, rfl, rfl, rfl, rfl, rfl, rfl, rfl, rfl, rfl⟩)
        · have hfl := List.length_filter_le (fun m => !heardP u m) (k.memos.take j)
          rw [List.length_take] at hfl
          have HL : Hid ((k.memos.take (j + 1)).filter (fun m => !heardP u m) = ((k.memos.take j).filter fun m => !heardP u m) ++ [k.memos[j]]) := by
            show _ = _
            rw [Hf.out, List.filter_append]
            have : heardP u k.memos[j] = false := by unfold heardP; simp at q ⊢; exact q
            simp [this]
          generalize ((k.memos.take j).filter fun m => !heardP u m) = Lj at *
          go_wp2
          refine wp_region_last (fun w' => w'.cell? ⟨w1.heap.size, 4, none⟩ = some v ∧ w'.cell? ⟨w.heap.size, 4, none⟩ = some (.slice (some ⟨b, o, none⟩) k.memos.length c3) ∧ w'.cell? ⟨b, o + j * 5, none⟩ = some (.int .i64 k.memos[j].id) ∧ w'.cell? ⟨b, o + j * 5 + 1, none⟩ = some (.int .i64 k.memos[j].reply.code) ∧ w'.cell? ⟨b, o + j * 5 + 2, none⟩ = some (.int .i64 k.memos[j].reply.run) ∧ w'.cell? ⟨b, o + j * 5 + 3, none⟩ = some (.int .i64 k.memos[j].reply.task) ∧ w'.cell? ⟨b, o + j * 5 + 4, none⟩ = some (.int .i64 k.memos[j].reply.try_)) 10 (by kernel_rfl) ?_ (fun hHeld => ?_)
          · exact ⟨by simpa [go_sem] using O_4, by simpa [go_sem] using X_4, by simpa [go_sem] using d0, by simpa [go_sem] using d1, by simpa [go_sem] using d2, by simpa [go_sem] using d3, by simpa [go_sem] using d4⟩
          refine wpAnyL_take (i := 0) (oi := _) (v := ?_) rfl (by kernel_rfl) (by kernel_rfl) (by kernel_rfl) (by kernel_rfl) (fun _ _ _ h => h) hHeld (Or.inl ⟨by rfl, ?_⟩) ?_
          rotate_left
          · intro w hSw
            (try dsimp only at hSw)
            go_simp
            all_goals with_reducible rfl
          try simp only [Act.put, List.setIfInBounds_toArray, List.set_cons_zero, List.set_cons_succ]
          refine wpAnyL_take (i := 1) (oi := _) (v := ?_) rfl (by kernel_rfl) (by kernel_rfl) (by kernel_rfl) (by kernel_rfl) (fun _ _ _ h => h) hHeld (Or.inl ⟨by rfl, ?_⟩) ?_
          rotate_left
          · intro w hSw
            (try dsimp only at hSw)
            go_simp
            all_goals with_reducible rfl
          try simp only [Act.put, List.setIfInBounds_toArray, List.set_cons_zero, List.set_cons_succ]
          refine wpAnyL_take (i := 2) (oi := _) (v := ?_) rfl (by kernel_rfl) (by kernel_rfl) (by kernel_rfl) (by kernel_rfl) (fun _ _ _ h => h) hHeld (Or.inl ⟨by rfl, ?_⟩) ?_
          rotate_left
          · intro w hSw
            (try dsimp only at hSw)
            go_simp
            all_goals with_reducible rfl
          try simp only [Act.put, List.setIfInBounds_toArray, List.set_cons_zero, List.set_cons_succ]
          refine wpAnyL_take (i := 3) (oi := _) (v := ?_) rfl (by kernel_rfl) (by kernel_rfl) (by kernel_rfl) (by kernel_rfl) (fun _ _ _ h => h) hHeld (Or.inl ⟨by rfl, ?_⟩) ?_
          rotate_left
          · intro w hSw
            (try dsimp only at hSw)
            go_simp
            all_goals with_reducible rfl
          try simp only [Act.put, List.setIfInBounds_toArray, List.set_cons_zero, List.set_cons_succ]
          refine wpAnyL_take (i := 4) (oi := _) (v := ?_) rfl (by kernel_rfl) (by kernel_rfl) (by kernel_rfl) (by kernel_rfl) (fun _ _ _ h => h) hHeld (Or.inl ⟨by rfl, ?_⟩) ?_
          rotate_left
          · intro w hSw
            (try dsimp only at hSw)
            go_simp
            all_goals with_reducible rfl
          try simp only [Act.put, List.setIfInBounds_toArray, List.set_cons_zero, List.set_cons_succ]
          refine wpAnyL_take (i := 5) (oi := _) (v := ?_) rfl (by kernel_rfl) (by kernel_rfl) (by kernel_rfl) (by kernel_rfl) (fun _ _ _ h => h) hHeld (Or.inl ⟨by rfl, ?_⟩) ?_
          rotate_left
          · intro w hSw
            (try dsimp only at hSw)
            go_simp
            all_goals with_reducible rfl
          try simp only [Act.put, List.setIfInBounds_toArray, List.set_cons_zero, List.set_cons_succ]
          refine wpAnyL_take (i := 6) (oi := _) (v := ?_) rfl (by kernel_rfl) (by kernel_rfl) (by kernel_rfl) (by kernel_rfl) (fun _ _ _ h => h) hHeld (Or.inl ⟨by rfl, ?_⟩) ?_
          rotate_left
          · intro w hSw
            (try dsimp only at hSw)
            go_simp
            all_goals with_reducible rfl
          try simp only [Act.put, List.setIfInBounds_toArray, List.set_cons_zero, List.set_cons_succ]
          refine wpAnyL_one (i := 7) (o := _) rfl (by kernel_rfl) (fun K hK => ?_)
          go_simp
          refine hK.out _ _ (fun _ => ?_) ?_
          · (refine ⟨?_, ?_, ?_, ?_, ?_, ?_, ?_⟩ <;> first | assumption | go_keep)
          clear hK K
          try simp only [Act.put, List.setIfInBounds_toArray, List.set_cons_zero, List.set_cons_succ]
          refine wpAnyL_one (i := 8) (o := _) rfl (by kernel_rfl) (fun K hK => ?_)
          (refine step_push_all _ mmoE (by decide) (by rfl) (.tmp 44) (.tmp 50) (by rfl) Tryz.underlying35 hi0 iz0 iz1 iz2 (by rfl) (v := v) (l := Lj) (by rfl) (om5.below ((Below.refl wr.heap.size wr).drew.alloc (by simp) _)) (by rfl) (Rd.one mmoE _ _ k.memos[j] (by simp) rfl 1 (Nat.le_refl _) (Nat.lt_succ_self _)) (by omega) (by simp) (by decide) (by simp; omega) ?_; intro v5 w5 o5 g5 f5; obtain ⟨A9, c9, rfl, -⟩ := id (Rd.of_own o5); simp only [List.length_append, List.length_singleton] at o5 f5; have ha5 : Below wr.heap.size wr _ := (Below.refl wr.heap.size wr).drew.alloc (by simp) (.cells #[.int .i64 k.memos[j].id, .int .i64 k.memos[j].reply.code, .int .i64 k.memos[j].reply.run, .int .i64 k.memos[j].reply.task, .int .i64 k.memos[j].reply.try_] 61); have O9 := (O.below ha5).off g5 (fun e => by have := om5.within _ e.symm; omega); have X9 := (X.below ha5).off g5 (fun e => by have := om5.within _ e.symm; omega); have m0 : w5.cell? ⟨w1.heap.size, 4, none⟩ = some v := O9.cell 4 _ rfl; have m1 : w5.cell? ⟨w.heap.size, 4, none⟩ = some (.slice (some ⟨b, o, none⟩) k.memos.length c3) := X9.cell 4 _ rfl; have r0 : w5.cell? ⟨b, o + j * 5, none⟩ = some (.int .i64 k.memos[j].id) := (g5.cell_far ⟨b, o + j * 5, none⟩ (by simp; omega) (fun e => by have : _ ≤ b ∧ b < _ := om5.within _ e.symm; omega)).trans ((ha5.cell (p := ⟨b, o + j * 5, none⟩) (by show b < _; omega)).trans d0); have r1 : w5.cell? ⟨b, o + j * 5 + 1, none⟩ = some (.int .i64 k.memos[j].reply.code) := (g5.cell_far ⟨b, o + j * 5 + 1, none⟩ (by simp; omega) (fun e => by have : _ ≤ b ∧ b < _ := om5.within _ e.symm; omega)).trans ((ha5.cell (p := ⟨b, o + j * 5 + 1, none⟩) (by show b < _; omega)).trans d1); have r2 : w5.cell? ⟨b, o + j * 5 + 2, none⟩ = some (.int .i64 k.memos[j].reply.run) := (g5.cell_far ⟨b, o + j * 5 + 2, none⟩ (by simp; omega) (fun e => by have : _ ≤ b ∧ b < _ := om5.within _ e.symm; omega)).trans ((ha5.cell (p := ⟨b, o + j * 5 + 2, none⟩) (by show b < _; omega)).trans d2); have r3 : w5.cell? ⟨b, o + j * 5 + 3, none⟩ = some (.int .i64 k.memos[j].reply.task) := (g5.cell_far ⟨b, o + j * 5 + 3, none⟩ (by simp; omega) (fun e => by have : _ ≤ b ∧ b < _ := om5.within _ e.symm; omega)).trans ((ha5.cell (p := ⟨b, o + j * 5 + 3, none⟩) (by show b < _; omega)).trans d3); have r4 : w5.cell? ⟨b, o + j * 5 + 4, none⟩ = some (.int .i64 k.memos[j].reply.try_) := (g5.cell_far ⟨b, o + j * 5 + 4, none⟩ (by simp; omega) (fun e => by have : _ ≤ b ∧ b < _ := om5.within _ e.symm; omega)).trans ((ha5.cell (p := ⟨b, o + j * 5 + 4, none⟩) (by show b < _; omega)).trans d4); have fO := O9.free; have lO := O9.lt)
          refine hK.out _ _ (fun _ => ?_) ?_
          · exact ⟨m0, m1, r0, r1, r2, r3, r4⟩
          clear hK K
          try simp only [Act.put, List.setIfInBounds_toArray, List.set_cons_zero, List.set_cons_succ]
          refine wpAnyL_one (i := 9) (o := _) rfl (by kernel_rfl) (fun K hK => ?_)
          go_simp
          refine hK.out _ _ (fun _ => ?_) ?_
          · exact ⟨m0, m1, r0, r1, r2, r3, r4⟩
          clear hK K
          try simp only [Act.put, List.setIfInBounds_toArray, List.set_cons_zero, List.set_cons_succ]
          refine wpAnyL_one (i := 10) (o := _) rfl (by kernel_rfl) (fun K hK => ?_)
          go_simp
          refine hK.out _ _ (fun hne => absurd rfl hne) ?_
          clear hK K
          try simp only [Act.put, List.setIfInBounds_toArray, List.set_cons_zero, List.set_cons_succ]
          refine wpAnyL_done (by kernel_rfl) ?_ _
          go_wp2
          have Z9 := (Z.below ha5).off g5 (fun e => by have := om5.within _ e.symm; omega)
          have oy9 : yardD.ow w5 F1 k.yard s5.1 := yardD.ow_keep (x := k.yard) (s := s5.1) (yardD.ow_below (x := k.yard) (s := s5.1) hY.out ha5) g5.size (fun b' hb' => g5.block b' (by have := hlt1 b' hb'; simp; omega) (fun e => by have := om5.within _ e.symm; have := hlt1 b' hb'; omega))
          have W9 := (hb.trans (ha5.mono hb.size)).grown g5 (by simp; omega) (fun g hg => by have := om5.within g hg; omega)
          have S : Hid (Ow mmoE 61 (w5.setCell ⟨w1.heap.size, 4, none⟩ (.slice A9 (Lj.length + 1) c9)) w2.heap.size (.slice A9 (Lj.length + 1) c9) ((k.memos.take (j + 1)).filter fun m => !heardP u m)) := by
            show Ow _ _ _ _ _ _
            rw [HL.out]
            exact o5.setOther (a := ⟨w1.heap.size, 4, none⟩) (fun e => by have : _ ≤ w1.heap.size ∧ _ := o5.within _ e; omega) _
          have SY : Hid (yardD.ow (w5.setCell ⟨w1.heap.size, 4, none⟩ (.slice A9 (Lj.length + 1) c9)) F1 k.yard s5.1) := Dt.ow_set yardD (x := k.yard) (s := s5.1) oy9 hnO _
          have SX := X9.setOther (a := ⟨w1.heap.size, 4, none⟩) (by show w.heap.size ≠ w1.heap.size; omega) (.slice A9 (Lj.length + 1) c9)
          have SZ := Z9.setOther (a := ⟨w1.heap.size, 4, none⟩) (by show w.heap.size + 1 ≠ w1.heap.size; omega) (.slice A9 (Lj.length + 1) c9)
          have SO : DBox w1.heap.size [.int .i64 k.yard.now, .int .i64 k.yard.seq, .slice s5.1.1.a s5.1.1.n s5.1.1.c, .slice s5.1.2.a s5.1.2.n s5.1.2.c, .slice A9 (Lj.length + 1) c9, .int .i64 (k.fr)] (w5.setCell ⟨w1.heap.size, 4, none⟩ (.slice A9 (Lj.length + 1) c9)) := O9.set 4 (by simp) _
          have SW : Below w.heap.size w (w5.setCell ⟨w1.heap.size, 4, none⟩ (.slice A9 (Lj.length + 1) c9)) := W9.setCell (by show w.heap.size ≤ w1.heap.size; omega) _
          have g5s := g5.size
          simp only [World.size_alloc, World.size_drew] at g5s
          have SS : w2.heap.size ≤ (w5.setCell ⟨w1.heap.size, 4, none⟩ (.slice A9 (Lj.length + 1) c9)).heap.size := by simp [World.setCell]; omega
          first
            | exact ⟨⟨j + 1, by omega, by simp, .slice A9 (Lj.length + 1) c9, S, SY, SX, SZ, SO, SW, by simpa using SS⟩, by simp [intOf]; omega⟩
            | exact ⟨⟨j + 1, .slice A9 (Lj.length + 1) c9, by omega, by go_num, S, SY, SX, SZ, SO, SW, SS⟩, by simp [intOf]; omega⟩
            | (refine ⟨?_, by simp [intOf]; omega⟩; (repeat apply Exists.intro); first | exact ⟨⟨j + 1, .slice A9 (Lj.length + 1) c9, by omega, by go_num, S, SY, SX, SZ, SO, SW, SS⟩, rfl⟩ | exact ⟨⟨j + 1, .slice A9 (Lj.length + 1) c9, by omega, by go_num, S, SY, SX, SZ, SO, SW, SS⟩, rfl, rfl⟩ | exact ⟨⟨j + 1, .slice A9 (Lj.length + 1) c9, by omega, by go_num, S, SY, SX, SZ, SO, SW, SS⟩, rfl, rfl, rfl⟩ | exact ⟨⟨j + 1, .slice A9 (Lj.length + 1) c9, by omega, by go_num, S, SY, SX, SZ, SO, SW, SS⟩, rfl, rfl, rfl, rfl⟩ | exact ⟨⟨j + 1, .slice A9 (Lj.length + 1) c9, by omega, by go_num, S, SY, SX, SZ, SO, SW, SS⟩, rfl, rfl, rfl, rfl, rfl⟩ | exact ⟨⟨j + 1, .slice A9 (Lj.length + 1) c9, by omega, by go_num, S, SY, SX, SZ, SO, SW, SS⟩, rfl, rfl, rfl, rfl, rfl, rfl⟩ | exact ⟨⟨j + 1, .slice A9 (Lj.length + 1) c9, by omega, by go_num, S, SY, SX, SZ, SO, SW, SS⟩, rfl, rfl, rfl, rfl, rfl, rfl, rfl⟩ | exact ⟨⟨j + 1, .slice A9 (Lj.length + 1) c9, by omega, by go_num, S, SY, SX, SZ, SO, SW, SS⟩, rfl, rfl, rfl, rfl, rfl, rfl, rfl, rfl⟩ | exact ⟨⟨j + 1, .slice A9 (Lj.length + 1) c9, by omega, by go_num, S, SY, SX, SZ, SO, SW, SS⟩, rfl, rfl, rfl, rfl, rfl, rfl, rfl, rfl, rfl⟩ | exact ⟨⟨j + 1, .slice A9 (Lj.length + 1) c9, by omega, by go_num, S, SY, SX, SZ, SO, SW, SS⟩, rfl, rfl, rfl, rfl, rfl, rfl, rfl, rfl, rfl, rfl⟩ | exact ⟨⟨j + 1, .slice A9 (Lj.length + 1) c9, by omega, by go_num, S, SY, SX, SZ, SO, SW, SS⟩, rfl, rfl, rfl, rfl, rfl, rfl, rfl, rfl, rfl, rfl, rfl⟩ | exact ⟨⟨j + 1, .slice A9 (Lj.length + 1) c9, by omega, by go_num, S, SY, SX, SZ, SO, SW, SS⟩, rfl, rfl, rfl, rfl, rfl, rfl, rfl, rfl, rfl, rfl, rfl, rfl⟩ | exact ⟨⟨j + 1, .slice A9 (Lj.length + 1) c9, by omega, by go_num, S, SY, SX, SZ, SO, SW, SS⟩, rfl, rfl, rfl, rfl, rfl, rfl, rfl, rfl, rfl, rfl, rfl, rfl, rfl⟩)
      · have hltI : ¬ (j : Int) < (k.memos.length : Int) := by omega
        have hk' : j = k.memos.length := by omega
        subst hk'
        have om5 := hE.out
        rw [List.take_length] at om5
        obtain ⟨s7, F3, rfl, om6, hge6⟩ := memo_ow om5
        have oy6 : yardD.ow wr F1 k.yard s5.1 := hY.out
        have hZn := hZ1
        have Z_f := Z.free
        have Z_0 := Z.cell 0 _ rfl
        have Z_1 := Z.cell 1 _ rfl
        have Z_2 := Z.cell 2 _ rfl
        have Z_3 := Z.cell 3 _ rfl
        have Z_4 := Z.cell 4 _ rfl
        have Z_5 := Z.cell 5 _ rfl
        have Z_l := Z.lt
        go_wp2
        refine bodyPost_ret (v := deskW (heardK k u) (s5.1, s7)) ?_ rfl ?_
        · have hf := HFr.out
          simp [deskW, heardK, results, Tryz.results20, go_sem, Z_0, Z_1, Z_2, Z_3, Z_4, Z_5]
          omega
        · rw [H.out]
          have hn1 : w.heap.size + 1 ∉ F1 := fun hm => by have := hge3 _ (List.mem_append_left _ hm); omega
          have hn3 : w.heap.size + 1 ∉ F3 := fun hm => by have := hge6 _ hm; omega
          refine ⟨(s5.1, s7), F1 ++ F3, rfl, ⟨F1, F3, rfl, ?_, ?_, ?_⟩, fun b hb => ?_, ?_⟩
          · rw [List.nodup_append] at hnd ⊢
            exact ⟨hnd.1, om6.nodup, fun a ha b hb e => by have := hlt1 a ha; have := hge6 b hb; omega⟩
          · show yardD.ow _ F1 k.yard s5.1
            repeat (first | (with_reducible exact oy6) | refine Dt.ow_set yardD ?_ hn1 _)
          · show OwL memoD _ F3 s7.v (k.memos.filter fun m => !heardP u m)
            repeat (first | (with_reducible exact om6) | refine OwL.set ?_ hn3 _)
          · rcases List.mem_append.1 hb with hb | hb
            · exact hge _ (List.mem_append_left _ hb)
            · have := hge6 _ hb; omega
          · repeat (first | (with_reducible exact hb) | refine Below.setCell ?_ (by first | (simp; done) | (simp; omega)) _)
end Go.Proofs.YtjobmbjadpldfaaGreat
end
section
namespace Go.Proofs.YtjobmbjadpldfaaGreat
open Go.RowKit
set_option maxRecDepth 100000
set_option maxHeartbeats 2000000
set_option linter.unusedVariables false

theorem lawHeard_walk (x0 : Desk) (s0 : (Sl × Sl) × Sl) (n1 : Int) (w : World) (hw0 : wfDesk x0) (h0 : deskD.rd w w.heap.size x0 s0) (hw1 : Wf n1) :
    Calls Tryz.prog 5 #[deskW x0 s0, .int .i64 n1] w fun e w' => e = .returned (.bool true) ∧ Below w.heap.size w w' := by
  have b0 := Below.refl w.heap.size w
  go_enter Tryz.func5, Tryz.ntmps5
  go_wp2_with fail
  generalize hW1 : w.alloc (.cells #[.int .i64 x0.yard.now, .int .i64 x0.yard.seq, .slice s0.1.1.a s0.1.1.n s0.1.1.c, .slice s0.1.2.a s0.1.2.n s0.1.2.c, .slice s0.2.a s0.2.n s0.2.c, .int .i64 x0.fr] 28) = w1
  have c1 : Below w.heap.size w w1 := by rw [← hW1]; exact (Below.refl _ _).alloc (Nat.le_refl _) _
  have DaK : DBox (w.heap.size) [.int .i64 x0.yard.now, .int .i64 x0.yard.seq, .slice s0.1.1.a s0.1.1.n s0.1.1.c, .slice s0.1.2.a s0.1.2.n s0.1.2.c, .slice s0.2.a s0.2.n s0.2.c, .int .i64 x0.fr] w1 := by rw [← hW1]; exact DBox.new 28 _ _ (rfl)
  clear hW1
  have laK := DaK.lt
  have b1 := bnext b0 c1
  have s1_ : w.heap.size ≤ w1.heap.size := c1.size
  refine (szDesk_own x0 s0 _ _ (by omega) (by omega) hw0 (deskD.rd_more (deskD.rd_below h0 b1) b1.size)).mono ?_
  rintro e w2 ⟨r2, rfl, hr2, c2⟩
  have b2 := bnext b1 c2
  replace DaK := DaK.below c2
  have s2_ : w1.heap.size ≤ w2.heap.size := c2.size
  rcases hr2 with rfl | ⟨q2, z2⟩
  · go_wp2_with fail
    go_ret
    exact ⟨rfl, b2⟩
  have qb2 : decide (r2 < 0) = false := by simpa using q2
  have hm0 : cntDesk x0 ≤ 2000000 := by omega
  have hmr : cntDesk (heard x0 n1) ≤ 2000000 := heard_cnt x0 n1 hm0
  have caK0 : w2.cell? ⟨w.heap.size, 0, none⟩ = some (.int .i64 x0.yard.now) := DaK.cell 0 _ rfl
  have caK1 : w2.cell? ⟨w.heap.size, 1, none⟩ = some (.int .i64 x0.yard.seq) := DaK.cell 1 _ rfl
  have caK2 : w2.cell? ⟨w.heap.size, 2, none⟩ = some (.slice s0.1.1.a s0.1.1.n s0.1.1.c) := DaK.cell 2 _ rfl
  have caK3 : w2.cell? ⟨w.heap.size, 3, none⟩ = some (.slice s0.1.2.a s0.1.2.n s0.1.2.c) := DaK.cell 3 _ rfl
  have caK4 : w2.cell? ⟨w.heap.size, 4, none⟩ = some (.slice s0.2.a s0.2.n s0.2.c) := DaK.cell 4 _ rfl
  have caK5 : w2.cell? ⟨w.heap.size, 5, none⟩ = some (.int .i64 x0.fr) := DaK.cell 5 _ rfl
  have caKs := DaK.lt
  go_wp2_with fail
  clear caK0 caK1 caK2 caK3 caK4 caK5 caKs
  refine (toDesk_own x0 s0 _ hm0 (deskD.rd_more (deskD.rd_below h0 b2) b2.size)).mono ?_
  rintro e w3 ⟨rw0s0, Fw0s0, rfl, ow0s0, nw0s0, c3⟩
  have b3 := bnext b2 c3
  replace DaK := DaK.below c3
  have s3_ : w2.heap.size ≤ w3.heap.size := c3.size
  replace ow0s0 : deskD.ow w3 Fw0s0 x0 rw0s0 := ow0s0
  replace nw0s0 : ∀ b ∈ Fw0s0, w2.heap.size ≤ b := nw0s0
  have tw0s0 : ∀ b ∈ Fw0s0, b < w3.heap.size := (deskD.ow_lt ow0s0)
  go_wp2_with fail
  refine (specHeard_own x0 rw0s0 n1 _ hm0 (deskD.ow_rd ow0s0)).mono ?_
  rintro e w4 ⟨rw0, Fw0, rfl, ow0, nw0, c4⟩
  have b4 := bnext b3 c4
  replace ow0s0 := (deskD.ow_below ow0s0 c4)
  replace DaK := DaK.below c4
  have s4_ : w3.heap.size ≤ w4.heap.size := c4.size
  replace ow0 : deskD.ow w4 Fw0 (heard x0 n1) rw0 := ow0
  replace nw0 : ∀ b ∈ Fw0, w3.heap.size ≤ b := nw0
  have tw0 : ∀ b ∈ Fw0, b < w4.heap.size := (deskD.ow_lt ow0)
  clear ow0s0 nw0s0 tw0s0
  have caK0 : w4.cell? ⟨w.heap.size, 0, none⟩ = some (.int .i64 x0.yard.now) := DaK.cell 0 _ rfl
  have caK1 : w4.cell? ⟨w.heap.size, 1, none⟩ = some (.int .i64 x0.yard.seq) := DaK.cell 1 _ rfl
  have caK2 : w4.cell? ⟨w.heap.size, 2, none⟩ = some (.slice s0.1.1.a s0.1.1.n s0.1.1.c) := DaK.cell 2 _ rfl
  have caK3 : w4.cell? ⟨w.heap.size, 3, none⟩ = some (.slice s0.1.2.a s0.1.2.n s0.1.2.c) := DaK.cell 3 _ rfl
  have caK4 : w4.cell? ⟨w.heap.size, 4, none⟩ = some (.slice s0.2.a s0.2.n s0.2.c) := DaK.cell 4 _ rfl
  have caK5 : w4.cell? ⟨w.heap.size, 5, none⟩ = some (.int .i64 x0.fr) := DaK.cell 5 _ rfl
  have caKs := DaK.lt
  go_wp2_with fail
  clear caK0 caK1 caK2 caK3 caK4 caK5 caKs
  generalize hW5 : w4.alloc (.cells #[.int .i64 (heard x0 n1).yard.now, .int .i64 (heard x0 n1).yard.seq, .slice rw0.1.1.a rw0.1.1.n rw0.1.1.c, .slice rw0.1.2.a rw0.1.2.n rw0.1.2.c, .slice rw0.2.a rw0.2.n rw0.2.c, .int .i64 (heard x0 n1).fr] 37) = w5
  have c5 : Below w4.heap.size w4 w5 := by rw [← hW5]; exact (Below.refl _ _).alloc (Nat.le_refl _) _
  have Dw0 : DBox (w4.heap.size) [.int .i64 (heard x0 n1).yard.now, .int .i64 (heard x0 n1).yard.seq, .slice rw0.1.1.a rw0.1.1.n rw0.1.1.c, .slice rw0.1.2.a rw0.1.2.n rw0.1.2.c, .slice rw0.2.a rw0.2.n rw0.2.c, .int .i64 (heard x0 n1).fr] w5 := by rw [← hW5]; exact DBox.new 37 _ _ (rfl)
  clear hW5
  have lw0 := Dw0.lt
  have b5 := bnext b4 c5
  replace ow0 := (deskD.ow_below ow0 c5)
  replace DaK := DaK.below c5
  have s5_ : w4.heap.size ≤ w5.heap.size := c5.size
  refine (toDesk_own x0 s0 _ hm0 (deskD.rd_more (deskD.rd_below h0 b5) b5.size)).mono ?_
  rintro e w6 ⟨rx0, Fx0, rfl, ox0, nx0, c6⟩
  have b6 := bnext b5 c6
  replace ow0 := (deskD.ow_below ow0 c6)
  replace DaK := DaK.below c6
  replace Dw0 := Dw0.below c6
  have s6_ : w5.heap.size ≤ w6.heap.size := c6.size
  replace ox0 : deskD.ow w6 Fx0 x0 rx0 := ox0
  replace nx0 : ∀ b ∈ Fx0, w5.heap.size ≤ b := nx0
  have tx0 : ∀ b ∈ Fx0, b < w6.heap.size := (deskD.ow_lt ox0)
  go_wp2_with fail
  generalize hW7 : w6.alloc (.cells #[.int .i64 x0.yard.now, .int .i64 x0.yard.seq, .slice rx0.1.1.a rx0.1.1.n rx0.1.1.c, .slice rx0.1.2.a rx0.1.2.n rx0.1.2.c, .slice rx0.2.a rx0.2.n rx0.2.c, .int .i64 x0.fr] 37) = w7
  have c7 : Below w6.heap.size w6 w7 := by rw [← hW7]; exact (Below.refl _ _).alloc (Nat.le_refl _) _
  have Dx0 : DBox (w6.heap.size) [.int .i64 x0.yard.now, .int .i64 x0.yard.seq, .slice rx0.1.1.a rx0.1.1.n rx0.1.1.c, .slice rx0.1.2.a rx0.1.2.n rx0.1.2.c, .slice rx0.2.a rx0.2.n rx0.2.c, .int .i64 x0.fr] w7 := by rw [← hW7]; exact DBox.new 37 _ _ (rfl)
  clear hW7
  have lx0 := Dx0.lt
  have b7 := bnext b6 c7
  replace ow0 := (deskD.ow_below ow0 c7)
  replace ox0 := (deskD.ow_below ox0 c7)
  replace DaK := DaK.below c7
  replace Dw0 := Dw0.below c7
  have s7_ : w6.heap.size ≤ w7.heap.size := c7.size
  refine (implHeard_own x0 rx0 n1 _ hm0 (deskD.ow_rd ox0)).mono ?_
  rintro e w8 ⟨rg0, Fg0, rfl, og0, ng0, c8⟩
  have b8 := bnext b7 c8
  replace ow0 := (deskD.ow_below ow0 c8)
  replace ox0 := (deskD.ow_below ox0 c8)
  replace DaK := DaK.below c8
  replace Dw0 := Dw0.below c8
  replace Dx0 := Dx0.below c8
  have s8_ : w7.heap.size ≤ w8.heap.size := c8.size
  replace og0 : deskD.ow w8 Fg0 (heard x0 n1) rg0 := og0
  replace ng0 : ∀ b ∈ Fg0, w7.heap.size ≤ b := ng0
  have tg0 : ∀ b ∈ Fg0, b < w8.heap.size := (deskD.ow_lt og0)
  have cw00 : w8.cell? ⟨w4.heap.size, 0, none⟩ = some (.int .i64 (heard x0 n1).yard.now) := Dw0.cell 0 _ rfl
  have cw01 : w8.cell? ⟨w4.heap.size, 1, none⟩ = some (.int .i64 (heard x0 n1).yard.seq) := Dw0.cell 1 _ rfl
  have cw02 : w8.cell? ⟨w4.heap.size, 2, none⟩ = some (.slice rw0.1.1.a rw0.1.1.n rw0.1.1.c) := Dw0.cell 2 _ rfl
  have cw03 : w8.cell? ⟨w4.heap.size, 3, none⟩ = some (.slice rw0.1.2.a rw0.1.2.n rw0.1.2.c) := Dw0.cell 3 _ rfl
  have cw04 : w8.cell? ⟨w4.heap.size, 4, none⟩ = some (.slice rw0.2.a rw0.2.n rw0.2.c) := Dw0.cell 4 _ rfl
  have cw05 : w8.cell? ⟨w4.heap.size, 5, none⟩ = some (.int .i64 (heard x0 n1).fr) := Dw0.cell 5 _ rfl
  have cw0s := Dw0.lt
  go_wp2_with fail
  clear cw00 cw01 cw02 cw03 cw04 cw05 cw0s
  generalize hW9 : w8.alloc (.cells #[.int .i64 (heard x0 n1).yard.now, .int .i64 (heard x0 n1).yard.seq, .slice rg0.1.1.a rg0.1.1.n rg0.1.1.c, .slice rg0.1.2.a rg0.1.2.n rg0.1.2.c, .slice rg0.2.a rg0.2.n rg0.2.c, .int .i64 (heard x0 n1).fr] 37) = w9
  have c9 : Below w8.heap.size w8 w9 := by rw [← hW9]; exact (Below.refl _ _).alloc (Nat.le_refl _) _
  have Dg0 : DBox (w8.heap.size) [.int .i64 (heard x0 n1).yard.now, .int .i64 (heard x0 n1).yard.seq, .slice rg0.1.1.a rg0.1.1.n rg0.1.1.c, .slice rg0.1.2.a rg0.1.2.n rg0.1.2.c, .slice rg0.2.a rg0.2.n rg0.2.c, .int .i64 (heard x0 n1).fr] w9 := by rw [← hW9]; exact DBox.new 37 _ _ (rfl)
  clear hW9
  have lg0 := Dg0.lt
  have b9 := bnext b8 c9
  replace ow0 := (deskD.ow_below ow0 c9)
  replace ox0 := (deskD.ow_below ox0 c9)
  replace og0 := (deskD.ow_below og0 c9)
  replace DaK := DaK.below c9
  replace Dw0 := Dw0.below c9
  replace Dx0 := Dx0.below c9
  have s9_ : w8.heap.size ≤ w9.heap.size := c9.size
  refine (eqDesk_own (heard x0 n1) (heard x0 n1) rg0 rw0 _ hmr hmr (deskD.ow_rd og0) (deskD.ow_rd ow0)).mono ?_
  rintro e w10 ⟨rfl, c10⟩
  have b10 := bnext b9 c10
  replace ow0 := (deskD.ow_below ow0 c10)
  replace ox0 := (deskD.ow_below ox0 c10)
  replace og0 := (deskD.ow_below og0 c10)
  replace DaK := DaK.below c10
  replace Dw0 := Dw0.below c10
  replace Dx0 := Dx0.below c10
  replace Dg0 := Dg0.below c10
  have s10_ : w9.heap.size ≤ w10.heap.size := c10.size
  have cx00 : w10.cell? ⟨w6.heap.size, 0, none⟩ = some (.int .i64 x0.yard.now) := Dx0.cell 0 _ rfl
  have cx01 : w10.cell? ⟨w6.heap.size, 1, none⟩ = some (.int .i64 x0.yard.seq) := Dx0.cell 1 _ rfl
  have cx02 : w10.cell? ⟨w6.heap.size, 2, none⟩ = some (.slice rx0.1.1.a rx0.1.1.n rx0.1.1.c) := Dx0.cell 2 _ rfl
  have cx03 : w10.cell? ⟨w6.heap.size, 3, none⟩ = some (.slice rx0.1.2.a rx0.1.2.n rx0.1.2.c) := Dx0.cell 3 _ rfl
  have cx04 : w10.cell? ⟨w6.heap.size, 4, none⟩ = some (.slice rx0.2.a rx0.2.n rx0.2.c) := Dx0.cell 4 _ rfl
  have cx05 : w10.cell? ⟨w6.heap.size, 5, none⟩ = some (.int .i64 x0.fr) := Dx0.cell 5 _ rfl
  have caK0 : w10.cell? ⟨w.heap.size, 0, none⟩ = some (.int .i64 x0.yard.now) := DaK.cell 0 _ rfl
  have caK1 : w10.cell? ⟨w.heap.size, 1, none⟩ = some (.int .i64 x0.yard.seq) := DaK.cell 1 _ rfl
  have caK2 : w10.cell? ⟨w.heap.size, 2, none⟩ = some (.slice s0.1.1.a s0.1.1.n s0.1.1.c) := DaK.cell 2 _ rfl
  have caK3 : w10.cell? ⟨w.heap.size, 3, none⟩ = some (.slice s0.1.2.a s0.1.2.n s0.1.2.c) := DaK.cell 3 _ rfl
  have caK4 : w10.cell? ⟨w.heap.size, 4, none⟩ = some (.slice s0.2.a s0.2.n s0.2.c) := DaK.cell 4 _ rfl
  have caK5 : w10.cell? ⟨w.heap.size, 5, none⟩ = some (.int .i64 x0.fr) := DaK.cell 5 _ rfl
  have cx0s := Dx0.lt
  have caKs := DaK.lt
  go_wp2_with fail
  clear cx00 cx01 cx02 cx03 cx04 cx05 cx0s caK0 caK1 caK2 caK3 caK4 caK5 caKs
  have cx00 : w10.cell? ⟨w6.heap.size, 0, none⟩ = some (.int .i64 x0.yard.now) := Dx0.cell 0 _ rfl
  have cx01 : w10.cell? ⟨w6.heap.size, 1, none⟩ = some (.int .i64 x0.yard.seq) := Dx0.cell 1 _ rfl
  have cx02 : w10.cell? ⟨w6.heap.size, 2, none⟩ = some (.slice rx0.1.1.a rx0.1.1.n rx0.1.1.c) := Dx0.cell 2 _ rfl
  have cx03 : w10.cell? ⟨w6.heap.size, 3, none⟩ = some (.slice rx0.1.2.a rx0.1.2.n rx0.1.2.c) := Dx0.cell 3 _ rfl
  have cx04 : w10.cell? ⟨w6.heap.size, 4, none⟩ = some (.slice rx0.2.a rx0.2.n rx0.2.c) := Dx0.cell 4 _ rfl
  have cx05 : w10.cell? ⟨w6.heap.size, 5, none⟩ = some (.int .i64 x0.fr) := Dx0.cell 5 _ rfl
  have caK0 : w10.cell? ⟨w.heap.size, 0, none⟩ = some (.int .i64 x0.yard.now) := DaK.cell 0 _ rfl
  have caK1 : w10.cell? ⟨w.heap.size, 1, none⟩ = some (.int .i64 x0.yard.seq) := DaK.cell 1 _ rfl
  have caK2 : w10.cell? ⟨w.heap.size, 2, none⟩ = some (.slice s0.1.1.a s0.1.1.n s0.1.1.c) := DaK.cell 2 _ rfl
  have caK3 : w10.cell? ⟨w.heap.size, 3, none⟩ = some (.slice s0.1.2.a s0.1.2.n s0.1.2.c) := DaK.cell 3 _ rfl
  have caK4 : w10.cell? ⟨w.heap.size, 4, none⟩ = some (.slice s0.2.a s0.2.n s0.2.c) := DaK.cell 4 _ rfl
  have caK5 : w10.cell? ⟨w.heap.size, 5, none⟩ = some (.int .i64 x0.fr) := DaK.cell 5 _ rfl
  have cx0s := Dx0.lt
  have caKs := DaK.lt
  go_region_held3 (fun w' => w'.cell? ⟨w6.heap.size, 0, none⟩ = some (.int .i64 x0.yard.now) ∧ w'.cell? ⟨w6.heap.size, 1, none⟩ = some (.int .i64 x0.yard.seq) ∧ w'.cell? ⟨w6.heap.size, 2, none⟩ = some (.slice rx0.1.1.a rx0.1.1.n rx0.1.1.c) ∧ w'.cell? ⟨w6.heap.size, 3, none⟩ = some (.slice rx0.1.2.a rx0.1.2.n rx0.1.2.c) ∧ w'.cell? ⟨w6.heap.size, 4, none⟩ = some (.slice rx0.2.a rx0.2.n rx0.2.c) ∧ w'.cell? ⟨w6.heap.size, 5, none⟩ = some (.int .i64 x0.fr) ∧ w'.cell? ⟨w.heap.size, 0, none⟩ = some (.int .i64 x0.yard.now) ∧ w'.cell? ⟨w.heap.size, 1, none⟩ = some (.int .i64 x0.yard.seq) ∧ w'.cell? ⟨w.heap.size, 2, none⟩ = some (.slice s0.1.1.a s0.1.1.n s0.1.1.c) ∧ w'.cell? ⟨w.heap.size, 3, none⟩ = some (.slice s0.1.2.a s0.1.2.n s0.1.2.c) ∧ w'.cell? ⟨w.heap.size, 4, none⟩ = some (.slice s0.2.a s0.2.n s0.2.c) ∧ w'.cell? ⟨w.heap.size, 5, none⟩ = some (.int .i64 x0.fr))
    (first | (refine ⟨?_, ?_, ?_, ?_, ?_, ?_, ?_, ?_, ?_, ?_, ?_, ?_⟩ <;> first | assumption | go_keep) | go_keep)
    (first
      | (go_at_call 8; (with_reducible refine (toDesk_own x0 s0 _ hm0 (deskD.rd_more (deskD.rd_below h0 b10.drew) b10.drew.size)).mono ?_); rintro e w11 ⟨ryx0, Fyx0, rfl, oyx0, nyx0, c11⟩; have b11 := bnext b10 (bnext ((Below.refl w10.heap.size w10).drew) c11); replace ow0 := (deskD.ow_below ow0 (bnext ((Below.refl w10.heap.size w10).drew) c11)); replace ox0 := (deskD.ow_below ox0 (bnext ((Below.refl w10.heap.size w10).drew) c11)); replace og0 := (deskD.ow_below og0 (bnext ((Below.refl w10.heap.size w10).drew) c11)); replace DaK := DaK.below (bnext ((Below.refl w10.heap.size w10).drew) c11); replace Dw0 := Dw0.below (bnext ((Below.refl w10.heap.size w10).drew) c11); replace Dx0 := Dx0.below (bnext ((Below.refl w10.heap.size w10).drew) c11); replace Dg0 := Dg0.below (bnext ((Below.refl w10.heap.size w10).drew) c11); have s11_ : w10.heap.size ≤ w11.heap.size := c11.size; replace oyx0 : deskD.ow w11 Fyx0 x0 ryx0 := oyx0; replace nyx0 : ∀ b ∈ Fyx0, w10.heap.size ≤ b := nyx0; have tyx0 : ∀ b ∈ Fyx0, b < w11.heap.size := (deskD.ow_lt oyx0); have Xx00 : w11.cell? ⟨w6.heap.size, 0, none⟩ = some (.int .i64 x0.yard.now) := Dx0.cell 0 _ rfl; have Xx01 : w11.cell? ⟨w6.heap.size, 1, none⟩ = some (.int .i64 x0.yard.seq) := Dx0.cell 1 _ rfl; have Xx02 : w11.cell? ⟨w6.heap.size, 2, none⟩ = some (.slice rx0.1.1.a rx0.1.1.n rx0.1.1.c) := Dx0.cell 2 _ rfl; have Xx03 : w11.cell? ⟨w6.heap.size, 3, none⟩ = some (.slice rx0.1.2.a rx0.1.2.n rx0.1.2.c) := Dx0.cell 3 _ rfl; have Xx04 : w11.cell? ⟨w6.heap.size, 4, none⟩ = some (.slice rx0.2.a rx0.2.n rx0.2.c) := Dx0.cell 4 _ rfl; have Xx05 : w11.cell? ⟨w6.heap.size, 5, none⟩ = some (.int .i64 x0.fr) := Dx0.cell 5 _ rfl; have XaK0 : w11.cell? ⟨w.heap.size, 0, none⟩ = some (.int .i64 x0.yard.now) := DaK.cell 0 _ rfl; have XaK1 : w11.cell? ⟨w.heap.size, 1, none⟩ = some (.int .i64 x0.yard.seq) := DaK.cell 1 _ rfl; have XaK2 : w11.cell? ⟨w.heap.size, 2, none⟩ = some (.slice s0.1.1.a s0.1.1.n s0.1.1.c) := DaK.cell 2 _ rfl; have XaK3 : w11.cell? ⟨w.heap.size, 3, none⟩ = some (.slice s0.1.2.a s0.1.2.n s0.1.2.c) := DaK.cell 3 _ rfl; have XaK4 : w11.cell? ⟨w.heap.size, 4, none⟩ = some (.slice s0.2.a s0.2.n s0.2.c) := DaK.cell 4 _ rfl; have XaK5 : w11.cell? ⟨w.heap.size, 5, none⟩ = some (.int .i64 x0.fr) := DaK.cell 5 _ rfl; have Xx0s := Dx0.lt; have XaKs := DaK.lt)
      | (go_at_call 10; (with_reducible refine (eqDesk_own x0 x0 rx0 ryx0 _ hm0 hm0 (deskD.ow_rd ox0) (deskD.ow_rd oyx0)).mono ?_); rintro e w12 ⟨rfl, c12⟩; have b12 := bnext b11 c12; replace ow0 := (deskD.ow_below ow0 c12); replace ox0 := (deskD.ow_below ox0 c12); replace og0 := (deskD.ow_below og0 c12); replace oyx0 := (deskD.ow_below oyx0 c12); replace DaK := DaK.below c12; replace Dw0 := Dw0.below c12; replace Dx0 := Dx0.below c12; replace Dg0 := Dg0.below c12; have s12_ : w11.heap.size ≤ w12.heap.size := c12.size; clear oyx0 nyx0 tyx0; have X1x00 : w12.cell? ⟨w6.heap.size, 0, none⟩ = some (.int .i64 x0.yard.now) := Dx0.cell 0 _ rfl; have X1x01 : w12.cell? ⟨w6.heap.size, 1, none⟩ = some (.int .i64 x0.yard.seq) := Dx0.cell 1 _ rfl; have X1x02 : w12.cell? ⟨w6.heap.size, 2, none⟩ = some (.slice rx0.1.1.a rx0.1.1.n rx0.1.1.c) := Dx0.cell 2 _ rfl; have X1x03 : w12.cell? ⟨w6.heap.size, 3, none⟩ = some (.slice rx0.1.2.a rx0.1.2.n rx0.1.2.c) := Dx0.cell 3 _ rfl; have X1x04 : w12.cell? ⟨w6.heap.size, 4, none⟩ = some (.slice rx0.2.a rx0.2.n rx0.2.c) := Dx0.cell 4 _ rfl; have X1x05 : w12.cell? ⟨w6.heap.size, 5, none⟩ = some (.int .i64 x0.fr) := Dx0.cell 5 _ rfl; have X1aK0 : w12.cell? ⟨w.heap.size, 0, none⟩ = some (.int .i64 x0.yard.now) := DaK.cell 0 _ rfl; have X1aK1 : w12.cell? ⟨w.heap.size, 1, none⟩ = some (.int .i64 x0.yard.seq) := DaK.cell 1 _ rfl; have X1aK2 : w12.cell? ⟨w.heap.size, 2, none⟩ = some (.slice s0.1.1.a s0.1.1.n s0.1.1.c) := DaK.cell 2 _ rfl; have X1aK3 : w12.cell? ⟨w.heap.size, 3, none⟩ = some (.slice s0.1.2.a s0.1.2.n s0.1.2.c) := DaK.cell 3 _ rfl; have X1aK4 : w12.cell? ⟨w.heap.size, 4, none⟩ = some (.slice s0.2.a s0.2.n s0.2.c) := DaK.cell 4 _ rfl; have X1aK5 : w12.cell? ⟨w.heap.size, 5, none⟩ = some (.int .i64 x0.fr) := DaK.cell 5 _ rfl; have X1x0s := Dx0.lt; have X1aKs := DaK.lt))
  clear cx00 cx01 cx02 cx03 cx04 cx05 cx0s caK0 caK1 caK2 caK3 caK4 caK5 caKs
  clear Xx00 Xx01 Xx02 Xx03 Xx04 Xx05 Xx0s XaK0 XaK1 XaK2 XaK3 XaK4 XaK5 XaKs
  clear X1x00 X1x01 X1x02 X1x03 X1x04 X1x05 X1x0s X1aK0 X1aK1 X1aK2 X1aK3 X1aK4 X1aK5 X1aKs
  have kx0_ := (nvDesk_le x0)
  have cx00 : w12.cell? ⟨w6.heap.size, 0, none⟩ = some (.int .i64 x0.yard.now) := Dx0.cell 0 _ rfl
  have cx01 : w12.cell? ⟨w6.heap.size, 1, none⟩ = some (.int .i64 x0.yard.seq) := Dx0.cell 1 _ rfl
  have cx02 : w12.cell? ⟨w6.heap.size, 2, none⟩ = some (.slice rx0.1.1.a rx0.1.1.n rx0.1.1.c) := Dx0.cell 2 _ rfl
  have cx03 : w12.cell? ⟨w6.heap.size, 3, none⟩ = some (.slice rx0.1.2.a rx0.1.2.n rx0.1.2.c) := Dx0.cell 3 _ rfl
  have cx04 : w12.cell? ⟨w6.heap.size, 4, none⟩ = some (.slice rx0.2.a rx0.2.n rx0.2.c) := Dx0.cell 4 _ rfl
  have cx05 : w12.cell? ⟨w6.heap.size, 5, none⟩ = some (.int .i64 x0.fr) := Dx0.cell 5 _ rfl
  have cx0s := Dx0.lt
  go_wp2_with fail
  clear cx00 cx01 cx02 cx03 cx04 cx05 cx0s
  refine (markDesk_own x0 rx0 Fx0 1 _ hm0 (by omega) (by omega) ox0).mono ?_
  rintro e w13 ⟨rfl, oo13, c13⟩
  have b13 := b12.trans (c13.below b12.size (fun x hx => by have := nx0 x hx; omega))
  replace ow0 := (deskD.ow_chg ow0 c13 (apart_of (in_of nw0 tw0) (in_of nx0 tx0) (by first | exact .inl (by omega) | exact .inr (by omega))))
  replace og0 := (deskD.ow_chg og0 c13 (apart_of (in_of ng0 tg0) (in_of nx0 tx0) (by first | exact .inl (by omega) | exact .inr (by omega))))
  replace DaK := DaK.chg c13 (fun hx => by have h1 := nx0 _ hx; have h2 := tx0 _ hx; omega)
  replace Dw0 := Dw0.chg c13 (fun hx => by have h1 := nx0 _ hx; have h2 := tx0 _ hx; omega)
  replace Dx0 := Dx0.chg c13 (fun hx => by have h1 := nx0 _ hx; have h2 := tx0 _ hx; omega)
  replace Dg0 := Dg0.chg c13 (fun hx => by have h1 := nx0 _ hx; have h2 := tx0 _ hx; omega)
  have s13_ : w12.heap.size ≤ w13.heap.size := c13.size
  replace ox0 : deskD.ow w13 Fx0 (mvDesk 1 x0) rx0 := oo13
  have cg00 : w13.cell? ⟨w8.heap.size, 0, none⟩ = some (.int .i64 (heard x0 n1).yard.now) := Dg0.cell 0 _ rfl
  have cg01 : w13.cell? ⟨w8.heap.size, 1, none⟩ = some (.int .i64 (heard x0 n1).yard.seq) := Dg0.cell 1 _ rfl
  have cg02 : w13.cell? ⟨w8.heap.size, 2, none⟩ = some (.slice rg0.1.1.a rg0.1.1.n rg0.1.1.c) := Dg0.cell 2 _ rfl
  have cg03 : w13.cell? ⟨w8.heap.size, 3, none⟩ = some (.slice rg0.1.2.a rg0.1.2.n rg0.1.2.c) := Dg0.cell 3 _ rfl
  have cg04 : w13.cell? ⟨w8.heap.size, 4, none⟩ = some (.slice rg0.2.a rg0.2.n rg0.2.c) := Dg0.cell 4 _ rfl
  have cg05 : w13.cell? ⟨w8.heap.size, 5, none⟩ = some (.int .i64 (heard x0 n1).fr) := Dg0.cell 5 _ rfl
  have cw00 : w13.cell? ⟨w4.heap.size, 0, none⟩ = some (.int .i64 (heard x0 n1).yard.now) := Dw0.cell 0 _ rfl
  have cw01 : w13.cell? ⟨w4.heap.size, 1, none⟩ = some (.int .i64 (heard x0 n1).yard.seq) := Dw0.cell 1 _ rfl
  have cw02 : w13.cell? ⟨w4.heap.size, 2, none⟩ = some (.slice rw0.1.1.a rw0.1.1.n rw0.1.1.c) := Dw0.cell 2 _ rfl
  have cw03 : w13.cell? ⟨w4.heap.size, 3, none⟩ = some (.slice rw0.1.2.a rw0.1.2.n rw0.1.2.c) := Dw0.cell 3 _ rfl
  have cw04 : w13.cell? ⟨w4.heap.size, 4, none⟩ = some (.slice rw0.2.a rw0.2.n rw0.2.c) := Dw0.cell 4 _ rfl
  have cw05 : w13.cell? ⟨w4.heap.size, 5, none⟩ = some (.int .i64 (heard x0 n1).fr) := Dw0.cell 5 _ rfl
  have cg0s := Dg0.lt
  have cw0s := Dw0.lt
  go_wp2_with fail
  clear cg00 cg01 cg02 cg03 cg04 cg05 cg0s cw00 cw01 cw02 cw03 cw04 cw05 cw0s
  refine (eqDesk_own (heard x0 n1) (heard x0 n1) rg0 rw0 _ hmr hmr (deskD.ow_rd og0) (deskD.ow_rd ow0)).mono ?_
  rintro e w14 ⟨rfl, c14⟩
  have b14 := bnext b13 c14
  replace ow0 := (deskD.ow_below ow0 c14)
  replace ox0 := (deskD.ow_below ox0 c14)
  replace og0 := (deskD.ow_below og0 c14)
  replace DaK := DaK.below c14
  replace Dw0 := Dw0.below c14
  replace Dx0 := Dx0.below c14
  replace Dg0 := Dg0.below c14
  have s14_ : w13.heap.size ≤ w14.heap.size := c14.size
  have kg0_ := (nvDesk_le (heard x0 n1))
  have cg00 : w14.cell? ⟨w8.heap.size, 0, none⟩ = some (.int .i64 (heard x0 n1).yard.now) := Dg0.cell 0 _ rfl
  have cg01 : w14.cell? ⟨w8.heap.size, 1, none⟩ = some (.int .i64 (heard x0 n1).yard.seq) := Dg0.cell 1 _ rfl
  have cg02 : w14.cell? ⟨w8.heap.size, 2, none⟩ = some (.slice rg0.1.1.a rg0.1.1.n rg0.1.1.c) := Dg0.cell 2 _ rfl
  have cg03 : w14.cell? ⟨w8.heap.size, 3, none⟩ = some (.slice rg0.1.2.a rg0.1.2.n rg0.1.2.c) := Dg0.cell 3 _ rfl
  have cg04 : w14.cell? ⟨w8.heap.size, 4, none⟩ = some (.slice rg0.2.a rg0.2.n rg0.2.c) := Dg0.cell 4 _ rfl
  have cg05 : w14.cell? ⟨w8.heap.size, 5, none⟩ = some (.int .i64 (heard x0 n1).fr) := Dg0.cell 5 _ rfl
  have cg0s := Dg0.lt
  go_wp2_with fail
  clear cg00 cg01 cg02 cg03 cg04 cg05 cg0s
  refine (markDesk_own (heard x0 n1) rg0 Fg0 1 _ hmr (by omega) (by omega) og0).mono ?_
  rintro e w15 ⟨rfl, oo15, c15⟩
  have b15 := b14.trans (c15.below b14.size (fun x hx => by have := ng0 x hx; omega))
  replace ow0 := (deskD.ow_chg ow0 c15 (apart_of (in_of nw0 tw0) (in_of ng0 tg0) (by first | exact .inl (by omega) | exact .inr (by omega))))
  replace ox0 := (deskD.ow_chg ox0 c15 (apart_of (in_of nx0 tx0) (in_of ng0 tg0) (by first | exact .inl (by omega) | exact .inr (by omega))))
  replace DaK := DaK.chg c15 (fun hx => by have h1 := ng0 _ hx; have h2 := tg0 _ hx; omega)
  replace Dw0 := Dw0.chg c15 (fun hx => by have h1 := ng0 _ hx; have h2 := tg0 _ hx; omega)
  replace Dx0 := Dx0.chg c15 (fun hx => by have h1 := ng0 _ hx; have h2 := tg0 _ hx; omega)
  replace Dg0 := Dg0.chg c15 (fun hx => by have h1 := ng0 _ hx; have h2 := tg0 _ hx; omega)
  have s15_ : w14.heap.size ≤ w15.heap.size := c15.size
  replace og0 : deskD.ow w15 Fg0 (mvDesk 1 (heard x0 n1)) rg0 := oo15
  have cg00 : w15.cell? ⟨w8.heap.size, 0, none⟩ = some (.int .i64 (heard x0 n1).yard.now) := Dg0.cell 0 _ rfl
  have cg01 : w15.cell? ⟨w8.heap.size, 1, none⟩ = some (.int .i64 (heard x0 n1).yard.seq) := Dg0.cell 1 _ rfl
  have cg02 : w15.cell? ⟨w8.heap.size, 2, none⟩ = some (.slice rg0.1.1.a rg0.1.1.n rg0.1.1.c) := Dg0.cell 2 _ rfl
  have cg03 : w15.cell? ⟨w8.heap.size, 3, none⟩ = some (.slice rg0.1.2.a rg0.1.2.n rg0.1.2.c) := Dg0.cell 3 _ rfl
  have cg04 : w15.cell? ⟨w8.heap.size, 4, none⟩ = some (.slice rg0.2.a rg0.2.n rg0.2.c) := Dg0.cell 4 _ rfl
  have cg05 : w15.cell? ⟨w8.heap.size, 5, none⟩ = some (.int .i64 (heard x0 n1).fr) := Dg0.cell 5 _ rfl
  have cg0s := Dg0.lt
  go_wp2_with fail
  clear cg00 cg01 cg02 cg03 cg04 cg05 cg0s
  refine (heldDesk_own (heard x0 n1) rg0 1 _ hmr (by omega) (by omega) (deskD.ow_rd og0)).mono ?_
  rintro e w16 ⟨rfl, c16⟩
  have b16 := bnext b15 c16
  replace ow0 := (deskD.ow_below ow0 c16)
  replace ox0 := (deskD.ow_below ox0 c16)
  replace og0 := (deskD.ow_below og0 c16)
  replace DaK := DaK.below c16
  replace Dw0 := Dw0.below c16
  replace Dx0 := Dx0.below c16
  replace Dg0 := Dg0.below c16
  have s16_ : w15.heap.size ≤ w16.heap.size := c16.size
  have caK0 : w16.cell? ⟨w.heap.size, 0, none⟩ = some (.int .i64 x0.yard.now) := DaK.cell 0 _ rfl
  have caK1 : w16.cell? ⟨w.heap.size, 1, none⟩ = some (.int .i64 x0.yard.seq) := DaK.cell 1 _ rfl
  have caK2 : w16.cell? ⟨w.heap.size, 2, none⟩ = some (.slice s0.1.1.a s0.1.1.n s0.1.1.c) := DaK.cell 2 _ rfl
  have caK3 : w16.cell? ⟨w.heap.size, 3, none⟩ = some (.slice s0.1.2.a s0.1.2.n s0.1.2.c) := DaK.cell 3 _ rfl
  have caK4 : w16.cell? ⟨w.heap.size, 4, none⟩ = some (.slice s0.2.a s0.2.n s0.2.c) := DaK.cell 4 _ rfl
  have caK5 : w16.cell? ⟨w.heap.size, 5, none⟩ = some (.int .i64 x0.fr) := DaK.cell 5 _ rfl
  have caKs := DaK.lt
  go_wp2_with fail
  clear caK0 caK1 caK2 caK3 caK4 caK5 caKs
  refine (toDesk_own x0 s0 _ hm0 (deskD.rd_more (deskD.rd_below h0 b16) b16.size)).mono ?_
  rintro e w17 ⟨rh0i0, Fh0i0, rfl, oh0i0, nh0i0, c17⟩
  have b17 := bnext b16 c17
  replace ow0 := (deskD.ow_below ow0 c17)
  replace ox0 := (deskD.ow_below ox0 c17)
  replace og0 := (deskD.ow_below og0 c17)
  replace DaK := DaK.below c17
  replace Dw0 := Dw0.below c17
  replace Dx0 := Dx0.below c17
  replace Dg0 := Dg0.below c17
  have s17_ : w16.heap.size ≤ w17.heap.size := c17.size
  replace oh0i0 : deskD.ow w17 Fh0i0 x0 rh0i0 := oh0i0
  replace nh0i0 : ∀ b ∈ Fh0i0, w16.heap.size ≤ b := nh0i0
  have th0i0 : ∀ b ∈ Fh0i0, b < w17.heap.size := (deskD.ow_lt oh0i0)
  go_wp2_with fail
  refine (implHeard_own x0 rh0i0 n1 _ hm0 (deskD.ow_rd oh0i0)).mono ?_
  rintro e w18 ⟨rh0, Fh0, rfl, oh0, nh0, c18⟩
  have b18 := bnext b17 c18
  replace ow0 := (deskD.ow_below ow0 c18)
  replace ox0 := (deskD.ow_below ox0 c18)
  replace og0 := (deskD.ow_below og0 c18)
  replace oh0i0 := (deskD.ow_below oh0i0 c18)
  replace DaK := DaK.below c18
  replace Dw0 := Dw0.below c18
  replace Dx0 := Dx0.below c18
  replace Dg0 := Dg0.below c18
  have s18_ : w17.heap.size ≤ w18.heap.size := c18.size
  replace oh0 : deskD.ow w18 Fh0 (heard x0 n1) rh0 := oh0
  replace nh0 : ∀ b ∈ Fh0, w17.heap.size ≤ b := nh0
  have th0 : ∀ b ∈ Fh0, b < w18.heap.size := (deskD.ow_lt oh0)
  clear oh0i0 nh0i0 th0i0
  have cw00 : w18.cell? ⟨w4.heap.size, 0, none⟩ = some (.int .i64 (heard x0 n1).yard.now) := Dw0.cell 0 _ rfl
  have cw01 : w18.cell? ⟨w4.heap.size, 1, none⟩ = some (.int .i64 (heard x0 n1).yard.seq) := Dw0.cell 1 _ rfl
  have cw02 : w18.cell? ⟨w4.heap.size, 2, none⟩ = some (.slice rw0.1.1.a rw0.1.1.n rw0.1.1.c) := Dw0.cell 2 _ rfl
  have cw03 : w18.cell? ⟨w4.heap.size, 3, none⟩ = some (.slice rw0.1.2.a rw0.1.2.n rw0.1.2.c) := Dw0.cell 3 _ rfl
  have cw04 : w18.cell? ⟨w4.heap.size, 4, none⟩ = some (.slice rw0.2.a rw0.2.n rw0.2.c) := Dw0.cell 4 _ rfl
  have cw05 : w18.cell? ⟨w4.heap.size, 5, none⟩ = some (.int .i64 (heard x0 n1).fr) := Dw0.cell 5 _ rfl
  have cw0s := Dw0.lt
  go_wp2_with fail
  clear cw00 cw01 cw02 cw03 cw04 cw05 cw0s
  generalize hW19 : w18.alloc (.cells #[.int .i64 (heard x0 n1).yard.now, .int .i64 (heard x0 n1).yard.seq, .slice rh0.1.1.a rh0.1.1.n rh0.1.1.c, .slice rh0.1.2.a rh0.1.2.n rh0.1.2.c, .slice rh0.2.a rh0.2.n rh0.2.c, .int .i64 (heard x0 n1).fr] 37) = w19
  have c19 : Below w18.heap.size w18 w19 := by rw [← hW19]; exact (Below.refl _ _).alloc (Nat.le_refl _) _
  have Dh0 : DBox (w18.heap.size) [.int .i64 (heard x0 n1).yard.now, .int .i64 (heard x0 n1).yard.seq, .slice rh0.1.1.a rh0.1.1.n rh0.1.1.c, .slice rh0.1.2.a rh0.1.2.n rh0.1.2.c, .slice rh0.2.a rh0.2.n rh0.2.c, .int .i64 (heard x0 n1).fr] w19 := by rw [← hW19]; exact DBox.new 37 _ _ (rfl)
  clear hW19
  have lh0 := Dh0.lt
  have b19 := bnext b18 c19
  replace ow0 := (deskD.ow_below ow0 c19)
  replace ox0 := (deskD.ow_below ox0 c19)
  replace og0 := (deskD.ow_below og0 c19)
  replace oh0 := (deskD.ow_below oh0 c19)
  replace DaK := DaK.below c19
  replace Dw0 := Dw0.below c19
  replace Dx0 := Dx0.below c19
  replace Dg0 := Dg0.below c19
  have s19_ : w18.heap.size ≤ w19.heap.size := c19.size
  refine (eqDesk_own (heard x0 n1) (heard x0 n1) rh0 rw0 _ hmr hmr (deskD.ow_rd oh0) (deskD.ow_rd ow0)).mono ?_
  rintro e w20 ⟨rfl, c20⟩
  have b20 := bnext b19 c20
  replace ow0 := (deskD.ow_below ow0 c20)
  replace ox0 := (deskD.ow_below ox0 c20)
  replace og0 := (deskD.ow_below og0 c20)
  replace oh0 := (deskD.ow_below oh0 c20)
  replace DaK := DaK.below c20
  replace Dw0 := Dw0.below c20
  replace Dx0 := Dx0.below c20
  replace Dg0 := Dg0.below c20
  replace Dh0 := Dh0.below c20
  have s20_ : w19.heap.size ≤ w20.heap.size := c20.size
  have cg00 : w20.cell? ⟨w8.heap.size, 0, none⟩ = some (.int .i64 (heard x0 n1).yard.now) := Dg0.cell 0 _ rfl
  have cg01 : w20.cell? ⟨w8.heap.size, 1, none⟩ = some (.int .i64 (heard x0 n1).yard.seq) := Dg0.cell 1 _ rfl
  have cg02 : w20.cell? ⟨w8.heap.size, 2, none⟩ = some (.slice rg0.1.1.a rg0.1.1.n rg0.1.1.c) := Dg0.cell 2 _ rfl
  have cg03 : w20.cell? ⟨w8.heap.size, 3, none⟩ = some (.slice rg0.1.2.a rg0.1.2.n rg0.1.2.c) := Dg0.cell 3 _ rfl
  have cg04 : w20.cell? ⟨w8.heap.size, 4, none⟩ = some (.slice rg0.2.a rg0.2.n rg0.2.c) := Dg0.cell 4 _ rfl
  have cg05 : w20.cell? ⟨w8.heap.size, 5, none⟩ = some (.int .i64 (heard x0 n1).fr) := Dg0.cell 5 _ rfl
  have cg0s := Dg0.lt
  go_wp2_with fail
  clear cg00 cg01 cg02 cg03 cg04 cg05 cg0s
  refine (heldDesk_own (heard x0 n1) rg0 1 _ hmr (by omega) (by omega) (deskD.ow_rd og0)).mono ?_
  rintro e w21 ⟨rfl, c21⟩
  have b21 := bnext b20 c21
  replace ow0 := (deskD.ow_below ow0 c21)
  replace ox0 := (deskD.ow_below ox0 c21)
  replace og0 := (deskD.ow_below og0 c21)
  replace oh0 := (deskD.ow_below oh0 c21)
  replace DaK := DaK.below c21
  replace Dw0 := Dw0.below c21
  replace Dx0 := Dx0.below c21
  replace Dg0 := Dg0.below c21
  replace Dh0 := Dh0.below c21
  have s21_ : w20.heap.size ≤ w21.heap.size := c21.size
  go_wp2_with fail
  go_ret
  exact ⟨rfl, b21⟩
end Go.Proofs.YtjobmbjadpldfaaGreat
end
