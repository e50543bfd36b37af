/-
  slices.Insert at []impl.Fence: one value, laid in a block of its own. Written by program (ins.py).
-/
import Derived.Test.YtoccmpijfggmkaaCy
import Derived.Test.YtoccmpijfggmkaaCy
import Derived.Test.YtoccmpijfggmkaaFy
import Derived.Laws.Externs
import Derived.Laws.NewBlocks
namespace Go.Proofs.Ytoccmpijfggmkaa
open Go.RowKit
set_option maxRecDepth 100000
set_option maxHeartbeats 4000000

theorem insertFence_any (v : Value) (l : List Fence) (i xb : Nat) (x : Fence) (base : Nat) (w : World) (hi : i ≤ l.length) (hl : l.length ≤ 1000000) (ho : Ow fenceE 80 w base v l) (hbase : base ≤ w.heap.size)
    (hx : w.heap[xb]? = some (.cells (fenceE.cells x).toArray 80 (0, 0))) (hne : v.ownBlock ≠ some xb) :
    Calls Try.prog 140 #[v, .int .i64 (i : Int), .slice (some ⟨xb, 0, none⟩) 1 1] w fun e w' => ∃ v', e = .returned v' ∧ Ow fenceE 80 w' base v' (l.take i ++ x :: l.drop i) ∧ w.grownBy w' v.ownBlock ∧ (v'.ownBlock = v.ownBlock ∨ v'.ownBlock = some w.heap.size) := by
  obtain ⟨j0, hj0, jz0, jz1, jz2⟩ := info_parts fence_info
  have hxb : xb < w.heap.size := (Array.getElem?_eq_some_iff.1 hx).1
  have hxc : ∀ j u, (fenceE.cells x)[j]? = some u → w.cell? ((⟨xb, 0, none⟩ : Addr).add j) = some u := fun j u hu => by
    have h0 : w.cell? ⟨xb, j, none⟩ = (fenceE.cells x).toArray[j]? := cell_of_row _ _ j _ _ (0, 0) hx
    have e : ((⟨xb, 0, none⟩ : Addr).add j) = ⟨xb, j, none⟩ := by unfold Addr.add; split <;> simp_all
    rw [e, h0]
    simpa using hu
  have hrx : Rd fenceE w w.heap.size (.slice (some ⟨xb, 0, none⟩) 1 1) [x] := by
    refine ⟨_, 1, rfl, by simp, fun _ => ⟨xb, 0, rfl, hxb, fun k hk j u hu => ?_⟩⟩
    have hk0 : k = 0 := by simpa using hk
    subst hk0
    have e : (⟨xb, 0 + 0 * fenceE.sz + j, none⟩ : Addr) = (⟨xb, 0, none⟩ : Addr).add j := by unfold Addr.add; split <;> simp_all
    rw [e]
    exact hxc j u hu
  by_cases hend : i = l.length
  · have Hl := Lib.hid (show l.take i ++ x :: l.drop i = l ++ [x] by rw [hend, List.take_length, List.drop_length])
    have HO := Lib.hid ho
    have HX := Lib.hid hx
    have HXC := Lib.hid hxc
    have HNE := Lib.hid hne
    obtain ⟨A, c, rfl, hc, -⟩ := id (Rd.of_own ho)
    have hlc : l.length ≤ c := hc
    subst hend
    clear ho hx hxc hne hi
    have h0 : ¬ (l.length : Int) < 0 := by omega
    by_cases hcl : c = l.length
    all_goals
      (try subst hcl)
      go_enter Try.func140, Try.ntmps140
      go_wp2_with (at_builtin; refine wpList_push_all _ fenceE (by decide) rfl (.tmp 23) (.tmp 24) rfl Try.underlying32 hj0 jz0 jz1 jz2 rfl (v := .slice A l.length _) (l := l) rfl HO.out (A := some ⟨xb, 0, none⟩) (m := 1) (c := 1) rfl hrx (by omega) (by simp) (by decide) (by omega) ?_; intro v5 w5 o5 g5 f5)
      go_ret
      exact ⟨v5, rfl, by first | exact o5 | (rw [Hl.out]; exact o5), g5, f5⟩
  have hlt : i < l.length := by omega
  obtain ⟨g, cap, rfl, hg1, hg2, -⟩ : ∃ g cap, v = .slice (some ⟨g, 0, none⟩) l.length cap ∧ base ≤ g ∧ g < w.heap.size ∧ True := by
    rcases ho.form with ⟨_, e0⟩ | ⟨g, cap, e1, h1, h2, _⟩
    · rw [e0] at hlt; simp at hlt
    · exact ⟨g, cap, e1, h1, h2, trivial⟩
  obtain ⟨-, -, hncap, hcm, cur, hrow, hclen, hcur⟩ := ho.row
  have hne' : xb ≠ g := fun e => hne (by rw [e]; rfl)
  have hsz : (Try.prog.info? 80).map (·.size) = some 4 := by rw [hj0]; simp [jz1]
  have hesz : fenceE.sz = 4 := rfl
  have hLl : (l.flatMap fenceE.cells).length = l.length * 4 := fenceE.flat_length l
  have hxl : (fenceE.cells x).length = 4 := fenceE.len x
  have hdl : ((l.flatMap fenceE.cells).drop (i * 4)).length = (l.length - i) * 4 := by rw [List.length_drop, hLl, Nat.sub_mul]
  have hone : ∀ u ∈ l.flatMap fenceE.cells, u.oneCell' = true := fun u hu => by
    obtain ⟨y, _, hy⟩ := List.mem_flatMap.1 hu
    exact fenceE.one y u hy
  have hfi := Lib.hid (flat_insert fenceE l i (by omega) x)
  rw [hesz] at hcur hclen hfi
  have hcell : ∀ j u, (l.flatMap fenceE.cells)[j]? = some u → w.cell? ⟨g, j, none⟩ = some u := fun j u hu => by
    have h0 : w.cell? ⟨g, j, none⟩ = cur.toArray[j]? := cell_of_row _ _ j _ _ (0, 0) hrow
    rw [h0, ← hcur, List.getElem?_take] at *
    split at hu
    · simpa using hu
    · cases hu
  have Hone := Lib.hid hone
  have Hcell := Lib.hid hcell
  have HX := Lib.hid hx
  have HXC := Lib.hid hxc
  have Hrow := Lib.hid hrow
  have Hclen := Lib.hid hclen
  have Hcur := Lib.hid hcur
  have HO := Lib.hid ho
  have Hxl := Lib.hid hxl
  have Hdl := Lib.hid hdl
  have HLl := Lib.hid hLl
  have HSZ := Lib.hid hsz
  have hcm2 : cap ≤ 9223372036854775807 := by simpa [maxLen] using hcm
  have hn1 : ¬ ((i : Int) = (l.length : Int)) := by omega
  have hib : ((i : Int) == (l.length : Int)) = false := beq_eq_false_iff_ne.2 hn1
  have hw1 : IntKind.i64.wrap ((i : Int) + 1) = (i : Int) + 1 := IntWalk.i64_in _ (by omega)
  have hw2 : IntKind.i64.wrap ((l.length : Int) + 1) = (l.length : Int) + 1 := IntWalk.i64_in _ (by omega)
  have hb1 : (0 : Int) ≤ (i : Int) + 1 := by omega
  have htn : ((i : Int) + 1).toNat = i + 1 := by omega
  have htn2 : ((l.length : Int) + 1).toNat = l.length + 1 := by omega
  have hc1 : ¬ cap = i := by omega
  have hiI : (i : Int) ≤ (l.length : Int) := by omega
  have hicap : (i : Int) ≤ (cap : Int) := by omega
  clear ho hx hxc hne hrow hclen hcur hone hcell hcm hlt hend hi hrx hLl hxl hdl hsz hesz
  by_cases hroom : l.length + 1 ≤ cap
  · -- there is room: in place
    have hc2 : ¬ cap = i + 1 := by omega
    have hro : ¬ (cap : Int) < (l.length : Int) + 1 := by omega
    have hi1 : (i : Int) + 1 ≤ (l.length : Int) + 1 := by omega
    have hi2 : (i : Int) ≤ (l.length : Int) + 1 := by omega
    have hshx : w.shape? xb = some (80, 4) := by unfold World.shape?; rw [HX.out]; simp [Hxl.out]
    have hshg : w.shape? g = some (80, cap * 4) := by unfold World.shape?; rw [Hrow.out]; simp [Hclen.out]
    have hfx : ∀ o, w.frozen? ⟨xb, o, none⟩ = false := fun o => by unfold World.frozen?; rw [HX.out]; simp
    have hov : ∀ lb cb, (callFunc 152 #[.slice (some ⟨xb, 0, none⟩) 1 1, .slice (some ⟨g, (i + 1) * 4, none⟩) lb cb]).run Try.prog w = .ok (.value (.bool false)) w := fun lb cb => by
      rw [run_callFunc_extern Try.func152 (by kernel_rfl) (by kernel_rfl) (by kernel_rfl) (e := Extern.SlicesOverlaps.overlaps #[32, 32] #[4]) (by kernel_rfl),
        Lib.run_overlaps_apart w 32 4 80 Try.underlying32 4 (fun w => by simp [sizeOf, typeInfo, hj0, jz1]) ⟨xb, 0, none⟩ ⟨g, (i + 1) * 4, none⟩ 1 1 lb cb hne' 80 80 4 (cap * 4) hshx hshg (by have : 1 * 4 ≤ cap * 4 := Nat.mul_le_mul_right _ (by omega); omega) (hfx _) (hfx _)]
      rfl
    have Hsh := Lib.hid hshx
    have Hsg := Lib.hid hshg
    have Hfx := Lib.hid hfx
    clear hshx hshg hfx
    go_enter Try.func140, Try.ntmps140
    go_wp2_with (simp only [hov])
    have e1 := Lib.hid (show ((l.flatMap fenceE.cells).drop (i * 4)).length = Nat.min (l.length + 1 - i) (l.length - i) * 4 by rw [Hdl.out]; congr 1; simp only [Nat.min_def]; split <;> omega)
    have e2 := Lib.hid (show ∀ j u, ((l.flatMap fenceE.cells).drop (i * 4))[j]? = some u → w.drew.cell? ((⟨g, i * 4, none⟩ : Addr).add j) = some u from row_cells Hrow.out _ (fun j u hu => by
      rw [List.getElem?_drop, ← Hcur.out, List.getElem?_take] at hu
      split at hu
      · exact hu
      · cases hu))
    have e3 := Lib.hid (show (i + 1) * 4 + ((l.flatMap fenceE.cells).drop (i * 4)).length ≤ cur.length by
      rw [Hdl.out, Hclen.out, ← Nat.add_mul]
      exact Nat.mul_le_mul_right _ (by omega))
    have e4 := Lib.hid (show ∀ u ∈ (l.flatMap fenceE.cells).drop (i * 4), u.oneCell' = true from fun u hu => Hone.out u (List.mem_of_mem_drop hu))
    go_region_law (refine step_copy_sz w.drew rfl (.tmp 73) (.tmp 76) 32 32 rfl 80 4 Try.underlying32 HSZ.out g ((i + 1) * 4) (l.length - i) (cap - (i + 1)) ⟨g, i * 4, none⟩ (l.length + 1 - i) (cap - i) (by simp [Act.eval, Act.put]) (by simp [Act.eval, Act.put]) cur 80 Hrow.out ((l.flatMap fenceE.cells).drop (i * 4)) e1.out e2.out e3.out e4.out ?_; intro w1 r1 g1)
    have f1 := Lib.hid (show (fenceE.cells x).length = Nat.min 1 (l.length + 1 - i) * 4 by rw [Hxl.out]; simp only [Nat.min_def]; split <;> omega)
    have f2 := Lib.hid (show ∀ j u, (fenceE.cells x)[j]? = some u → w1.cell? ((⟨xb, 0, none⟩ : Addr).add j) = some u from row_cells (row_keep g1 (w := w.drew) HX.out (fun e => hne' (Option.some.inj e))) _ (fun j u hu => by rw [Nat.zero_add]; exact hu))
    have hin := Lib.hid (insert_back fenceE l i (by omega) x cur Hcur.out (by rw [Hclen.out]; exact Nat.mul_le_mul_right _ hroom))
    have f3 := Lib.hid (show i * 4 + (fenceE.cells x).length ≤ (splice cur ((i + 1) * 4) ((l.flatMap fenceE.cells).drop (i * 4))).length by
      rw [splice_length _ _ _ e3.out, Hxl.out, Hclen.out, ← Nat.succ_mul]
      exact Nat.mul_le_mul_right _ (by omega))
    have f4 := Lib.hid (fenceE.one x)
    clear e1 e2 e3 e4 hov
    go_wp2_with (refine wpList_copy_sz w1 rfl (.tmp 80) (.tmp 81) 32 32 rfl 80 4 Try.underlying32 HSZ.out g (i * 4) (l.length + 1 - i) (cap - i) ⟨xb, 0, none⟩ 1 1 (by simp [Act.eval]) (by simp [Act.eval]) _ 80 r1.out (fenceE.cells x) f1.out f2.out f3.out f4.out ?_; intro w2 r2 g2)
    go_ret
    have ho2 := Ow.of_row (e := fenceE) (E := 80) (l := l.take i ++ x :: l.drop i) (cap := cap) (base := base) r2.out (hin.out.2.trans Hclen.out) (by rw [insert_len l i (by omega) x]; exact hin.out.1) hg1 (by rw [insert_len l i (by omega) x]; exact hroom) (by simpa [maxLen] using hcm2)
    rw [insert_len l i (by omega) x] at ho2
    exact ⟨_, rfl, ho2, (grown_drew g1).trans g2, .inl rfl⟩
  · -- no room: a new row
    obtain rfl : cap = l.length := by omega
    have hro : (l.length : Int) < (l.length : Int) + 1 := by omega
    have hw3 : IntKind.i64.wrap ((l.length : Int) + 1 - (i : Int)) = (l.length : Int) + 1 - (i : Int) := IntWalk.i64_in _ (by omega)
    have a1 := Lib.hid (show ((l.flatMap fenceE.cells).take (i * 4)).length = i * 4 by
      rw [List.length_take, HLl.out]
      exact Nat.min_eq_left (Nat.mul_le_mul_right _ (by omega)))
    have a2 := Lib.hid (show ∀ j u, ((l.flatMap fenceE.cells).take (i * 4))[j]? = some u → w.cell? ((⟨g, 0, none⟩ : Addr).add j) = some u from row_cells Hrow.out _ (fun j u hu => by
      rw [List.getElem?_take] at hu
      split at hu
      · rw [← Hcur.out, List.getElem?_take] at hu
        split at hu
        · rw [Nat.zero_add]; exact hu
        · cases hu
      · cases hu))
    have hm1 := Lib.hid (show (l.length : Int) + 1 - (i : Int) = ((l.length + 1 - i : Nat) : Int) by omega)
    have hi3 : 0 < l.length + 1 - i := by omega
    have hGg : w.heap.size ≠ g := by omega
    have hxG : xb ≠ w.heap.size := by omega
    have f1 := Lib.hid (show (fenceE.cells x).length = Nat.min 1 (l.length + 1 - i) * 4 by rw [Hxl.out]; simp only [Nat.min_def]; split <;> omega)
    have f4 := Lib.hid (fenceE.one x)
    have e1 := Lib.hid (show ((l.flatMap fenceE.cells).drop (i * 4)).length = Nat.min (l.length - i) (l.length - i) * 4 by rw [Hdl.out]; congr 1; simp only [Nat.min_def]; split <;> omega)
    have e4 := Lib.hid (show ∀ u ∈ (l.flatMap fenceE.cells).drop (i * 4), u.oneCell' = true from fun u hu => Hone.out u (List.mem_of_mem_drop hu))
    have e2 := Lib.hid (show ∀ W : World, W.heap[g]? = w.heap[g]? → ∀ j u, ((l.flatMap fenceE.cells).drop (i * 4))[j]? = some u → W.cell? ((⟨g, i * 4, none⟩ : Addr).add j) = some u from fun W hW => row_cells (hW.trans Hrow.out) _ (fun j u hu => by
      rw [List.getElem?_drop, ← Hcur.out, List.getElem?_take] at hu
      split at hu
      · exact hu
      · cases hu))
    go_enter Try.func140, Try.ntmps140
    go_wp2_with (first
      | (refine wpList_append_zeros w rfl (.tmp 34) (.tmp 39) 32 3 rfl 80 j0 _ 4 _ .i64 .i64 Try.underlying32 Try.underlying3 hj0 jz0 jz1 jz2 rfl (by decide) ⟨g, 0, none⟩ i l.length _ (by simp [Act.eval]) (l.length + 1 - i) ((l.length : Int) + 1 - (i : Int)) hm1.out (by simp [Act.eval]) a1.out a2.out hi3 (by omega) (by omega) (by decide) (l.length + 1) (by omega) ?_; intro w1 c R r1 rl rt hc3 hc4 g1 s1; have hci : ¬ c = i := (by omega); have hci1 : ¬ c = i + 1 := (by omega); have hi2 : (i : Int) ≤ (l.length : Int) + 1 := (by omega); have hi1 : (i : Int) + 1 ≤ (l.length : Int) + 1 := (by omega); have hc5 : (l.length : Int) + 1 ≤ (c : Int) := (by omega); have f2 := Lib.hid (show ∀ j u, (fenceE.cells x)[j]? = some u → w1.cell? ((⟨xb, 0, none⟩ : Addr).add j) = some u from row_cells (row_keep g1 HX.out (by simp)) _ (fun j u hu => by rw [Nat.zero_add]; exact hu)); have f3 := Lib.hid (show i * 4 + (fenceE.cells x).length ≤ R.length by rw [Hxl.out, rl.out, ← Nat.succ_mul]; exact Nat.mul_le_mul_right _ (by omega)); have hin := Lib.hid (insert_two fenceE l i (by omega) x R rt.out (by rw [rl.out]; exact Nat.mul_le_mul_right _ hc3)); have hgw1 := Lib.hid (g1.block g hg2 (by simp)); clear hm1)
      | (refine wpList_copy_sz w1 rfl (.tmp 43) (.tmp 44) 32 32 rfl 80 4 Try.underlying32 HSZ.out w.heap.size (i * 4) (l.length + 1 - i) (c - i) ⟨xb, 0, none⟩ 1 1 (by simp [Act.eval]) (by simp [Act.eval]) _ 80 r1.out (fenceE.cells x) f1.out f2.out f3.out f4.out ?_; intro w2 r2 g2))
    have e3 := Lib.hid (show (i + 1) * 4 + ((l.flatMap fenceE.cells).drop (i * 4)).length ≤ (splice R (i * 4) (fenceE.cells x)).length by
      rw [splice_length _ _ _ f3.out, Hdl.out, rl.out, ← Nat.add_mul]
      exact Nat.mul_le_mul_right _ (by omega))
    have e2' := Lib.hid (e2.out w2.drew ((g2.block g (by omega) (fun e => hGg (Option.some.inj e).symm)).trans hgw1.out))
    clear e2 hgw1
    go_region_law (refine step_copy_sz w2.drew rfl (.tmp 50) (.tmp 53) 32 32 rfl 80 4 Try.underlying32 HSZ.out w.heap.size ((i + 1) * 4) (l.length - i) (c - (i + 1)) ⟨g, i * 4, none⟩ (l.length - i) (l.length - i) (by simp [Act.eval, Act.put]) (by simp [Act.eval, Act.put]) _ 80 r2.out ((l.flatMap fenceE.cells).drop (i * 4)) e1.out e2'.out e3.out e4.out ?_; intro w3 r3 g3)
    go_wp2_with fail
    go_ret
    have ho2 := Ow.of_row (e := fenceE) (E := 80) (l := l.take i ++ x :: l.drop i) (cap := c) (base := base) r3.out (hin.out.2.trans rl.out) (by rw [insert_len l i (by omega) x]; exact hin.out.1) hbase (by rw [insert_len l i (by omega) x]; exact hc3) (by simpa [maxLen] using hc4)
    rw [insert_len l i (by omega) x] at ho2
    exact ⟨_, rfl, ho2, grown_new (grown_new (grown_none g1 (some g)) g2 (Nat.le_refl _)) (grown_drew g3) (Nat.le_refl _), .inr rfl⟩
end Go.Proofs.Ytoccmpijfggmkaa
