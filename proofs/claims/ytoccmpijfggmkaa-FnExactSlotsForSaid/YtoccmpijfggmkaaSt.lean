/-
  slices.Sort on a slice of the call's own; BeforeOf and BehindOf of the program.
-/
import Derived.Test.YtoccmpijfggmkaaCt
import Derived.Test.YtoccmpijfggmkaaShelf
import Derived.Sort.OwnSortedInts
namespace Go.Proofs.Ytoccmpijfggmkaa
open Go.RowKit
set_option maxRecDepth 100000
set_option maxHeartbeats 2000000

theorem natE_flat (l : List Nat) : l.flatMap natE.cells = (l.map fun (x : Nat) => (x : Int)).map (Value.int .i64) := by
  induction l with
  | nil => rfl
  | cons a l ih => rw [List.flatMap_cons, ih]; rfl

theorem sorted_nat {l l' : List Nat} (hp : l'.Perm l) (hs : l'.Pairwise (· ≤ ·)) : ((l.map fun (x : Nat) => (x : Int)).mergeSort fun x y => decide (x ≤ y)) = l'.map fun (x : Nat) => (x : Int) := by
  have h1 := List.mergeSort_perm (l.map fun (x : Nat) => (x : Int)) (fun x y => decide (x ≤ y))
  have h2 := List.pairwise_mergeSort (le := fun x y : Int => decide (x ≤ y)) (fun a b c h1 h2 => by simp at *; omega) (fun a b => by simp; omega) (l.map fun (x : Nat) => (x : Int))
  have h3 : (l'.map fun (x : Nat) => (x : Int)).Pairwise (fun x y => decide (x ≤ y) = true) := by
    rw [List.pairwise_map]
    exact hs.imp (fun h => by simpa using h)
  refine List.Perm.eq_of_pairwise (le := fun x y => decide (x ≤ y) = true) ?_ h2 h3 (h1.trans (hp.symm.map _))
  intro a b _ _ h h'
  simp at h h'
  omega

theorem sortInt_any (v : Value) (l l' : List Nat) (base : Nat) (w : World) (hl : l.length ≤ 2000000) (hp : l'.Perm l) (hs : l'.Pairwise (· ≤ ·)) (ho : Ow natE 3 w base v l) :
    Calls Try.prog 151 #[v] w fun e w' => e = .returned (.tuple #[]) ∧ Ow natE 3 w' base v l' ∧ w.grownBy w' v.ownBlock := by
  rcases ho.2 with ⟨rfl, hn⟩ | ⟨g, cap, cur, rfl, hg, hh, hc, hm, hsz, ht⟩
  · have hl0 : l = [] := List.eq_nil_of_length_eq_zero hn
    subst hl0
    have : l' = [] := List.Perm.eq_nil hp
    subst this
    refine (Try.slices_Sort_int_none none 0 w).mono ?_
    rintro e w' ⟨he, rfl⟩
    exact ⟨he, ho, World.grownBy.refl _ _⟩
  · have hll : (l.map fun (x : Nat) => (x : Int)).length = l.length := List.length_map _
    have ht' : cur.toList.take (l.map fun (x : Nat) => (x : Int)).length = (l.map fun (x : Nat) => (x : Int)).map (Value.int .i64) := by
      rw [hll, ← natE_flat, ← ht]
      simp [natE]
    have hH := holds_of_blockI hh ht'
    have hgl : g < w.heap.size := (Array.getElem?_eq_some_iff.1 hh).1
    have h := Try.slices_Sort_int g 0 cap (l.map fun (x : Nat) => (x : Int)) w hH hgl (by rw [hll]; omega)
    rw [hll] at h
    refine h.mono ?_
    rintro e w' ⟨he, n, os, rfl⟩
    rw [sorted_nat hp hs]
    refine ⟨he, ?_, grownBy_sortedI _⟩
    have hlen : l'.length = l.length := hp.length_eq
    have := ownsRow_sortedI (n := n) (os := os) (ss := l.map fun (x : Nat) => (x : Int)) (ts := l'.map fun (x : Nat) => (x : Int)) (by simp [hlen]) hg hh (by rw [hll]; exact hc) hm hsz
    unfold Ow
    rw [hlen, natE_flat]
    rw [hll] at this
    exact this

theorem beforeL_sorted (es : List (Nat × Nat)) (T t : Nat) : (beforeL es T t).Pairwise (· ≤ ·) := (List.pairwise_lt_range.imp (fun h => Nat.le_of_lt h)).filter _
theorem behindL_sorted (es : List (Nat × Nat)) (T t : Nat) : (behindL es T t).Pairwise (· ≤ ·) := (List.pairwise_lt_range.imp (fun h => Nat.le_of_lt h)).filter _

/-- the ends that edges to t come from, in the edges' order; those that edges from t go to -/
def fromsL (es : List (Nat × Nat)) (t : Nat) : List Nat := (es.filter fun e => decide (e.2 = t)).map (·.1)
def tosL (es : List (Nat × Nat)) (t : Nat) : List Nat := (es.filter fun e => decide (e.1 = t)).map (·.2)
theorem fromsL_len (es : List (Nat × Nat)) (t : Nat) : (fromsL es t).length ≤ es.length := by
  simp only [fromsL, List.length_map]; exact List.length_filter_le _ _
theorem tosL_len (es : List (Nat × Nat)) (t : Nat) : (tosL es t).length ≤ es.length := by
  simp only [tosL, List.length_map]; exact List.length_filter_le _ _
theorem fromsL_yes {l l' : List (Nat × Nat)} {a d : Nat} (h : l' = l ++ [(a, d)]) : fromsL l' d = fromsL l d ++ [a] := by
  subst h; simp [fromsL, List.filter_append]
theorem tosL_yes {l l' : List (Nat × Nat)} {a d : Nat} (h : l' = l ++ [(a, d)]) : tosL l' a = tosL l a ++ [d] := by
  subst h; simp [tosL, List.filter_append]
theorem fromsL_no {l l' : List (Nat × Nat)} {a d t : Nat} (h : l' = l ++ [(a, d)]) (hx : ¬ d = t) : fromsL l' t = fromsL l t := by
  subst h; simp [fromsL, List.filter_append, hx]
theorem tosL_no {l l' : List (Nat × Nat)} {a d t : Nat} (h : l' = l ++ [(a, d)]) (hx : ¬ a = t) : tosL l' t = tosL l t := by
  subst h; simp [tosL, List.filter_append, hx]
theorem esOf_nodup {p : Plan} (he : edgesIn p) (hn : p.edges.Nodup) : (esOf p).Nodup := by
  unfold esOf esL
  show List.Pairwise _ _
  rw [List.pairwise_map]
  refine List.Pairwise.imp_of_mem ?_ hn
  intro x y hx hy hne e
  have h1 := he x hx
  have h2 := he y hy
  simp only [edgeIn, Bool.and_eq_true, inB_iff] at h1 h2
  simp only [Prod.mk.injEq] at e
  apply hne
  cases x; cases y
  simp only [Edge.mk.injEq] at *
  omega
theorem fromsL_perm {p : Plan} (he : edgesIn p) (hn : p.edges.Nodup) (t : Nat) : (beforeL (esOf p) p.tasks.toNat t).Perm (fromsL (esOf p) t) := by
  refine (List.perm_ext_iff_of_nodup (List.nodup_range.filter _) ?_).2 ?_
  · unfold fromsL
    show List.Pairwise _ _
    rw [List.pairwise_map]
    refine List.Pairwise.imp_of_mem ?_ ((esOf_nodup he hn).filter _)
    intro x y hx hy hne e
    simp only [List.mem_filter, decide_eq_true_eq] at hx hy
    exact hne (Prod.ext e (hx.2.trans hy.2.symm))
  · intro x
    simp only [fromsL, List.mem_filter, List.mem_range, decide_eq_true_eq, List.mem_map, Prod.exists]
    constructor
    · rintro ⟨_, h⟩; exact ⟨x, t, ⟨h, rfl⟩, rfl⟩
    · rintro ⟨a, b, ⟨h, rfl⟩, rfl⟩; exact ⟨(esOf_lt he).1 _ h, h⟩
theorem tosL_perm {p : Plan} (he : edgesIn p) (hn : p.edges.Nodup) (t : Nat) : (behindL (esOf p) p.tasks.toNat t).Perm (tosL (esOf p) t) := by
  refine (List.perm_ext_iff_of_nodup (List.nodup_range.filter _) ?_).2 ?_
  · unfold tosL
    show List.Pairwise _ _
    rw [List.pairwise_map]
    refine List.Pairwise.imp_of_mem ?_ ((esOf_nodup he hn).filter _)
    intro x y hx hy hne e
    simp only [List.mem_filter, decide_eq_true_eq] at hx hy
    exact hne (Prod.ext (hx.2.trans hy.2.symm) e)
  · intro x
    simp only [tosL, List.mem_filter, List.mem_range, decide_eq_true_eq, List.mem_map, Prod.exists]
    constructor
    · rintro ⟨_, h⟩; exact ⟨t, x, ⟨h, rfl⟩, rfl⟩
    · rintro ⟨a, b, ⟨h, rfl⟩, rfl⟩; exact ⟨(esOf_lt he).2 _ h, h⟩

theorem implBefore_any (p : Plan) (ve : Value) (t : Nat) (w : World) (hf : planFault p = 0) (h : Rd edgeE w w.heap.size ve p.edges) :
    Calls Try.prog 133 #[planV p ve, .int .i64 (t : Int)] w fun e w' => ∃ v, e = .returned v ∧ Ow natE 3 w' w.heap.size v (beforeL (esOf p) p.tasks.toNat t) ∧ Below w.heap.size w w' := by
  obtain ⟨A, c, rfl, -⟩ := id h
  have G := Lib.hid (planFault_zero.1 hf)
  have hlen := manyOk_edges G.out.1
  have hl : p.edges.length ≤ 2000000 := by omega
  have hfb : (planFault p != 0) = false := by simp [hf]
  clear hf
  obtain ⟨j0, hj0, jz0, jz1, jz2⟩ := info_parts int_info
  have hb0 := planBox_below 47 p (.slice A p.edges.length c) w
  have D0 := BoxAt.new 47 p (.slice A p.edges.length c) w
  have hw0 := planBox_size 47 p (.slice A p.edges.length c) w
  have Hw0 := Lib.hid hw0
  clear hw0
  unfold planV
  go_enter Try.func133, Try.ntmps133
  go_wp2_with fail
  refine (implPlanFault_any p _ _ hl ((h.below hb0).more hb0.size)).mono ?_
  rintro e w1 ⟨rfl, hb1⟩
  have D := D0.below hb1
  have hb := bnext hb0 hb1
  obtain ⟨x0, x1, x2, x3, x4, xs⟩ := D.cells
  go_wp2
  clear x0 x1 x2 x3 x4
  go_loopw [5, 14] (fun vl i wr => ∃ k : Nat, k ≤ p.edges.length ∧ i = .int .i64 k ∧ Ow natE 3 wr (w.heap.size + 1) vl (fromsL (esL (p.edges.take k)) t) ∧ Below w.heap.size w wr ∧ w.heap.size < wr.heap.size) (fun _ i _ => p.edges.length - (intOf i).toNat)
  case atStart => exact ⟨0, Nat.zero_le _, rfl, by simpa [fromsL, esL] using Ow.nil natE 3 w1 (w.heap.size + 1), hb, xs⟩
  case round =>
    clear D hb hb1 D0 xs
    obtain ⟨k, hk, rfl, ho, hb, hsz⟩ := hrel
    by_cases hlt : k < p.edges.length
    · have hltI : (k : Int) < (p.edges.length : Int) := by omega
      obtain ⟨b, o, rfl, hbb, c0, c1⟩ := (h.below hb).edge hlt
      obtain ⟨f1, f2, f3, f4⟩ := edgesIn_get G.out.2.1 hlt
      have htk := Lib.hid (show esL (p.edges.take (k + 1)) = esL (p.edges.take k) ++ [(p.edges[k].fr.toNat, p.edges[k].to.toNat)] by unfold esL; rw [take_snoc _ k hlt, List.map_append]; rfl)
      generalize p.edges[k].fr = fx at *
      generalize p.edges[k].to = tx at *
      obtain ⟨a, rfl⟩ := Int.eq_ofNat_of_zero_le f1
      obtain ⟨d, rfl⟩ := Int.eq_ofNat_of_zero_le f3
      simp only [Int.toNat_natCast] at htk
      by_cases hx : d = t
      · subst hx
        have S := Lib.hid (fromsL_yes (l := esL (p.edges.take k)) htk.out)
        have Hl := Lib.hid (show (fromsL (esL (p.edges.take k)) d).length ≤ 3000000 by
          have h1 := fromsL_len (esL (p.edges.take k)) d
          rw [esL_length, List.length_take] at h1
          omega)
        have hab : ((d : Int) == (d : Int)) = true := by simp
        have ha : Hid (∀ w : World, Below w.heap.size w ((w.alloc (.cells #[.int .i64 (a : Int), .int .i64 (d : Int)] 91)).alloc (.cells #[.int .i64 (a : Int)] 3))) := fun w => ((Below.refl _ _).alloc (Nat.le_refl _) _).alloc (by simp) _
        go_wp2_with (at_builtin; refine wpList_push_all _ natE (by decide) rfl (.tmp 22) (.tmp 25) rfl Try.underlying50 hj0 jz0 jz1 jz2 rfl (l := fromsL (esL (p.edges.take k)) d) rfl (ho.below (ha.out wr)) rfl (Rd.one natE _ _ a (by simp) rfl 1 (Nat.le_refl _) (Nat.lt_succ_self _)) Hl.out (by simp) (by decide) (by simp; omega) ?_; intro v5 w5 o5 g5 _)
        have hb' := bnext hb (ha.out wr)
        have W5 := hb'.grown g5 hb'.size (fun g hg => by have := ho.within _ hg; omega)
        have hz5 := g5.size
        simp only [World.size_alloc] at hz5
        refine ⟨⟨k + 1, by omega, by go_num, ?_, W5, by omega⟩, by simp [intOf]; omega⟩
        rw [S.out]
        exact o5
      · have S := Lib.hid (fromsL_no (l := esL (p.edges.take k)) (t := t) htk.out hx)
        have hab : ((d : Int) == (t : Int)) = false := beq_eq_false_iff_ne.2 (by omega)
        have ha : Hid (∀ w : World, Below w.heap.size w (w.alloc (.cells #[.int .i64 (a : Int), .int .i64 (d : Int)] 91))) := fun w => (Below.refl _ _).alloc (Nat.le_refl _) _
        clear hx
        go_wp2
        refine ⟨⟨k + 1, by omega, by go_num, ?_, bnext hb (ha.out wr), by simp; omega⟩, by simp [intOf]; omega⟩
        rw [S.out]
        exact ho.below (ha.out wr)
    · have hltI : ¬ (k : Int) < (p.edges.length : Int) := by omega
      have hk' : k = p.edges.length := by omega
      subst hk'
      rw [List.take_length] at ho
      go_wp2_with fail
      have hL : (fromsL (esOf p) t).length ≤ 2000000 := by
        have h1 := fromsL_len (esOf p) t
        unfold esOf at h1 ⊢
        rw [esL_length] at h1
        omega
      refine (sortInt_any _ (fromsL (esOf p) t) (beforeL (esOf p) p.tasks.toNat t) _ _ hL (fromsL_perm G.out.2.1 G.out.2.2.1 t) (beforeL_sorted _ _ _) ho).mono ?_
      rintro e w2 ⟨rfl, o2, g2⟩
      have hb2 := hb.grown g2 hb.size (fun g hg => by have := ho.within _ hg; omega)
      go_wp2
      go_ret
      exact ⟨_, rfl, o2.more (by omega), hb2⟩

theorem implBehind_any (p : Plan) (ve : Value) (t : Nat) (w : World) (hf : planFault p = 0) (h : Rd edgeE w w.heap.size ve p.edges) :
    Calls Try.prog 135 #[planV p ve, .int .i64 (t : Int)] w fun e w' => ∃ v, e = .returned v ∧ Ow natE 3 w' w.heap.size v (behindL (esOf p) p.tasks.toNat t) ∧ Below w.heap.size w w' := by
  obtain ⟨A, c, rfl, -⟩ := id h
  have G := Lib.hid (planFault_zero.1 hf)
  have hlen := manyOk_edges G.out.1
  have hl : p.edges.length ≤ 2000000 := by omega
  have hfb : (planFault p != 0) = false := by simp [hf]
  clear hf
  obtain ⟨j0, hj0, jz0, jz1, jz2⟩ := info_parts int_info
  have hb0 := planBox_below 47 p (.slice A p.edges.length c) w
  have D0 := BoxAt.new 47 p (.slice A p.edges.length c) w
  have hw0 := planBox_size 47 p (.slice A p.edges.length c) w
  have Hw0 := Lib.hid hw0
  clear hw0
  unfold planV
  go_enter Try.func135, Try.ntmps135
  go_wp2_with fail
  refine (implPlanFault_any p _ _ hl ((h.below hb0).more hb0.size)).mono ?_
  rintro e w1 ⟨rfl, hb1⟩
  have D := D0.below hb1
  have hb := bnext hb0 hb1
  obtain ⟨x0, x1, x2, x3, x4, xs⟩ := D.cells
  go_wp2
  clear x0 x1 x2 x3 x4
  go_loopw [5, 14] (fun vl i wr => ∃ k : Nat, k ≤ p.edges.length ∧ i = .int .i64 k ∧ Ow natE 3 wr (w.heap.size + 1) vl (tosL (esL (p.edges.take k)) t) ∧ Below w.heap.size w wr ∧ w.heap.size < wr.heap.size) (fun _ i _ => p.edges.length - (intOf i).toNat)
  case atStart => exact ⟨0, Nat.zero_le _, rfl, by simpa [tosL, esL] using Ow.nil natE 3 w1 (w.heap.size + 1), hb, xs⟩
  case round =>
    clear D hb hb1 D0 xs
    obtain ⟨k, hk, rfl, ho, hb, hsz⟩ := hrel
    by_cases hlt : k < p.edges.length
    · have hltI : (k : Int) < (p.edges.length : Int) := by omega
      obtain ⟨b, o, rfl, hbb, c0, c1⟩ := (h.below hb).edge hlt
      obtain ⟨f1, f2, f3, f4⟩ := edgesIn_get G.out.2.1 hlt
      have htk := Lib.hid (show esL (p.edges.take (k + 1)) = esL (p.edges.take k) ++ [(p.edges[k].fr.toNat, p.edges[k].to.toNat)] by unfold esL; rw [take_snoc _ k hlt, List.map_append]; rfl)
      generalize p.edges[k].fr = fx at *
      generalize p.edges[k].to = tx at *
      obtain ⟨a, rfl⟩ := Int.eq_ofNat_of_zero_le f1
      obtain ⟨d, rfl⟩ := Int.eq_ofNat_of_zero_le f3
      simp only [Int.toNat_natCast] at htk
      by_cases hx : a = t
      · subst hx
        have S := Lib.hid (tosL_yes (l := esL (p.edges.take k)) htk.out)
        have Hl := Lib.hid (show (tosL (esL (p.edges.take k)) a).length ≤ 3000000 by
          have h1 := tosL_len (esL (p.edges.take k)) a
          rw [esL_length, List.length_take] at h1
          omega)
        have hab : ((a : Int) == (a : Int)) = true := by simp
        have ha : Hid (∀ w : World, Below w.heap.size w ((w.alloc (.cells #[.int .i64 (a : Int), .int .i64 (d : Int)] 91)).alloc (.cells #[.int .i64 (d : Int)] 3))) := fun w => ((Below.refl _ _).alloc (Nat.le_refl _) _).alloc (by simp) _
        go_wp2_with (at_builtin; refine wpList_push_all _ natE (by decide) rfl (.tmp 22) (.tmp 25) rfl Try.underlying50 hj0 jz0 jz1 jz2 rfl (l := tosL (esL (p.edges.take k)) a) rfl (ho.below (ha.out wr)) rfl (Rd.one natE _ _ d (by simp) rfl 1 (Nat.le_refl _) (Nat.lt_succ_self _)) Hl.out (by simp) (by decide) (by simp; omega) ?_; intro v5 w5 o5 g5 _)
        have hb' := bnext hb (ha.out wr)
        have W5 := hb'.grown g5 hb'.size (fun g hg => by have := ho.within _ hg; omega)
        have hz5 := g5.size
        simp only [World.size_alloc] at hz5
        refine ⟨⟨k + 1, by omega, by go_num, ?_, W5, by omega⟩, by simp [intOf]; omega⟩
        rw [S.out]
        exact o5
      · have S := Lib.hid (tosL_no (l := esL (p.edges.take k)) (t := t) htk.out hx)
        have hab : ((a : Int) == (t : Int)) = false := beq_eq_false_iff_ne.2 (by omega)
        have ha : Hid (∀ w : World, Below w.heap.size w (w.alloc (.cells #[.int .i64 (a : Int), .int .i64 (d : Int)] 91))) := fun w => (Below.refl _ _).alloc (Nat.le_refl _) _
        clear hx
        go_wp2
        refine ⟨⟨k + 1, by omega, by go_num, ?_, bnext hb (ha.out wr), by simp; omega⟩, by simp [intOf]; omega⟩
        rw [S.out]
        exact ho.below (ha.out wr)
    · have hltI : ¬ (k : Int) < (p.edges.length : Int) := by omega
      have hk' : k = p.edges.length := by omega
      subst hk'
      rw [List.take_length] at ho
      go_wp2_with fail
      have hL : (tosL (esOf p) t).length ≤ 2000000 := by
        have h1 := tosL_len (esOf p) t
        unfold esOf at h1 ⊢
        rw [esL_length] at h1
        omega
      refine (sortInt_any _ (tosL (esOf p) t) (behindL (esOf p) p.tasks.toNat t) _ _ hL (tosL_perm G.out.2.1 G.out.2.2.1 t) (behindL_sorted _ _ _) ho).mono ?_
      rintro e w2 ⟨rfl, o2, g2⟩
      have hb2 := hb.grown g2 hb.size (fun g hg => by have := ho.within _ hg; omega)
      go_wp2
      go_ret
      exact ⟨_, rfl, o2.more (by omega), hb2⟩
end Go.Proofs.Ytoccmpijfggmkaa
