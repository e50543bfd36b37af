/-
  slices.Sort on a slice of the call's own; BeforeOf and BehindOf of the program. OrderOf of the program. l06From of the reference: the search by a list. PlanFault of the reference. WeightsOk of the program. WeightsOk of the reference. WorkOf of both. EarliestOf of the program. OrderOf of the reference. EarliestOf of the reference. LongestOf of both.
-/
import Derived.Test.YtnaicippgocdfaaZW1
import Derived.Sort.OwnSortedInts
import Derived.Deep.RegionWith
section
namespace Go.Proofs.Ytnaicippgocdfaa
open Go.RowKit
set_option maxRecDepth 100000
set_option maxHeartbeats 2000000

theorem natE_flat (l : List Nat) : l.flatMap natE.cells = (l.map fun (x : Nat) => (x : Int)).map (Value.int .i64) := by
  induction l with
  | nil => rfl
  | cons a l ih => rw [List.flatMap_cons, ih]; rfl

theorem sorted_nat {l l' : List Nat} (hp : l'.Perm l) (hs : l'.Pairwise (· ≤ ·)) : ((l.map fun (x : Nat) => (x : Int)).mergeSort fun x y => decide (x ≤ y)) = l'.map fun (x : Nat) => (x : Int) := by
  have h1 := List.mergeSort_perm (l.map fun (x : Nat) => (x : Int)) (fun x y => decide (x ≤ y))
  have h2 := List.pairwise_mergeSort (le := fun x y : Int => decide (x ≤ y)) (fun a b c h1 h2 => by simp at *; omega) (fun a b => by simp; omega) (l.map fun (x : Nat) => (x : Int))
  have h3 : (l'.map fun (x : Nat) => (x : Int)).Pairwise (fun x y => decide (x ≤ y) = true) := by
    rw [List.pairwise_map]
    exact hs.imp (fun h => by simpa using h)
  refine List.Perm.eq_of_pairwise (le := fun x y => decide (x ≤ y) = true) ?_ h2 h3 (h1.trans (hp.symm.map _))
  intro a b _ _ h h'
  simp at h h'
  omega

theorem sortInt_any (v : Value) (l l' : List Nat) (base : Nat) (w : World) (hl : l.length ≤ 2000000) (hp : l'.Perm l) (hs : l'.Pairwise (· ≤ ·)) (ho : Ow natE 3 w base v l) :
    Calls Try.prog 72 #[v] w fun e w' => e = .returned (.tuple #[]) ∧ Ow natE 3 w' base v l' ∧ w.grownBy w' v.ownBlock := by
  rcases ho.2 with ⟨rfl, hn⟩ | ⟨g, cap, cur, rfl, hg, hh, hc, hm, hsz, ht⟩
  · have hl0 : l = [] := List.eq_nil_of_length_eq_zero hn
    subst hl0
    have : l' = [] := List.Perm.eq_nil hp
    subst this
    refine (Try.slices_Sort_int_none none 0 w).mono ?_
    rintro e w' ⟨he, rfl⟩
    exact ⟨he, ho, World.grownBy.refl _ _⟩
  · have hll : (l.map fun (x : Nat) => (x : Int)).length = l.length := List.length_map _
    have ht' : cur.toList.take (l.map fun (x : Nat) => (x : Int)).length = (l.map fun (x : Nat) => (x : Int)).map (Value.int .i64) := by
      rw [hll, ← natE_flat, ← ht]
      simp [natE]
    have hH := holds_of_blockI hh ht'
    have hgl : g < w.heap.size := (Array.getElem?_eq_some_iff.1 hh).1
    have h := Try.slices_Sort_int g 0 cap (l.map fun (x : Nat) => (x : Int)) w hH hgl (by rw [hll]; omega)
    rw [hll] at h
    refine h.mono ?_
    rintro e w' ⟨he, n, os, rfl⟩
    rw [sorted_nat hp hs]
    refine ⟨he, ?_, grownBy_sortedI _⟩
    have hlen : l'.length = l.length := hp.length_eq
    have := ownsRow_sortedI (n := n) (os := os) (ss := l.map fun (x : Nat) => (x : Int)) (ts := l'.map fun (x : Nat) => (x : Int)) (by simp [hlen]) hg hh (by rw [hll]; exact hc) hm hsz
    unfold Ow
    rw [hlen, natE_flat]
    rw [hll] at this
    exact this

theorem beforeL_sorted (es : List (Nat × Nat)) (T t : Nat) : (beforeL es T t).Pairwise (· ≤ ·) := (List.pairwise_lt_range.imp (fun h => Nat.le_of_lt h)).filter _
theorem behindL_sorted (es : List (Nat × Nat)) (T t : Nat) : (behindL es T t).Pairwise (· ≤ ·) := (List.pairwise_lt_range.imp (fun h => Nat.le_of_lt h)).filter _

/-- the ends that edges to t come from, in the edges' order; those that edges from t go to -/
def fromsL (es : List (Nat × Nat)) (t : Nat) : List Nat := (es.filter fun e => decide (e.2 = t)).map (·.1)
def tosL (es : List (Nat × Nat)) (t : Nat) : List Nat := (es.filter fun e => decide (e.1 = t)).map (·.2)
theorem fromsL_len (es : List (Nat × Nat)) (t : Nat) : (fromsL es t).length ≤ es.length := by
  simp only [fromsL, List.length_map]; exact List.length_filter_le _ _
theorem tosL_len (es : List (Nat × Nat)) (t : Nat) : (tosL es t).length ≤ es.length := by
  simp only [tosL, List.length_map]; exact List.length_filter_le _ _
theorem fromsL_yes {l l' : List (Nat × Nat)} {a d : Nat} (h : l' = l ++ [(a, d)]) : fromsL l' d = fromsL l d ++ [a] := by
  subst h; simp [fromsL, List.filter_append]
theorem tosL_yes {l l' : List (Nat × Nat)} {a d : Nat} (h : l' = l ++ [(a, d)]) : tosL l' a = tosL l a ++ [d] := by
  subst h; simp [tosL, List.filter_append]
theorem fromsL_no {l l' : List (Nat × Nat)} {a d t : Nat} (h : l' = l ++ [(a, d)]) (hx : ¬ d = t) : fromsL l' t = fromsL l t := by
  subst h; simp [fromsL, List.filter_append, hx]
theorem tosL_no {l l' : List (Nat × Nat)} {a d t : Nat} (h : l' = l ++ [(a, d)]) (hx : ¬ a = t) : tosL l' t = tosL l t := by
  subst h; simp [tosL, List.filter_append, hx]
theorem esOf_nodup {p : Plan} (he : edgesIn p) (hn : p.edges.Nodup) : (esOf p).Nodup := by
  unfold esOf esL
  show List.Pairwise _ _
  rw [List.pairwise_map]
  refine List.Pairwise.imp_of_mem ?_ hn
  intro x y hx hy hne e
  have h1 := he x hx
  have h2 := he y hy
  simp only [edgeIn, Bool.and_eq_true, inB_iff] at h1 h2
  simp only [Prod.mk.injEq] at e
  apply hne
  cases x; cases y
  simp only [Edge.mk.injEq] at *
  omega
theorem fromsL_perm {p : Plan} (he : edgesIn p) (hn : p.edges.Nodup) (t : Nat) : (beforeL (esOf p) p.tasks.toNat t).Perm (fromsL (esOf p) t) := by
  refine (List.perm_ext_iff_of_nodup (List.nodup_range.filter _) ?_).2 ?_
  · unfold fromsL
    show List.Pairwise _ _
    rw [List.pairwise_map]
    refine List.Pairwise.imp_of_mem ?_ ((esOf_nodup he hn).filter _)
    intro x y hx hy hne e
    simp only [List.mem_filter, decide_eq_true_eq] at hx hy
    exact hne (Prod.ext e (hx.2.trans hy.2.symm))
  · intro x
    simp only [fromsL, List.mem_filter, List.mem_range, decide_eq_true_eq, List.mem_map, Prod.exists]
    constructor
    · rintro ⟨_, h⟩; exact ⟨x, t, ⟨h, rfl⟩, rfl⟩
    · rintro ⟨a, b, ⟨h, rfl⟩, rfl⟩; exact ⟨(esOf_lt he).1 _ h, h⟩
theorem tosL_perm {p : Plan} (he : edgesIn p) (hn : p.edges.Nodup) (t : Nat) : (behindL (esOf p) p.tasks.toNat t).Perm (tosL (esOf p) t) := by
  refine (List.perm_ext_iff_of_nodup (List.nodup_range.filter _) ?_).2 ?_
  · unfold tosL
    show List.Pairwise _ _
    rw [List.pairwise_map]
    refine List.Pairwise.imp_of_mem ?_ ((esOf_nodup he hn).filter _)
    intro x y hx hy hne e
    simp only [List.mem_filter, decide_eq_true_eq] at hx hy
    exact hne (Prod.ext (hx.2.trans hy.2.symm) e)
  · intro x
    simp only [tosL, List.mem_filter, List.mem_range, decide_eq_true_eq, List.mem_map, Prod.exists]
    constructor
    · rintro ⟨_, h⟩; exact ⟨t, x, ⟨h, rfl⟩, rfl⟩
    · rintro ⟨a, b, ⟨h, rfl⟩, rfl⟩; exact ⟨(esOf_lt he).2 _ h, h⟩

theorem implBefore_any (p : Plan) (ve : Value) (t : Nat) (w : World) (hf : planFault p = 0) (h : Rd edgeE w w.heap.size ve p.edges) :
    Calls Try.prog 56 #[planV p ve, .int .i64 (t : Int)] w fun e w' => ∃ v, e = .returned v ∧ Ow natE 3 w' w.heap.size v (beforeL (esOf p) p.tasks.toNat t) ∧ Below w.heap.size w w' := by
  obtain ⟨A, c, rfl, -⟩ := id h
  have G := Lib.hid (planFault_zero.1 hf)
  have hlen := manyOk_edges G.out.1
  have hl : p.edges.length ≤ 2000000 := by omega
  have hfb : (planFault p != 0) = false := by simp [hf]
  clear hf
  obtain ⟨j0, hj0, jz0, jz1, jz2⟩ := info_parts int_info
  have hb0 := planBox_below 26 p (.slice A p.edges.length c) w
  have D0 := BoxAt.new 26 p (.slice A p.edges.length c) w
  have hw0 := planBox_size 26 p (.slice A p.edges.length c) w
  have Hw0 := Lib.hid hw0
  clear hw0
  unfold planV
  go_enter Try.func56, Try.ntmps56
  go_wp2_with fail
  refine (implPlanFault_any p _ _ hl ((h.below hb0).more hb0.size)).mono ?_
  rintro e w1 ⟨rfl, hb1⟩
  have D := D0.below hb1
  have hb := bnext hb0 hb1
  obtain ⟨x0, x1, x2, x3, x4, xs⟩ := D.cells
  go_wp2
  clear x0 x1 x2 x3 x4
  go_loopw [5, 14] (fun vl i wr => ∃ k : Nat, k ≤ p.edges.length ∧ i = .int .i64 k ∧ Ow natE 3 wr (w.heap.size + 1) vl (fromsL (esL (p.edges.take k)) t) ∧ Below w.heap.size w wr ∧ w.heap.size < wr.heap.size) (fun _ i _ => p.edges.length - (intOf i).toNat)
  case atStart => exact ⟨0, Nat.zero_le _, rfl, by simpa [fromsL, esL] using Ow.nil natE 3 w1 (w.heap.size + 1), hb, xs⟩
  case round =>
    clear D hb hb1 D0 xs
    obtain ⟨k, hk, rfl, ho, hb, hsz⟩ := hrel
    by_cases hlt : k < p.edges.length
    · have hltI : (k : Int) < (p.edges.length : Int) := by omega
      obtain ⟨b, o, rfl, hbb, c0, c1⟩ := (h.below hb).edge hlt
      obtain ⟨f1, f2, f3, f4⟩ := edgesIn_get G.out.2.1 hlt
      have htk := Lib.hid (show esL (p.edges.take (k + 1)) = esL (p.edges.take k) ++ [(p.edges[k].fr.toNat, p.edges[k].to.toNat)] by unfold esL; rw [take_snoc _ k hlt, List.map_append]; rfl)
      generalize p.edges[k].fr = fx at *
      generalize p.edges[k].to = tx at *
      obtain ⟨a, rfl⟩ := Int.eq_ofNat_of_zero_le f1
      obtain ⟨d, rfl⟩ := Int.eq_ofNat_of_zero_le f3
      simp only [Int.toNat_natCast] at htk
      by_cases hx : d = t
      · subst hx
        have S := Lib.hid (fromsL_yes (l := esL (p.edges.take k)) htk.out)
        have Hl := Lib.hid (show (fromsL (esL (p.edges.take k)) d).length ≤ 3000000 by
          have h1 := fromsL_len (esL (p.edges.take k)) d
          rw [esL_length, List.length_take] at h1
          omega)
        have hab : ((d : Int) == (d : Int)) = true := by simp
        have ha : Hid (∀ w : World, Below w.heap.size w ((w.alloc (.cells #[.int .i64 (a : Int), .int .i64 (d : Int)] 52)).alloc (.cells #[.int .i64 (a : Int)] 3))) := fun w => ((Below.refl _ _).alloc (Nat.le_refl _) _).alloc (by simp) _
        go_wp2_with (at_builtin; refine wpList_push_all _ natE (by decide) rfl (.tmp 22) (.tmp 25) rfl Try.underlying27 hj0 jz0 jz1 jz2 rfl (l := fromsL (esL (p.edges.take k)) d) rfl (ho.below (ha.out wr)) rfl (Rd.one natE _ _ a (by simp) rfl 1 (Nat.le_refl _) (Nat.lt_succ_self _)) Hl.out (by simp) (by decide) (by simp; omega) ?_; intro v5 w5 o5 g5 _)
        have hb' := bnext hb (ha.out wr)
        have W5 := hb'.grown g5 hb'.size (fun g hg => by have := ho.within _ hg; omega)
        have hz5 := g5.size
        simp only [World.size_alloc] at hz5
        refine ⟨⟨k + 1, by omega, by go_num, ?_, W5, by omega⟩, by simp [intOf]; omega⟩
        rw [S.out]
        exact o5
      · have S := Lib.hid (fromsL_no (l := esL (p.edges.take k)) (t := t) htk.out hx)
        have hab : ((d : Int) == (t : Int)) = false := beq_eq_false_iff_ne.2 (by omega)
        have ha : Hid (∀ w : World, Below w.heap.size w (w.alloc (.cells #[.int .i64 (a : Int), .int .i64 (d : Int)] 52))) := fun w => (Below.refl _ _).alloc (Nat.le_refl _) _
        clear hx
        go_wp2
        refine ⟨⟨k + 1, by omega, by go_num, ?_, bnext hb (ha.out wr), by simp; omega⟩, by simp [intOf]; omega⟩
        rw [S.out]
        exact ho.below (ha.out wr)
    · have hltI : ¬ (k : Int) < (p.edges.length : Int) := by omega
      have hk' : k = p.edges.length := by omega
      subst hk'
      rw [List.take_length] at ho
      go_wp2_with fail
      have hL : (fromsL (esOf p) t).length ≤ 2000000 := by
        have h1 := fromsL_len (esOf p) t
        unfold esOf at h1 ⊢
        rw [esL_length] at h1
        omega
      refine (sortInt_any _ (fromsL (esOf p) t) (beforeL (esOf p) p.tasks.toNat t) _ _ hL (fromsL_perm G.out.2.1 G.out.2.2.1 t) (beforeL_sorted _ _ _) ho).mono ?_
      rintro e w2 ⟨rfl, o2, g2⟩
      have hb2 := hb.grown g2 hb.size (fun g hg => by have := ho.within _ hg; omega)
      go_wp2
      go_ret
      exact ⟨_, rfl, o2.more (by omega), hb2⟩

theorem implBehind_any (p : Plan) (ve : Value) (t : Nat) (w : World) (hf : planFault p = 0) (h : Rd edgeE w w.heap.size ve p.edges) :
    Calls Try.prog 59 #[planV p ve, .int .i64 (t : Int)] w fun e w' => ∃ v, e = .returned v ∧ Ow natE 3 w' w.heap.size v (behindL (esOf p) p.tasks.toNat t) ∧ Below w.heap.size w w' := by
  obtain ⟨A, c, rfl, -⟩ := id h
  have G := Lib.hid (planFault_zero.1 hf)
  have hlen := manyOk_edges G.out.1
  have hl : p.edges.length ≤ 2000000 := by omega
  have hfb : (planFault p != 0) = false := by simp [hf]
  clear hf
  obtain ⟨j0, hj0, jz0, jz1, jz2⟩ := info_parts int_info
  have hb0 := planBox_below 26 p (.slice A p.edges.length c) w
  have D0 := BoxAt.new 26 p (.slice A p.edges.length c) w
  have hw0 := planBox_size 26 p (.slice A p.edges.length c) w
  have Hw0 := Lib.hid hw0
  clear hw0
  unfold planV
  go_enter Try.func59, Try.ntmps59
  go_wp2_with fail
  refine (implPlanFault_any p _ _ hl ((h.below hb0).more hb0.size)).mono ?_
  rintro e w1 ⟨rfl, hb1⟩
  have D := D0.below hb1
  have hb := bnext hb0 hb1
  obtain ⟨x0, x1, x2, x3, x4, xs⟩ := D.cells
  go_wp2
  clear x0 x1 x2 x3 x4
  go_loopw [5, 14] (fun vl i wr => ∃ k : Nat, k ≤ p.edges.length ∧ i = .int .i64 k ∧ Ow natE 3 wr (w.heap.size + 1) vl (tosL (esL (p.edges.take k)) t) ∧ Below w.heap.size w wr ∧ w.heap.size < wr.heap.size) (fun _ i _ => p.edges.length - (intOf i).toNat)
  case atStart => exact ⟨0, Nat.zero_le _, rfl, by simpa [tosL, esL] using Ow.nil natE 3 w1 (w.heap.size + 1), hb, xs⟩
  case round =>
    clear D hb hb1 D0 xs
    obtain ⟨k, hk, rfl, ho, hb, hsz⟩ := hrel
    by_cases hlt : k < p.edges.length
    · have hltI : (k : Int) < (p.edges.length : Int) := by omega
      obtain ⟨b, o, rfl, hbb, c0, c1⟩ := (h.below hb).edge hlt
      obtain ⟨f1, f2, f3, f4⟩ := edgesIn_get G.out.2.1 hlt
      have htk := Lib.hid (show esL (p.edges.take (k + 1)) = esL (p.edges.take k) ++ [(p.edges[k].fr.toNat, p.edges[k].to.toNat)] by unfold esL; rw [take_snoc _ k hlt, List.map_append]; rfl)
      generalize p.edges[k].fr = fx at *
      generalize p.edges[k].to = tx at *
      obtain ⟨a, rfl⟩ := Int.eq_ofNat_of_zero_le f1
      obtain ⟨d, rfl⟩ := Int.eq_ofNat_of_zero_le f3
      simp only [Int.toNat_natCast] at htk
      by_cases hx : a = t
      · subst hx
        have S := Lib.hid (tosL_yes (l := esL (p.edges.take k)) htk.out)
        have Hl := Lib.hid (show (tosL (esL (p.edges.take k)) a).length ≤ 3000000 by
          have h1 := tosL_len (esL (p.edges.take k)) a
          rw [esL_length, List.length_take] at h1
          omega)
        have hab : ((a : Int) == (a : Int)) = true := by simp
        have ha : Hid (∀ w : World, Below w.heap.size w ((w.alloc (.cells #[.int .i64 (a : Int), .int .i64 (d : Int)] 52)).alloc (.cells #[.int .i64 (d : Int)] 3))) := fun w => ((Below.refl _ _).alloc (Nat.le_refl _) _).alloc (by simp) _
        go_wp2_with (at_builtin; refine wpList_push_all _ natE (by decide) rfl (.tmp 22) (.tmp 25) rfl Try.underlying27 hj0 jz0 jz1 jz2 rfl (l := tosL (esL (p.edges.take k)) a) rfl (ho.below (ha.out wr)) rfl (Rd.one natE _ _ d (by simp) rfl 1 (Nat.le_refl _) (Nat.lt_succ_self _)) Hl.out (by simp) (by decide) (by simp; omega) ?_; intro v5 w5 o5 g5 _)
        have hb' := bnext hb (ha.out wr)
        have W5 := hb'.grown g5 hb'.size (fun g hg => by have := ho.within _ hg; omega)
        have hz5 := g5.size
        simp only [World.size_alloc] at hz5
        refine ⟨⟨k + 1, by omega, by go_num, ?_, W5, by omega⟩, by simp [intOf]; omega⟩
        rw [S.out]
        exact o5
      · have S := Lib.hid (tosL_no (l := esL (p.edges.take k)) (t := t) htk.out hx)
        have hab : ((a : Int) == (t : Int)) = false := beq_eq_false_iff_ne.2 (by omega)
        have ha : Hid (∀ w : World, Below w.heap.size w (w.alloc (.cells #[.int .i64 (a : Int), .int .i64 (d : Int)] 52))) := fun w => (Below.refl _ _).alloc (Nat.le_refl _) _
        clear hx
        go_wp2
        refine ⟨⟨k + 1, by omega, by go_num, ?_, bnext hb (ha.out wr), by simp; omega⟩, by simp [intOf]; omega⟩
        rw [S.out]
        exact ho.below (ha.out wr)
    · have hltI : ¬ (k : Int) < (p.edges.length : Int) := by omega
      have hk' : k = p.edges.length := by omega
      subst hk'
      rw [List.take_length] at ho
      go_wp2_with fail
      have hL : (tosL (esOf p) t).length ≤ 2000000 := by
        have h1 := tosL_len (esOf p) t
        unfold esOf at h1 ⊢
        rw [esL_length] at h1
        omega
      refine (sortInt_any _ (tosL (esOf p) t) (behindL (esOf p) p.tasks.toNat t) _ _ hL (tosL_perm G.out.2.1 G.out.2.2.1 t) (behindL_sorted _ _ _) ho).mono ?_
      rintro e w2 ⟨rfl, o2, g2⟩
      have hb2 := hb.grown g2 hb.size (fun g hg => by have := ho.within _ hg; omega)
      go_wp2
      go_ret
      exact ⟨_, rfl, o2.more (by omega), hb2⟩
end Go.Proofs.Ytnaicippgocdfaa
end
section
namespace Go.Proofs.Ytnaicippgocdfaa
open Go.RowKit
set_option maxRecDepth 100000
set_option maxHeartbeats 2000000

open Classical in
noncomputable def orderOf (p : Plan) : List Nat := if planFault p = 0 then orderL (esOf p) p.tasks.toNat p.tasks.toNat else []
/-- the length in a slot -/
def slen : Value → Nat | .slice _ n _ => n | _ => 0

theorem mayCome_before {es : List (Nat × Nat)} {T : Nat} {out : List Nat} {t : Nat} (h1 : ∀ e ∈ es, e.1 < T) : mayCome es out t = (!decide (t ∈ out) && decide (∀ x ∈ beforeL es T t, x ∈ out)) := by
  rw [Bool.eq_iff_iff, mayCome_iff, Bool.and_eq_true, Bool.not_eq_true', decide_eq_false_iff_not, decide_eq_true_iff]
  have hm : ∀ x, x ∈ beforeL es T t ↔ x < T ∧ (x, t) ∈ es := fun x => by simp [beforeL]
  constructor
  · rintro ⟨a, b⟩
    exact ⟨a, fun x hx => b x ((hm x).1 hx).2⟩
  · rintro ⟨a, b⟩
    exact ⟨a, fun s hs => b s ((hm s).2 ⟨h1 _ hs, hs⟩)⟩

theorem plan_ac {p : Plan} (hf : planFault p = 0) : ∀ t, t < p.tasks.toNat → ¬ Pg.Reach (esOf p) t t := fun t ht hr => (planFault_zero.1 hf).2.2.2 ⟨t, ht, hr⟩

theorem implOrder_any (p : Plan) (ve : Value) (w : World) (hl : p.edges.length ≤ 2000000) (h : Rd edgeE w w.heap.size ve p.edges) :
    Calls Try.prog 67 #[planV p ve] w fun e w' => ∃ v, e = .returned v ∧ Ow natE 3 w' w.heap.size v (orderOf p) ∧ Below w.heap.size w w' := by
  have hb0 := planBox_below 26 p ve w
  have D0 := BoxAt.new 26 p ve w
  have hw0 := planBox_size 26 p ve w
  have Hw0 := Lib.hid hw0
  clear hw0
  by_cases hf : planFault p = 0
  case neg =>
    have hfb : (planFault p != 0) = true := by simp [hf]
    have H := Lib.hid (show orderOf p = [] by unfold orderOf; rw [if_neg hf])
    clear hf
    unfold planV
    go_enter Try.func67, Try.ntmps67
    go_wp2_with fail
    refine (implPlanFault_any p ve _ hl ((h.below hb0).more hb0.size)).mono ?_
    rintro e w1 ⟨rfl, hb1⟩
    go_wp2
    go_ret
    exact ⟨_, rfl, by rw [H.out]; exact Ow.nil _ _ _ _, bnext hb0 hb1⟩
  have hfb : (planFault p != 0) = false := by simp [hf]
  have G := Lib.hid (planFault_zero.1 hf)
  have HF := Lib.hid hf
  have hac := Lib.hid (plan_ac hf)
  obtain ⟨t1, t2⟩ := manyOk_tasks G.out.1
  obtain ⟨T, hT⟩ := Int.eq_ofNat_of_zero_le (show 0 ≤ p.tasks by omega)
  have HT := Lib.hid hT
  have HTn := Lib.hid (show p.tasks.toNat = T by omega)
  have hT12 : T ≤ 12 := by omega
  have H := Lib.hid (show orderOf p = orderL (esOf p) T T by unfold orderOf; rw [if_pos hf, HTn.out])
  have he1 := Lib.hid (show ∀ e ∈ esOf p, e.1 < T by have := (esOf_lt G.out.2.1).1; rw [HTn.out] at this; exact this)
  have hac' := Lib.hid (show ∀ t, t < T → ¬ Pg.Reach (esOf p) t t by have := hac.out; rw [HTn.out] at this; exact this)
  clear hf hT hac
  obtain ⟨j0, hj0, jz0, jz1, jz2⟩ := info_parts int_info
  unfold planV
  go_enter Try.func67, Try.ntmps67
  go_wp2_with fail
  refine (implPlanFault_any p ve _ hl ((h.below hb0).more hb0.size)).mono ?_
  rintro e w1 ⟨rfl, hb1⟩
  have D := D0.below hb1
  have hb := bnext hb0 hb1
  go_wp2
  clear D0 hb1
  go_loopw [3] (fun vl wr => ∃ n : Nat, n ≤ T ∧ Ow natE 3 wr (w.heap.size + 1) vl (orderL (esOf p) T n) ∧ BoxAt w.heap.size p ve wr ∧ Below w.heap.size w wr) (fun vl _ => T - slen vl)
  case atStart => exact ⟨0, Nat.zero_le _, Ow.nil _ _ _ _, D, hb⟩
  case round =>
    clear D hb
    obtain ⟨n, hn, ho, D, hb⟩ := hrel
    have hinv := Lib.hid (orderL_inv he1.out hac'.out n hn)
    obtain ⟨A, c, rfl, -⟩ := id (Rd.of_own ho)
    have hlen : (orderL (esOf p) T n).length = n := hinv.out.len
    rw [hlen] at ho ⊢
    obtain ⟨x0, x1, x2, x3, x4, xs⟩ := D.cells
    have hlen2 : (orderL (esOf p) T n).length ≤ 2000000 := by omega
    have HL := Lib.hid hlen
    have HL2 := Lib.hid hlen2
    clear hlen hlen2
    by_cases hlt : n < T
    · have hltI : (n : Int) < p.tasks := by rw [HT.out]; omega
      obtain ⟨wo, rfl⟩ : ∃ wo : World, wo = wr := ⟨_, rfl⟩
      go_wp2
      clear x0 x1 x2 x3 x4 xs
      go_loopw [3, 4] (fun vl i wr => ∃ k : Nat, k ≤ T ∧ vl = .slice A n c ∧ i = .int .i64 k ∧ Hid (∀ s, s < k → mayCome (esOf p) (orderL (esOf p) T n) s = false) ∧ Ow natE 3 wr (w.heap.size + 1) (.slice A n c) (orderL (esOf p) T n) ∧ BoxAt w.heap.size p ve wr ∧ Below w.heap.size w wr) (fun _ i _ => T - (intOf i).toNat)
      case atStart => exact ⟨0, Nat.zero_le _, rfl, rfl, fun s hs => absurd hs (by omega), ho, D, hb⟩
      case round =>
        clear ho D hb
        obtain ⟨k, hk, rfl, rfl, hno, ho, D, hb⟩ := hrel
        obtain ⟨x0, x1, x2, x3, x4, xs⟩ := D.cells
        by_cases hkt : k < T
        · have hktI : (k : Int) < p.tasks := by rw [HT.out]; omega
          have hmc := Lib.hid (mayCome_before (out := orderL (esOf p) T n) (t := k) he1.out)
          have hnext : mayCome (esOf p) (orderL (esOf p) T n) k = false → Hid (∀ s, s < k + 1 → mayCome (esOf p) (orderL (esOf p) T n) s = false) := fun hm s hs => by
            by_cases e : s = k
            · subst e; exact hm
            · exact hno.out s (by omega)
          cases hin : decide (k ∈ orderL (esOf p) T n)
          · have Hin := Lib.hid hin
            clear hin
            go_wp2_with fail
            refine (containsInt_any (.slice A n c) (orderL (esOf p) T n) k _ _ HL2.out (Rd.of_own ho)).mono ?_
            rintro e w2 ⟨rfl, rfl⟩
            rw [Hin.out]
            go_wp2_with fail
            refine (implBefore_any p ve k _ HF.out ((h.below hb).more hb.size)).mono ?_
            rintro e w3 ⟨v3, rfl, o3, b3⟩
            rw [HTn.out] at o3
            have ho := ho.below b3
            have D := D.below b3
            have hb := bnext hb b3
            clear x0 x1 x2 x3 x4 xs
            go_wp2_with fail
            refine (allIn_any v3 (beforeL (esOf p) T k) (.slice A n c) (orderL (esOf p) T n) _ HL2.out (by have := beforeL_len (esOf p) T k; omega) (Rd.of_own o3) (Rd.of_own ho)).mono ?_
            rintro e w4 ⟨rfl, b4⟩
            have ho := ho.below b4
            have D := D.below b4
            have hb := bnext hb b4
            cases hall : decide (∀ x ∈ beforeL (esOf p) T k, x ∈ orderL (esOf p) T n)
            · have S := hnext (by rw [hmc.out, hall]; simp)
              clear hnext
              go_wp2
              exact ⟨⟨k + 1, by omega, rfl, by go_num, S, ho, D, hb⟩, by simp [intOf]; omega⟩
            · have S := Lib.hid (orderL_succ (pickT_first hkt (show mayCome (esOf p) (orderL (esOf p) T n) k = true by rw [hmc.out, hall, Hin.out]; rfl) hno.out))
              have ha : Hid (∀ w : World, Below w.heap.size w (w.alloc (.cells #[.int .i64 (k : Int)] 3))) := fun w => (Below.refl _ _).alloc (Nat.le_refl _) _
              clear hnext
              go_wp2_with (at_builtin; refine wpList_push_all _ natE (by decide) rfl (.tmp 30) (.tmp 32) rfl Try.underlying27 hj0 jz0 jz1 jz2 rfl (l := orderL (esOf p) T n) rfl (ho.below (ha.out w4)) rfl (Rd.one natE _ _ k rfl rfl 1 (Nat.le_refl _) (Nat.lt_succ_self _)) (by have := HL2.out; omega) (by simp) (by decide) (by have := D.lt; simp; omega) ?_; intro v5 w5 o5 g5 _; obtain ⟨A5, c5, rfl, -⟩ := id (Rd.of_own o5))
              have D5 := (D.below (ha.out w4)).far g5 (fun e => by have := ho.within _ e.symm; omega)
              have hb' := bnext hb (ha.out w4)
              have W5 := hb'.grown g5 hb'.size (fun g hg => by have := ho.within _ hg; omega)
              have hlen5 : (orderL (esOf p) T n ++ [k]).length = n + 1 := by rw [List.length_append, HL.out]; rfl
              refine ⟨⟨n + 1, by omega, ?_, D5, W5⟩, ?_⟩
              · rw [S.out]
                simpa using o5
              · simp only [slen]
                have := HL.out
                first | omega | (simp; omega)
          · have Hin := Lib.hid hin
            have S := hnext (by rw [hmc.out, hin]; rfl)
            clear hin hnext
            go_wp2_with fail
            refine (containsInt_any (.slice A n c) (orderL (esOf p) T n) k _ _ HL2.out (Rd.of_own ho)).mono ?_
            rintro e w2 ⟨rfl, rfl⟩
            rw [Hin.out]
            go_wp2
            exact ⟨⟨k + 1, by omega, rfl, by go_num, S, ho, D, hb⟩, by simp [intOf]; omega⟩
        · exfalso
          obtain ⟨t, _, ht, hm⟩ := pick_some he1.out hac'.out (exists_out (T := T) (o := orderL (esOf p) T n) (by rw [HL.out]; exact hlt))
          rw [hno.out t (by omega)] at hm
          cases hm
    · have hltI : ¬ (n : Int) < p.tasks := by rw [HT.out]; omega
      have hn' : n = T := by omega
      subst hn'
      go_wp2
      go_ret
      refine ⟨_, rfl, ?_, hb⟩
      rw [H.out]
      exact ho.more (by omega)
end Go.Proofs.Ytnaicippgocdfaa
end
section
namespace Go.Proofs.Ytnaicippgocdfaa
open Go.RowKit
set_option maxRecDepth 100000
set_option maxHeartbeats 2000000

theorem bool_info : (Try.prog.info? 4).map (fun i => (i.zero, i.size, i.bytes)) = some (some (.bool false), 1, 1) := by kernel_rfl

/-- what the search answers -/
def FromPost (p : Plan) (t : Nat) (w : World) (e : Ending) (w' : World) : Prop :=
  ∃ v O, e = .returned v ∧ Ow boolE 4 w' w.heap.size v O ∧ Below w.heap.size w w' ∧ O.length = p.tasks.toNat ∧ ∀ y, O.getD y false = true ↔ Pg.Reach (esOf p) t y

theorem from_any (p : Plan) (ve : Value) (t : Nat) (w : World) (hm : manyOk p = true) (he : edgesIn p) (ht : (t : Int) < p.tasks) (h : Rd edgeE w w.heap.size ve p.edges) :
    Calls Try.prog 74 #[planV p ve, .int .i64 (t : Int)] w (FromPost p t w) := by
  obtain ⟨A, c, rfl, -⟩ := id h
  obtain ⟨t1, t2⟩ := manyOk_tasks hm
  have hlen := manyOk_edges hm
  obtain ⟨T, hT⟩ := Int.eq_ofNat_of_zero_le (show 0 ≤ p.tasks by omega)
  have HT := Lib.hid hT
  have hT12 : T ≤ 12 := by omega
  have htT : t < T := by omega
  obtain ⟨i0, hi0, hz0, hz1, hz2⟩ := info_parts bool_info
  obtain ⟨j0, hj0, jz0, jz1, jz2⟩ := info_parts int_info
  have hmk : ∀ w : World, (Instr.makeSlice 71 (.int .i64 p.tasks) (.int .i64 p.tasks)).run Try.prog w = .ok (.slice (some ⟨w.heap.size, 0, none⟩) T T) (w.alloc (.cells (madeCells #[.bool false] (T * 1)) 4)) := by
    intro w
    have := run_make (P := Try.prog) w 71 4 i0 _ Try.underlying71 hi0 hz0 .i64 .i64 T T (by omega) (by omega) (by rw [hz2]; omega) (by omega)
    rw [hz1] at this
    rw [hT]
    simpa [Value.cells] using this
  have hes : (∀ e ∈ esOf p, e.1 < T) ∧ (∀ e ∈ esOf p, e.2 < T) := by
    have := esOf_lt he
    rw [hT] at this
    simpa using this
  clear hT
  unfold planV
  go_enter Try.func74, Try.ntmps74
  go_wp2
  go_loopw [6, 7] (fun vl i wr => ∃ (k : Nat) (s : List Bool × List Nat), Hid (Pg.Bat (esOf p) T t k s) ∧ i = .int .i64 k ∧ Ow boolE 4 wr (w.heap.size + 1) (.slice (some ⟨w.heap.size + 1, 0, none⟩) T T) s.1 ∧ Ow natE 3 wr (w.heap.size + 1) vl s.2 ∧
      Below (planBox 26 p (.slice A p.edges.length c) w).heap.size (planBox 26 p (.slice A p.edges.length c) w) wr) (fun _ i _ => T + 2 - (intOf i).toNat)
  case atStart =>
    refine ⟨0, _, Pg.Bat.start (esOf p) T t, rfl, ?_, ?_, ?_⟩
    · have := Ow.made boolE 4 (planBox 26 p (.slice A p.edges.length c) w) false T (by decide) (by simp [maxLen]; omega) (z := #[.bool false]) rfl (m := T) (by simp [boolE])
      rw [planBox_size] at this
      exact this.below ((Below.refl _ _).alloc (Nat.le_refl _) _)
    · have := World.ownsRow_lit (base := w.heap.size + 1) (e := 3) (size := 1) ((planBox 26 p (.slice A p.edges.length c) w).alloc (.cells (madeCells #[.bool false] T) 4)) #[.int .i64 (t : Int)] 1 (by simp [planBox_size]) (by simp [maxLen]) rfl
      simp only [World.size_alloc, planBox_size] at this
      exact this
    · exact ((Below.refl _ _).alloc (Nat.le_refl _) _).alloc (by simp) _
  case round =>
    obtain ⟨k, s, hbat, rfl, ho, hl, hb⟩ := hrel
    obtain ⟨x0, x1, x2, x3, x4, hs, hbw⟩ := planBox_cells hb
    have hs1 : w.heap.size < wr.heap.size := by omega
    have hkT := hbat.out.inv.lt
    have hkl := hbat.out.le
    have hol := Lib.hid hbat.out.inv.size
    rcases hl.form with ⟨_, e0⟩ | ⟨gl, cap, rfl, hgl0, hgl, hlc, hcm, hlf, hlcell⟩
    · exfalso
      obtain ⟨l, hh, _⟩ := hbat.out.inv.head
      rw [hh] at e0
      cases e0
    clear hlcell hlf
    by_cases hlt : k < s.2.length
    · have hltI : (k : Int) < (s.2.length : Int) := by omega
      obtain ⟨wo, rfl⟩ : ∃ wo : World, wo = wr := ⟨_, rfl⟩
      have hgx : s.2[k]? = some s.2[k] := List.getElem?_eq_getElem hlt
      have hBn := Lib.hid (hbat.out.next hes.2 hgx)
      clear hgx
      go_wp2
      go_loopw [6, 8] (fun vl i wr => ∃ (j : Nat), j ≤ p.edges.length ∧ i = .int .i64 j ∧ Ow boolE 4 wr (w.heap.size + 1) (.slice (some ⟨w.heap.size + 1, 0, none⟩) T T) (Pg.bnode (esL (p.edges.take j)) s.2[k] s).1 ∧ Ow natE 3 wr (w.heap.size + 1) vl (Pg.bnode (esL (p.edges.take j)) s.2[k] s).2 ∧
        Below (planBox 26 p (.slice A p.edges.length c) w).heap.size (planBox 26 p (.slice A p.edges.length c) w) wr) (fun _ i _ => p.edges.length - (intOf i).toNat)
      case atStart => exact ⟨0, Nat.zero_le _, rfl, ho, hl, hb⟩
      case round =>
        clear ho hl hb x0 x1 x2 x3 x4 hs hbw hs1 hgl0 hgl hlc hcm
        obtain ⟨j, hj, rfl, ho, hl, hb⟩ := hrel
        obtain ⟨x0, x1, x2, x3, x4, hs, hbw⟩ := planBox_cells hb
        have hs1 : w.heap.size < wr.heap.size := by omega
        by_cases hjt : j < p.edges.length
        · have hjI : (j : Int) < (p.edges.length : Int) := by omega
          obtain ⟨b, o, rfl, hbb, c0, c1⟩ := (h.below hbw).edge hjt
          obtain ⟨f1, f2, f3, f4⟩ := edgesIn_get he hjt
          rw [HT.out] at f2 f4
          have htk := Lib.hid (show esL (p.edges.take (j + 1)) = esL (p.edges.take j) ++ [(p.edges[j].fr.toNat, p.edges[j].to.toNat)] by unfold esL; rw [take_snoc _ j hjt, List.map_append]; rfl)
          generalize p.edges[j].fr = fx at *
          generalize p.edges[j].to = tx at *
          obtain ⟨a, rfl⟩ := Int.eq_ofNat_of_zero_le f1
          obtain ⟨d, rfl⟩ := Int.eq_ofNat_of_zero_le f3
          have hstep : Hid (Pg.bnode (esL (p.edges.take (j + 1))) s.2[k] s = Pg.bstep s.2[k] (Pg.bnode (esL (p.edges.take j)) s.2[k] s) (a, d)) := by
            show Pg.bnode _ _ _ = _
            rw [htk.out]
            simp only [Int.toNat_natCast]
            unfold Pg.bnode
            rw [List.foldl_append]
            rfl
          have hbl := Pg.bnode_length (esL (p.edges.take j)) s.2[k] s
          rw [hol.out] at hbl
          obtain ⟨r, hr⟩ := Pg.bnode_pre (esL (p.edges.take j)) s.2[k] s
          have hgk : (Pg.bnode (esL (p.edges.take j)) s.2[k] s).2[k]? = some s.2[k] := by rw [hr, List.getElem?_append_left hlt, List.getElem?_eq_getElem hlt]
          have hlen2 : s.2.length ≤ (Pg.bnode (esL (p.edges.take j)) s.2[k] s).2.length := by rw [hr]; simp
          clear hr htk
          generalize hS : Pg.bnode (esL (p.edges.take j)) s.2[k] s = S at *
          have HS := Lib.hid hS
          clear hS
          generalize hx : s.2[k] = x at *
          have HX := Lib.hid hx
          clear hx
          rcases hl.form with ⟨_, e0⟩ | ⟨gl', cap', rfl, hgl0, hgl, hlc, hcm, hlf, hlcell⟩
          · exfalso
            have := congrArg List.length e0
            simp only [List.length_nil] at this
            omega
          have hkS : k < S.2.length := by omega
          have hSk : Hid (S.2[k] = x) := by
            rw [List.getElem?_eq_getElem hkS] at hgk
            exact Option.some.inj hgk
          have cx := hl.nat hkS
          rw [hSk.out] at cx
          have hHbl := Lib.hid hbl
          have hdO : d < S.1.length := by rw [hbl]; omega
          have cO := ho.bool hdO
          have hgO := ho.blk.2
          have hkSI : (k : Int) < (S.2.length : Int) := by omega
          clear hbl hgk hlcell
          by_cases hax : a = x
          · subst hax
            have hgd : S.1.getD d true = S.1[d] := by rw [List.getD_eq_getElem?_getD, List.getElem?_eq_getElem hdO]; rfl
            have hab : ((a : Int) == (a : Int)) = true := by simp
            cases hO : S.1[d]
            · rw [hO] at cO
              have hnew : Hid (Pg.bnode (esL (p.edges.take (j + 1))) a s = (S.1.set d true, S.2 ++ [d])) := by
                show Pg.bnode _ _ _ = _
                rw [hstep.out]; unfold Pg.bstep; rw [if_pos ⟨rfl, by rw [hgd, hO]⟩]
              clear hgd hO hstep
              have e1 : (wr.alloc (.cells #[.int .i64 (a : Int), .int .i64 (d : Int)] 52)).cell? ⟨wr.heap.size, 1, none⟩ = some (.int .i64 (d : Int)) := by go_simp
              go_wp2
              go_quiet (fail)
              have hW := bdrewN ((Below.refl wr.heap.size wr).alloc (Nat.le_refl _) (.cells #[.int .i64 (a : Int), .int .i64 (d : Int)] 52)) nq
              have hb2 := bdrewN (hb.alloc hb.size (.cells #[.int .i64 (a : Int), .int .i64 (d : Int)] 52)) nq
              have e2 : ((wr.alloc (.cells #[.int .i64 (a : Int), .int .i64 (d : Int)] 52)).drewN nq).cell? ⟨wr.heap.size, 1, none⟩ = some (.int .i64 (d : Int)) := e1
              have hwn : wr.heap.size < ((wr.alloc (.cells #[.int .i64 (a : Int), .int .i64 (d : Int)] 52)).drewN nq).heap.size := by simp
              clear e1 c0 c1 cx cO
              generalize (wr.alloc (.cells #[.int .i64 (a : Int), .int .i64 (d : Int)] 52)).drewN nq = W2 at *
              have ho2 := ho.below hW
              have hl2 := hl.below hW
              have cO2 := ho2.bool hdO
              have hof := ho2.free
              have hput := Ow.put ho2 (n := T) (by rw [hHbl.out]) d (by omega) true
              simp only [boolE, Nat.mul_one] at hput
              have hl3 : Ow natE 3 (W2.setCell ⟨w.heap.size + 1, d, none⟩ (.bool true)) (w.heap.size + 1) (.slice (some ⟨gl', 0, none⟩) S.2.length cap') S.2 := hl2.grown hput.2 (by
                have := hl2.ne_ ho2 (by decide)
                simpa [Value.ownBlock] using this)
              have hkp := planBox_size 26 p (.slice (some ⟨b, o, none⟩) p.edges.length c) w
              have hb3 := hb2.grown hput.2 hb2.size (fun g hg => by rw [planBox_size]; simp at hg; omega)
              have ho3 := hput.1
              have hl4 := hl3.below ((Below.refl _ _).alloc (Nat.le_refl _) (.cells #[.int .i64 (d : Int)] 3))
              have hwz : w.heap.size + 1 ≤ W2.heap.size := by omega
              have hb4 := hb3.alloc hb3.size (.cells #[.int .i64 (d : Int)] 3)
              clear hput
              have hSl : S.2.length ≤ 3000000 := by
                have := (Pg.bnode_inv (x := a) (esL (p.edges.take j)) hbat.out.inv (by rw [← HX.out]; exact List.getElem_mem hlt) (fun e he' => by
                  simp only [esL, List.mem_map] at he'
                  obtain ⟨y, hy, rfl⟩ := he'
                  simp only [esOf, esL, List.mem_map]
                  exact ⟨y, List.mem_of_mem_take hy, rfl⟩) (fun e he' => by
                  simp only [esL, List.mem_map] at he'
                  obtain ⟨y, hy, rfl⟩ := he'
                  exact hes.2 _ (by simp only [esOf, esL, List.mem_map]; exact ⟨y, List.mem_of_mem_take hy, rfl⟩))).lt
                rw [HS.out] at this
                omega
              go_wp2_with (at_builtin; refine wpList_push (v := .slice (some ⟨gl', 0, none⟩) S.2.length cap') natE (by decide) rfl (.tmp 52) (.tmp 55) rfl Try.underlying27 hj0 jz0 jz1 jz2 rfl d rfl hl4 ⟨W2.heap.size, 0, none⟩ 1 rfl (news_new _ #[.int .i64 (d : Int)] _ (by simp)) hSl (by decide) (by simp; omega) ?_; intro v' w3 hown3 hgrow3)
              have ho4 := ho3.below ((Below.refl _ _).alloc (Nat.le_refl _) (.cells #[.int .i64 (d : Int)] 3))
              have ho5 := ho4.grown hgrow3 (ho4.ne_ hl4 (by decide))
              have hb5 := hb4.grown hgrow3 hb4.size (fun g hg => by
                have hgg : gl' = g := by simpa [Value.ownBlock] using hg
                have hgl1 := hl2.blk.1
                omega)
              exact ⟨⟨j + 1, by omega, by go_num, by rw [hnew.out]; exact ho5, by rw [hnew.out]; exact hown3, hb5⟩, by simp [intOf]; omega⟩
            · rw [hO] at cO
              have hsame : Hid (Pg.bnode (esL (p.edges.take (j + 1))) a s = S) := by
                show Pg.bnode _ _ _ = _
                rw [hstep.out]; unfold Pg.bstep; rw [if_neg (fun h => by rw [hgd, hO] at h; exact absurd h.2 (by simp))]
              clear hgd hO
              go_wp2
              go_quiet (fail)
              go_wp2
              exact ⟨⟨j + 1, by omega, by go_num, by rw [hsame.out]; exact (ho.below (bdrewN ((Below.refl wr.heap.size wr).alloc (Nat.le_refl _) _) _)), by rw [hsame.out]; exact (hl.below (bdrewN ((Below.refl wr.heap.size wr).alloc (Nat.le_refl _) _) _)), bdrewN (hb.alloc hb.size _) _⟩, by simp [intOf]; omega⟩
          · have hab : ((a : Int) == (x : Int)) = false := beq_eq_false_iff_ne.2 (by omega)
            have hsame : Hid (Pg.bnode (esL (p.edges.take (j + 1))) x s = S) := by
              show Pg.bnode _ _ _ = _
              rw [hstep.out]; unfold Pg.bstep; rw [if_neg (fun h => hax h.1)]
            clear hax
            go_wp2
            go_quiet (fail)
            go_wp2
            exact ⟨⟨j + 1, by omega, by go_num, by rw [hsame.out]; exact (ho.below (bdrewN ((Below.refl wr.heap.size wr).alloc (Nat.le_refl _) _) _)), by rw [hsame.out]; exact (hl.below (bdrewN ((Below.refl wr.heap.size wr).alloc (Nat.le_refl _) _) _)), bdrewN (hb.alloc hb.size _) _⟩, by simp [intOf]; omega⟩
        · have hjI : ¬ (j : Int) < (p.edges.length : Int) := by omega
          have hj' : j = p.edges.length := by omega
          subst hj'
          rw [List.take_length] at ho hl
          go_wp2
          refine ⟨⟨k + 1, _, hBn.out, by go_num, ho, hl, hb⟩, by simp [intOf]; omega⟩
    · have hltI : ¬ (k : Int) < (s.2.length : Int) := by omega
      have hk' : k = s.2.length := by omega
      go_wp2
      go_ret
      refine ⟨_, s.1, rfl, ho.more (by omega), hbw, ?_, fun y => ?_⟩
      · rw [hol.out, HT.out]; rfl
      · exact Pg.Bat.iff (by rw [← hk']; exact hbat.out) y
end Go.Proofs.Ytnaicippgocdfaa
end
section
namespace Go.Proofs.Ytnaicippgocdfaa
open Go.RowKit
set_option maxRecDepth 100000
set_option maxHeartbeats 2000000

theorem l06Many_any (p : Plan) (ve : Value) (w : World) (hl : p.edges.length ≤ 2000000) (h : Rd edgeE w w.heap.size ve p.edges) :
    Calls Try.prog 73 #[planV p ve] w fun e w' => e = .returned (.bool (!manyOk p)) ∧ Below w.heap.size w w' := by
  obtain ⟨A, c, rfl, -⟩ := id h
  unfold planV
  cases h1 : inB p.tasks 1 12
  · have H := Lib.hid (show (!manyOk p) = true by simp [manyOk, h1])
    go_enter Try.func73, Try.ntmps73
    go_wp2_with (go_at_call 52; refine (l01In_any _ _ _ _).mono ?_; rintro e w' ⟨rfl, rfl⟩)
    go_ret
    exact ⟨ret_bool H.out.symm, (Below.refl _ _).alloc (Nat.le_refl _) _⟩
  by_cases h2 : 30 < p.edges.length
  · have H := Lib.hid (show (!manyOk p) = true by simp [manyOk, show ¬ p.edges.length ≤ 30 by omega])
    have h2' : decide ((30 : Int) < (p.edges.length : Int)) = true := by simp; omega
    have h2'' : (30 : Int) < (p.edges.length : Int) := by omega
    go_enter Try.func73, Try.ntmps73
    go_wp2_with (go_at_call 52; refine (l01In_any _ _ _ _).mono ?_; rintro e w' ⟨rfl, rfl⟩)
    go_ret
    exact ⟨ret_bool H.out.symm, (Below.refl _ _).alloc (Nat.le_refl _) _⟩
  have h2' : decide ((30 : Int) < (p.edges.length : Int)) = false := by simp; omega
  have h2'' : ¬ (30 : Int) < (p.edges.length : Int) := by omega
  cases h3 : inB p.prio 0 9
  · have H := Lib.hid (show (!manyOk p) = true by simp [manyOk, h3])
    go_enter Try.func73, Try.ntmps73
    go_wp2_with (go_at_call 52; refine (l01In_any _ _ _ _).mono ?_; rintro e w' ⟨rfl, rfl⟩)
    go_ret
    exact ⟨ret_bool H.out.symm, (Below.refl _ _).alloc (Nat.le_refl _) _⟩
  cases h4 : inB p.most 1 5
  · have H := Lib.hid (show (!manyOk p) = true by simp [manyOk, h4])
    go_enter Try.func73, Try.ntmps73
    go_wp2_with (go_at_call 52; refine (l01In_any _ _ _ _).mono ?_; rintro e w' ⟨rfl, rfl⟩)
    go_ret
    exact ⟨ret_bool H.out.symm, (Below.refl _ _).alloc (Nat.le_refl _) _⟩
  have H : Hid ((!inB p.wait 1 20) = !manyOk p) := by
    show (!inB p.wait 1 20) = !manyOk p
    simp [manyOk, h1, h3, h4, show p.edges.length ≤ 30 by omega]
  go_enter Try.func73, Try.ntmps73
  go_wp2_with (go_at_call 52; refine (l01In_any _ _ _ _).mono ?_; rintro e w' ⟨rfl, rfl⟩)
  go_ret
  exact ⟨ret_bool H.out, (Below.refl _ _).alloc (Nat.le_refl _) _⟩

theorem specPlanFault_any (p : Plan) (ve : Value) (w : World) (hl : p.edges.length ≤ 2000000) (h : Rd edgeE w w.heap.size ve p.edges) :
    Calls Try.prog 57 #[planV p ve] w fun e w' => e = .returned (.int .i64 (planFault p)) ∧ Below w.heap.size w w' := by
  obtain ⟨A, c, rfl, -⟩ := id h
  have hb0 := planBox_below 26 p (.slice A p.edges.length c) w
  cases hm : manyOk p
  · have H := Lib.hid (planFault_many hm)
    unfold planV
    go_enter Try.func57, Try.ntmps57
    go_wp2_with fail
    refine (l06Many_any p (.slice A p.edges.length c) _ hl ((h.below hb0).more hb0.size)).mono ?_
    rintro e w1 ⟨rfl, hb1⟩
    rw [hm]
    go_wp2
    go_ret
    exact ⟨ret_int H.out.symm, bnext hb0 hb1⟩
  · have Hm := Lib.hid hm
    obtain ⟨t1, t2⟩ := manyOk_tasks hm
    have hlen := manyOk_edges hm
    unfold planV
    go_enter Try.func57, Try.ntmps57
    go_wp2_with fail
    refine (l06Many_any p (.slice A p.edges.length c) _ hl ((h.below hb0).more hb0.size)).mono ?_
    rintro e w1 ⟨rfl, hb1⟩
    rw [hm]
    clear hm
    go_wp2
    go_loopw [3] (fun i wr => ∃ k : Nat, k ≤ p.edges.length ∧ i = .int .i64 k ∧ Hid (∀ j (hj : j < p.edges.length), j < k → edgeIn p.tasks p.edges[j] = true) ∧ Below (planBox 26 p (.slice A p.edges.length c) w).heap.size (planBox 26 p (.slice A p.edges.length c) w) wr) (fun i _ => p.edges.length - (intOf i).toNat)
    case atStart => exact ⟨0, Nat.zero_le _, rfl, fun j hj h0 => absurd h0 (by omega), hb1⟩
    case round =>
      obtain ⟨k, hk, rfl, hok, hb⟩ := hrel
      obtain ⟨x0, x1, x2, x3, x4, hs, hbw⟩ := planBox_cells hb
      by_cases hlt : k < p.edges.length
      · obtain ⟨b, o, rfl, hbb, c0, c1⟩ := (h.below hbw).edge hlt
        have hltI : (k : Int) < (p.edges.length : Int) := by omega
        have hlc := later_cell wr
        have hs1 : w.heap.size < wr.heap.size := by omega
        have hbb1 : b < wr.heap.size := by omega
        have e1 : IntKind.i64.wrap (p.tasks - 1) = p.tasks - 1 := IntWalk.i64_in _ (by omega)
        have bad : edgeIn p.tasks p.edges[k] = false → Hid (planFault p = 2) := fun hf => planFault_edge Hm.out (fun hin => by
          rw [hin _ (List.getElem_mem hlt)] at hf; cases hf)
        cases g1 : inB p.edges[k].fr 0 (p.tasks - 1)
        · have H := bad (by simp [edgeIn, g1])
          clear bad
          go_wp2
          refine wp_region_pure (by kernel_rfl) (by kernel_rfl) ?_
          repeat (go_big_quiet_step ((go_at_call 52; exact pure_same (fun u => l01In_any _ _ _ u.1))))
          refine wpQuiet_nil ?_
          rintro _ ⟨⟨w2, hb2⟩, rfl⟩
          clear hlc
          go_wp2
          go_ret
          exact ⟨ret_int H.out.symm, bnext hbw hb2⟩
        cases g2 : inB p.edges[k].to 0 (p.tasks - 1)
        · have H := bad (by simp [edgeIn, g2])
          clear bad
          go_wp2
          refine wp_region_pure (by kernel_rfl) (by kernel_rfl) ?_
          repeat (go_big_quiet_step ((go_at_call 52; exact pure_same (fun u => l01In_any _ _ _ u.1))))
          refine wpQuiet_nil ?_
          rintro _ ⟨⟨w2, hb2⟩, rfl⟩
          clear hlc
          go_wp2
          go_ret
          exact ⟨ret_int H.out.symm, bnext hbw hb2⟩
        · have S : Hid (∀ j (hj : j < p.edges.length), j < k + 1 → edgeIn p.tasks p.edges[j] = true) := by
            intro j hj hjk
            by_cases e : j = k
            · subst e; simp [edgeIn, g1, g2]
            · exact hok.out j hj (by omega)
          clear bad
          go_wp2
          refine wp_region_pure (by kernel_rfl) (by kernel_rfl) ?_
          repeat (go_big_quiet_step ((go_at_call 52; exact pure_same (fun u => l01In_any _ _ _ u.1))))
          refine wpQuiet_nil ?_
          rintro _ ⟨⟨w2, hb2⟩, rfl⟩
          clear hlc
          go_wp2
          exact ⟨⟨k + 1, by omega, by go_num, S, hb.trans (hb2.mono hb.size)⟩, by simp [intOf]; omega⟩
      · have hin : Hid (edgesIn p) := fun e he => by
          obtain ⟨j, hj, rfl⟩ := List.getElem_of_mem he
          exact hok.out j hj (by omega)
        have hltI : ¬ (k : Int) < (p.edges.length : Int) := by omega
        have hs1 : w.heap.size < wr.heap.size := by omega
        clear hok hk hb1
        go_wp2
        clear hlt hltI
        go_loopw [4] (fun i wr => ∃ k : Nat, k ≤ p.edges.length ∧ i = .int .i64 k ∧ Hid ((p.edges.take k).Nodup) ∧ Below (planBox 26 p (.slice A p.edges.length c) w).heap.size (planBox 26 p (.slice A p.edges.length c) w) wr) (fun i _ => p.edges.length - (intOf i).toNat)
        case atStart => exact ⟨0, Nat.zero_le _, rfl, by show (p.edges.take 0).Nodup; simp, hb⟩
        case round =>
          clear hb x0 x1 x2 x3 x4 hs hbw hs1
          obtain ⟨k, hk, rfl, hok, hb⟩ := hrel
          obtain ⟨x0, x1, x2, x3, x4, hs, hbw⟩ := planBox_cells hb
          by_cases hlt : k < p.edges.length
          · have hltI : (k : Int) < (p.edges.length : Int) := by omega
            obtain ⟨b, o, rfl, -, -, -⟩ := (h.below hbw).edge hlt
            obtain ⟨wo, rfl⟩ : ∃ wo : World, wo = wr := ⟨_, rfl⟩
            go_wp2
            go_loopw [5] (fun i wr => ∃ m : Nat, m ≤ k ∧ i = .int .i64 m ∧ Hid (∀ j (hj : j < p.edges.length), j < m → ¬ p.edges[k] = p.edges[j]) ∧ Below (planBox 26 p (.slice (some ⟨b, o, none⟩) p.edges.length c) w).heap.size (planBox 26 p (.slice (some ⟨b, o, none⟩) p.edges.length c) w) wr) (fun i _ => k - (intOf i).toNat)
            case atStart => exact ⟨0, Nat.zero_le _, rfl, fun j hj h0 => absurd h0 (by omega), hb⟩
            case round =>
              clear hb x0 x1 x2 x3 x4 hs hbw
              obtain ⟨m, hm, rfl, hno, hb⟩ := hrel
              obtain ⟨x0, x1, x2, x3, x4, hs, hbw⟩ := planBox_cells hb
              by_cases hmk : m < k
              · have hmI : (m : Int) < (k : Int) := by omega
                have hml : m < p.edges.length := by omega
                have hmlI : (m : Int) < (p.edges.length : Int) := by omega
                obtain ⟨b1, o1, he1, -, c0, c1⟩ := (h.below hbw).edge hlt
                obtain ⟨b2, o2, he2, -, d0, d1⟩ := (h.below hbw).edge hml
                simp only [Option.some.injEq, Addr.mk.injEq, and_true] at he1 he2
                obtain ⟨rfl, rfl⟩ := he1
                obtain ⟨rfl, rfl⟩ := he2
                by_cases hx : p.edges[k] = p.edges[m]
                · have H : Hid (planFault p = 3) := planFault_twice Hm.out hin.out (fun hnd => by
                    have h1 : (p.edges.take (k + 1)).Nodup := hnd.sublist (List.take_sublist _ _)
                    rw [take_snoc _ k hlt] at h1
                    refine (nodup_snoc.1 h1).2 ?_
                    rw [hx]
                    have : (p.edges.take k)[m]'(by simp; omega) = p.edges[m] := List.getElem_take
                    rw [← this]
                    exact List.getElem_mem _)
                  have e0 : p.edges[m].fr = p.edges[k].fr := by rw [hx]
                  have e1 : p.edges[m].to = p.edges[k].to := by rw [hx]
                  rw [e0] at d0
                  rw [e1] at d1
                  clear hx e0 e1
                  go_wp2
                  go_quiet (fail)
                  go_wp2
                  go_ret
                  exact ⟨ret_int H.out.symm, bdrewN hbw _⟩
                · have S : Hid (∀ j (hj : j < p.edges.length), j < m + 1 → ¬ p.edges[k] = p.edges[j]) := by
                    intro j hj hjm
                    by_cases e : j = m
                    · subst e; exact hx
                    · exact hno.out j hj (by omega)
                  have hx' : ¬ (p.edges[k].fr = p.edges[m].fr ∧ p.edges[k].to = p.edges[m].to) := fun ⟨e0, e1⟩ => hx (by cases hlk : p.edges[k]; cases hlm : p.edges[m]; simp_all)
                  clear hx
                  by_cases e0 : p.edges[k].fr = p.edges[m].fr
                  · have e1 : ¬ p.edges[k].to = p.edges[m].to := fun e => hx' ⟨e0, e⟩
                    have e1' : (p.edges[k].to == p.edges[m].to) = false := beq_eq_false_iff_ne.2 e1
                    rw [← e0] at d0
                    clear hx' e0
                    go_wp2
                    go_quiet (fail)
                    go_wp2
                    exact ⟨⟨m + 1, by omega, by go_num, S, bdrewN hb _⟩, by simp [intOf]; omega⟩
                  · have e0' : (p.edges[k].fr == p.edges[m].fr) = false := beq_eq_false_iff_ne.2 e0
                    clear hx'
                    go_wp2
                    go_quiet (fail)
                    go_wp2
                    exact ⟨⟨m + 1, by omega, by go_num, S, bdrewN hb _⟩, by simp [intOf]; omega⟩
              · have hmI : ¬ (m : Int) < (k : Int) := by omega
                have S : Hid ((p.edges.take (k + 1)).Nodup) := by
                  show (p.edges.take (k + 1)).Nodup
                  rw [take_snoc _ k hlt]
                  refine nodup_snoc.2 ⟨hok.out, fun hmem => ?_⟩
                  obtain ⟨j, hj, hje⟩ := List.getElem_of_mem hmem
                  rw [List.getElem_take] at hje
                  simp at hj
                  exact hno.out j (by omega) (by omega) hje.symm
                go_wp2
                exact ⟨⟨k + 1, by omega, by go_num, S, hb⟩, by simp [intOf]; omega⟩
          · have hltI : ¬ (k : Int) < (p.edges.length : Int) := by omega
            have hnd : Hid p.edges.Nodup := by
              have h1 := hok.out
              rw [List.take_of_length_le (by omega)] at h1
              exact h1
            clear hok hk
            go_wp2
            clear hlt hltI
            go_loopw [6] (fun i wr => ∃ k : Nat, (k : Int) ≤ p.tasks ∧ i = .int .i64 k ∧ Hid (∀ j, j < k → ¬ Pg.Reach (esOf p) j j) ∧ Below (planBox 26 p (.slice A p.edges.length c) w).heap.size (planBox 26 p (.slice A p.edges.length c) w) wr) (fun i _ => p.tasks.toNat - (intOf i).toNat)
            case atStart => exact ⟨0, by omega, rfl, fun j hj => absurd hj (by omega), hb⟩
            case round =>
              clear hb x0 x1 x2 x3 x4 hs hbw
              obtain ⟨k, hk, rfl, hok, hb⟩ := hrel
              obtain ⟨x0, x1, x2, x3, x4, hs, hbw⟩ := planBox_cells hb
              by_cases hlt : (k : Int) < p.tasks
              · go_wp2_with fail
                refine (from_any p (.slice A p.edges.length c) k _ Hm.out hin.out hlt ((h.below hbw).more hbw.size)).mono ?_
                rintro e w2 ⟨v, O, rfl, o1, hb2, hOl, hiff⟩
                have hkO : k < O.length := by omega
                have hlen0 := Lib.hid hOl
                rcases o1.form with ⟨_, e0⟩ | ⟨g, cap, rfl, _, hgl, _, _, _, _⟩
                · exfalso
                  subst e0
                  simp at hkO
                have ck := o1.bool hkO
                have hg : Hid (O.getD k false = O[k]) := by unfold Hid; rw [List.getD_eq_getElem?_getD, List.getElem?_eq_getElem hkO]; rfl
                have Hiff := Lib.hid hiff
                have hkOI : (k : Int) < (O.length : Int) := by omega
                clear hOl hiff
                cases hO : O[k]
                · rw [hO] at ck
                  have S : Hid (∀ j, j < k + 1 → ¬ Pg.Reach (esOf p) j j) := by
                    intro j hj
                    by_cases e : j = k
                    · subst e
                      intro hr
                      have := (Hiff.out j).2 hr
                      rw [hg.out, hO] at this
                      cases this
                    · exact hok.out j (by omega)
                  clear hO
                  go_wp2
                  exact ⟨⟨k + 1, by omega, by go_num, S, hb.trans (hb2.mono hb.size)⟩, by simp [intOf]; omega⟩
                · rw [hO] at ck
                  have H : Hid (planFault p = 4) := planFault_cycle Hm.out hin.out hnd.out ⟨k, by omega, (Hiff.out k).1 (by rw [hg.out, hO])⟩
                  clear hO
                  go_wp2
                  go_ret
                  exact ⟨ret_int H.out.symm, bnext hbw hb2⟩
              · have H : Hid (planFault p = 0) := planFault_zero.2 ⟨Hm.out, hin.out, hnd.out, fun ⟨t, ht, hr⟩ => hok.out t (by omega) hr⟩
                go_wp2
                go_ret
                exact ⟨ret_int H.out.symm, hbw⟩
end Go.Proofs.Ytnaicippgocdfaa
end
section
namespace Go.Proofs.Ytnaicippgocdfaa
open Go.RowKit
set_option maxRecDepth 100000
set_option maxHeartbeats 1000000

noncomputable def weightsOk (p : Plan) (l : List Int) : Bool := decide (planFault p = 0) && decide ((l.length : Int) = p.tasks) && l.all fun x => inB x 1 1000

theorem weightsOk_take {p : Plan} {l : List Int} {k : Nat} (hk : k < l.length) (h : inB l[k] 1 1000 = false) : weightsOk p l = false := by
  have : l.all (fun x => inB x 1 1000) = false := by
    rw [List.all_eq_false]
    exact ⟨l[k], List.getElem_mem hk, by rw [h]; simp⟩
  simp [weightsOk, this]

theorem implWeightsOk_any (p : Plan) (ve v : Value) (l : List Int) (w : World) (hl : p.edges.length ≤ 2000000) (hl2 : l.length ≤ 2000000) (h : Rd edgeE w w.heap.size ve p.edges) (h2 : Rd intE w w.heap.size v l) :
    Calls Try.prog 38 #[planV p ve, v] w fun e w' => e = .returned (.bool (weightsOk p l)) ∧ Below w.heap.size w w' := by
  obtain ⟨A, c, rfl, -⟩ := id h2
  have hb0 := planBox_below 26 p ve w
  by_cases hf : planFault p = 0
  · have hfb : (planFault p != 0) = false := by simp [hf]
    have Hf := Lib.hid hf
    by_cases hn : (l.length : Int) = p.tasks
    · have hnb : ((l.length : Int) != p.tasks) = false := by simp [hn]
      have Hn := Lib.hid hn
      clear hf hn
      unfold planV
      go_enter Try.func38, Try.ntmps38
      go_wp2_with fail
      refine (implPlanFault_any p ve _ hl ((h.below hb0).more hb0.size)).mono ?_
      rintro e w1 ⟨rfl, hb1⟩
      obtain ⟨x0, x1, x2, x3, x4, hs, hbw⟩ := planBox_cells (T := 26) (p := p) (ve := ve) (w := w) hb1
      go_wp2
      go_loopw [19] (fun i wr => ∃ k : Nat, k ≤ l.length ∧ i = .int .i64 k ∧ Hid (∀ j (hj : j < l.length), j < k → inB l[j] 1 1000 = true) ∧ Below w.heap.size w wr) (fun i _ => l.length - (intOf i).toNat)
      case atStart => exact ⟨0, Nat.zero_le _, rfl, fun j hj h0 => absurd h0 (by omega), hbw⟩
      case round =>
        clear hb1 x0 x1 x2 x3 x4 hs hbw
        obtain ⟨k, hk, rfl, hok, hb⟩ := hrel
        by_cases hlt : k < l.length
        · obtain ⟨b, o, rfl, hbb, c0⟩ := (h2.below hb).int hlt
          have i1 : (k : Int) < (l.length : Int) := by omega
          cases g : inB l[k] 1 1000
          · have H := Lib.hid (weightsOk_take (p := p) hlt g)
            go_wp2_with (go_at_call 49; refine (within_any _ _ _ _).mono ?_; rintro e w' ⟨rfl, rfl⟩)
            go_ret
            exact ⟨ret_bool H.out.symm, hb⟩
          · have S : Hid (∀ j (hj : j < l.length), j < k + 1 → inB l[j] 1 1000 = true) := by
              intro j hj hjk
              by_cases e : j = k
              · subst e; exact g
              · exact hok.out j hj (by omega)
            go_wp2_with (go_at_call 49; refine (within_any _ _ _ _).mono ?_; rintro e w' ⟨rfl, rfl⟩)
            exact ⟨⟨k + 1, by omega, by go_num, S, hb⟩, by simp [intOf]; omega⟩
        · have H : Hid (weightsOk p l = true) := by
            show weightsOk p l = true
            simp only [weightsOk, Hf.out, Hn.out, decide_true, Bool.true_and, List.all_eq_true]
            intro x hx
            obtain ⟨j, hj, rfl⟩ := List.getElem_of_mem hx
            exact hok.out j hj (by omega)
          go_wp2
          go_ret
          exact ⟨ret_bool H.out.symm, hb⟩
    · have hnb : ((l.length : Int) != p.tasks) = true := by simp [hn]
      have H := Lib.hid (show weightsOk p l = false by simp [weightsOk, hn])
      clear hf hn
      unfold planV
      go_enter Try.func38, Try.ntmps38
      go_wp2_with fail
      refine (implPlanFault_any p ve _ hl ((h.below hb0).more hb0.size)).mono ?_
      rintro e w1 ⟨rfl, hb1⟩
      obtain ⟨x0, x1, x2, x3, x4, hs, hbw⟩ := planBox_cells (T := 26) (p := p) (ve := ve) (w := w) hb1
      go_wp2
      go_ret
      exact ⟨ret_bool H.out.symm, hbw⟩
  · have hfb : (planFault p != 0) = true := by simp [hf]
    have H := Lib.hid (show weightsOk p l = false by simp [weightsOk, hf])
    clear hf
    unfold planV
    go_enter Try.func38, Try.ntmps38
    go_wp2_with fail
    refine (implPlanFault_any p ve _ hl ((h.below hb0).more hb0.size)).mono ?_
    rintro e w1 ⟨rfl, hb1⟩
    go_wp2
    go_ret
    exact ⟨ret_bool H.out.symm, bnext hb0 hb1⟩
end Go.Proofs.Ytnaicippgocdfaa
end
section
namespace Go.Proofs.Ytnaicippgocdfaa
open Go.RowKit
set_option maxRecDepth 100000
set_option maxHeartbeats 1000000

theorem specWeightsOk_any (p : Plan) (ve v : Value) (l : List Int) (w : World) (hl : p.edges.length ≤ 2000000) (hl2 : l.length ≤ 2000000) (h : Rd edgeE w w.heap.size ve p.edges) (h2 : Rd intE w w.heap.size v l) :
    Calls Try.prog 51 #[planV p ve, v] w fun e w' => e = .returned (.bool (weightsOk p l)) ∧ Below w.heap.size w w' := by
  obtain ⟨A, c, rfl, -⟩ := id h2
  have hb0 := planBox_below 26 p ve w
  by_cases hf : planFault p = 0
  · have hfb : (planFault p != 0) = false := by simp [hf]
    have Hf := Lib.hid hf
    by_cases hn : (l.length : Int) = p.tasks
    · have hnb : ((l.length : Int) != p.tasks) = false := by simp [hn]
      have Hn := Lib.hid hn
      clear hf hn
      unfold planV
      go_enter Try.func51, Try.ntmps51
      go_wp2_with fail
      refine (specPlanFault_any p ve _ hl ((h.below hb0).more hb0.size)).mono ?_
      rintro e w1 ⟨rfl, hb1⟩
      obtain ⟨x0, x1, x2, x3, x4, hs, hbw⟩ := planBox_cells (T := 26) (p := p) (ve := ve) (w := w) hb1
      go_wp2
      go_loopw [5] (fun i wr => ∃ k : Nat, k ≤ l.length ∧ i = .int .i64 k ∧ Hid (∀ j (hj : j < l.length), j < k → inB l[j] 1 1000 = true) ∧ Below w.heap.size w wr) (fun i _ => l.length - (intOf i).toNat)
      case atStart => exact ⟨0, Nat.zero_le _, rfl, fun j hj h0 => absurd h0 (by omega), hbw⟩
      case round =>
        clear hb1 x0 x1 x2 x3 x4 hs hbw
        obtain ⟨k, hk, rfl, hok, hb⟩ := hrel
        by_cases hlt : k < l.length
        · obtain ⟨b, o, rfl, hbb, c0⟩ := (h2.below hb).int hlt
          have i1 : (k : Int) < (l.length : Int) := by omega
          have hbb1 : b < wr.heap.size := Nat.lt_of_lt_of_le hbb hb.size
          cases g : inB l[k] 1 1000
          · have H := Lib.hid (weightsOk_take (p := p) hlt g)
            go_wp2_with (go_at_call 52; refine (l01In_any _ _ _ _).mono ?_; rintro e w' ⟨rfl, rfl⟩)
            go_ret
            exact ⟨ret_bool H.out.symm, hb⟩
          · have S : Hid (∀ j (hj : j < l.length), j < k + 1 → inB l[j] 1 1000 = true) := by
              intro j hj hjk
              by_cases e : j = k
              · subst e; exact g
              · exact hok.out j hj (by omega)
            go_wp2_with (go_at_call 52; refine (l01In_any _ _ _ _).mono ?_; rintro e w' ⟨rfl, rfl⟩)
            exact ⟨⟨k + 1, by omega, by go_num, S, hb⟩, by simp [intOf]; omega⟩
        · have H : Hid (weightsOk p l = true) := by
            show weightsOk p l = true
            simp only [weightsOk, Hf.out, Hn.out, decide_true, Bool.true_and, List.all_eq_true]
            intro x hx
            obtain ⟨j, hj, rfl⟩ := List.getElem_of_mem hx
            exact hok.out j hj (by omega)
          go_wp2
          go_ret
          exact ⟨ret_bool H.out.symm, hb⟩
    · have hnb : ((l.length : Int) != p.tasks) = true := by simp [hn]
      have H := Lib.hid (show weightsOk p l = false by simp [weightsOk, hn])
      clear hf hn
      unfold planV
      go_enter Try.func51, Try.ntmps51
      go_wp2_with fail
      refine (specPlanFault_any p ve _ hl ((h.below hb0).more hb0.size)).mono ?_
      rintro e w1 ⟨rfl, hb1⟩
      obtain ⟨x0, x1, x2, x3, x4, hs, hbw⟩ := planBox_cells (T := 26) (p := p) (ve := ve) (w := w) hb1
      go_wp2
      go_ret
      exact ⟨ret_bool H.out.symm, hbw⟩
  · have hfb : (planFault p != 0) = true := by simp [hf]
    have H := Lib.hid (show weightsOk p l = false by simp [weightsOk, hf])
    clear hf
    unfold planV
    go_enter Try.func51, Try.ntmps51
    go_wp2_with fail
    refine (specPlanFault_any p ve _ hl ((h.below hb0).more hb0.size)).mono ?_
    rintro e w1 ⟨rfl, hb1⟩
    go_wp2
    go_ret
    exact ⟨ret_bool H.out.symm, bnext hb0 hb1⟩
end Go.Proofs.Ytnaicippgocdfaa
end
section
namespace Go.Proofs.Ytnaicippgocdfaa
open Go.RowKit
set_option maxRecDepth 100000
set_option maxHeartbeats 1000000

open Classical in
noncomputable def workOf (p : Plan) (l : List Int) : Int := if weightsOk p l = true then l.sum else 0

theorem weightsOk_all {p : Plan} {l : List Int} (h : weightsOk p l = true) : planFault p = 0 ∧ (l.length : Int) = p.tasks ∧ ∀ x ∈ l, 1 ≤ x ∧ x ≤ 1000 := by
  simp only [weightsOk, Bool.and_eq_true, decide_eq_true_eq, List.all_eq_true, inB_iff] at h
  exact ⟨h.1.1, h.1.2, h.2⟩
theorem weightsOk_len {p : Plan} {l : List Int} (h : weightsOk p l = true) : l.length ≤ 12 := by
  obtain ⟨h1, h2, _⟩ := weightsOk_all h
  have := manyOk_tasks (planFault_zero.1 h1).1
  omega
theorem sum_bound : ∀ {l : List Int}, (∀ x ∈ l, 1 ≤ x ∧ x ≤ 1000) → 0 ≤ l.sum ∧ l.sum ≤ 1000 * l.length
  | [], _ => by simp
  | a :: l, h => by
    have h1 := h a List.mem_cons_self
    have h2 := sum_bound (l := l) (fun x hx => h x (List.mem_cons_of_mem _ hx))
    simp only [List.sum_cons, List.length_cons]
    omega
theorem sum_take {l : List Int} {k : Nat} (hk : k < l.length) : (l.take (k + 1)).sum = (l.take k).sum + l[k] := by
  rw [take_snoc l k hk, List.sum_append]
  simp

theorem implWorkOf_any (p : Plan) (ve v : Value) (l : List Int) (w : World) (hl : p.edges.length ≤ 2000000) (hl2 : l.length ≤ 2000000) (h : Rd edgeE w w.heap.size ve p.edges) (h2 : Rd intE w w.heap.size v l) :
    Calls Try.prog 44 #[planV p ve, v] w fun e w' => e = .returned (.int .i64 (workOf p l)) ∧ Below w.heap.size w w' := by
  obtain ⟨A, c, rfl, -⟩ := id h2
  have hb0 := planBox_below 26 p ve w
  cases hf : weightsOk p l
  · have H := Lib.hid (show workOf p l = 0 by simp [workOf, hf])
    unfold planV
    go_enter Try.func44, Try.ntmps44
    go_wp2_with fail
    refine (implWeightsOk_any p ve (.slice A l.length c) l _ hl hl2 ((h.below hb0).more hb0.size) ((h2.below hb0).more hb0.size)).mono ?_
    rintro e w1 ⟨rfl, hb1⟩
    rw [hf]
    go_wp2
    go_ret
    exact ⟨ret_int H.out.symm, bnext hb0 hb1⟩
  · have H := Lib.hid (show workOf p l = l.sum by simp [workOf, hf])
    have hall := Lib.hid (weightsOk_all hf)
    have hlen := weightsOk_len hf
    unfold planV
    go_enter Try.func44, Try.ntmps44
    go_wp2_with fail
    refine (implWeightsOk_any p ve (.slice A l.length c) l _ hl hl2 ((h.below hb0).more hb0.size) ((h2.below hb0).more hb0.size)).mono ?_
    rintro e w1 ⟨rfl, hb1⟩
    rw [hf]
    clear hf
    have hbw := bnext hb0 hb1
    go_wp2
    clear hb1
    go_loopw [5, 14] (fun n i wr => ∃ k : Nat, k ≤ l.length ∧ i = .int .i64 k ∧ n = .int .i64 (l.take k).sum ∧ Below w.heap.size w wr) (fun _ i _ => l.length - (intOf i).toNat)
    case atStart => exact ⟨0, Nat.zero_le _, rfl, by simp, hbw⟩
    case round =>
      clear hbw
      obtain ⟨k, hk, rfl, rfl, hb⟩ := hrel
      by_cases hlt : k < l.length
      · obtain ⟨b, o, rfl, hbb, c0⟩ := (h2.below hb).int hlt
        have i1 : (k : Int) < (l.length : Int) := by omega
        have hsum := Lib.hid (sum_take hlt)
        have hs1 := sum_bound (l := l.take k) (fun x hx => hall.out.2.2 x (List.mem_of_mem_take hx))
        have hs2 := hall.out.2.2 l[k] (List.getElem_mem hlt)
        rw [List.length_take, Nat.min_eq_left hk] at hs1
        have hw : IntKind.i64.wrap ((l.take k).sum + l[k]) = (l.take k).sum + l[k] := IntWalk.i64_in _ (by omega)
        clear hs1 hs2
        go_wp2
        exact ⟨⟨k + 1, by omega, by go_num, by rw [hsum.out], hb⟩, by simp [intOf]; omega⟩
      · go_wp2
        go_ret
        refine ⟨ret_int ?_, hb⟩
        rw [H.out, List.take_of_length_le (by omega)]
theorem specWorkOf_any (p : Plan) (ve v : Value) (l : List Int) (w : World) (hl : p.edges.length ≤ 2000000) (hl2 : l.length ≤ 2000000) (h : Rd edgeE w w.heap.size ve p.edges) (h2 : Rd intE w w.heap.size v l) :
    Calls Try.prog 12 #[planV p ve, v] w fun e w' => e = .returned (.int .i64 (workOf p l)) ∧ Below w.heap.size w w' := by
  obtain ⟨A, c, rfl, -⟩ := id h2
  have hb0 := planBox_below 26 p ve w
  cases hf : weightsOk p l
  · have H := Lib.hid (show workOf p l = 0 by simp [workOf, hf])
    unfold planV
    go_enter Try.func12, Try.ntmps12
    go_wp2_with fail
    refine (specWeightsOk_any p ve (.slice A l.length c) l _ hl hl2 ((h.below hb0).more hb0.size) ((h2.below hb0).more hb0.size)).mono ?_
    rintro e w1 ⟨rfl, hb1⟩
    rw [hf]
    go_wp2
    go_ret
    exact ⟨ret_int H.out.symm, bnext hb0 hb1⟩
  · have H := Lib.hid (show workOf p l = l.sum by simp [workOf, hf])
    have hall := Lib.hid (weightsOk_all hf)
    have hlen := weightsOk_len hf
    unfold planV
    go_enter Try.func12, Try.ntmps12
    go_wp2_with fail
    refine (specWeightsOk_any p ve (.slice A l.length c) l _ hl hl2 ((h.below hb0).more hb0.size) ((h2.below hb0).more hb0.size)).mono ?_
    rintro e w1 ⟨rfl, hb1⟩
    rw [hf]
    clear hf
    have hbw := bnext hb0 hb1
    go_wp2
    clear hb1
    go_loopw [5, 6] (fun n i wr => ∃ k : Nat, k ≤ l.length ∧ i = .int .i64 k ∧ n = .int .i64 (l.take k).sum ∧ Below w.heap.size w wr) (fun _ i _ => l.length - (intOf i).toNat)
    case atStart => exact ⟨0, Nat.zero_le _, rfl, by simp, hbw⟩
    case round =>
      clear hbw
      obtain ⟨k, hk, rfl, rfl, hb⟩ := hrel
      by_cases hlt : k < l.length
      · obtain ⟨b, o, rfl, hbb, c0⟩ := (h2.below hb).int hlt
        have i1 : (k : Int) < (l.length : Int) := by omega
        have hsum := Lib.hid (sum_take hlt)
        have hs1 := sum_bound (l := l.take k) (fun x hx => hall.out.2.2 x (List.mem_of_mem_take hx))
        have hs2 := hall.out.2.2 l[k] (List.getElem_mem hlt)
        rw [List.length_take, Nat.min_eq_left hk] at hs1
        have hw : IntKind.i64.wrap ((l.take k).sum + l[k]) = (l.take k).sum + l[k] := IntWalk.i64_in _ (by omega)
        clear hs1 hs2
        go_wp2
        exact ⟨⟨k + 1, by omega, by go_num, by rw [hsum.out], hb⟩, by simp [intOf]; omega⟩
      · go_wp2
        go_ret
        refine ⟨ret_int ?_, hb⟩
        rw [H.out, List.take_of_length_le (by omega)]
end Go.Proofs.Ytnaicippgocdfaa
end
section
namespace Go.Proofs.Ytnaicippgocdfaa
open Go.RowKit
set_option maxRecDepth 100000
set_option maxHeartbeats 2000000

def earStep (l : List Int) (t : Nat) (o : List Int) (b : Nat) : List Int := o.set t (max (o.getD t 0) (o.getD b 0 + l.getD b 0))
def earTask (es : List (Nat × Nat)) (T : Nat) (l : List Int) (o : List Int) (t : Nat) : List Int := (beforeL es T t).foldl (earStep l t) o
def earL (es : List (Nat × Nat)) (T : Nat) (l : List Int) (ord : List Nat) : List Int := ord.foldl (earTask es T l) (List.replicate T 0)
noncomputable def earliestOf (p : Plan) (l : List Int) : List Int := if weightsOk p l = true then earL (esOf p) p.tasks.toNat l (orderOf p) else []
/-- all values are small -/
def Bd (o : List Int) (c : Nat) : Prop := ∀ x ∈ o, 0 ≤ x ∧ x ≤ 1000 * c
theorem earStep_len (l : List Int) (t : Nat) (o : List Int) (b : Nat) : (earStep l t o b).length = o.length := by simp [earStep]
theorem earFold_len (l : List Int) (t : Nat) : ∀ (B : List Nat) (o : List Int), (B.foldl (earStep l t) o).length = o.length
  | [], o => rfl
  | b :: B, o => by rw [List.foldl_cons, earFold_len l t B, earStep_len]
theorem earL_len (es : List (Nat × Nat)) (T : Nat) (l : List Int) (ord : List Nat) : (earL es T l ord).length = T := by
  unfold earL
  suffices h : ∀ (ord : List Nat) (o : List Int), (ord.foldl (earTask es T l) o).length = o.length by rw [h]; simp
  intro ord
  induction ord with
  | nil => intro o; rfl
  | cons t ord ih => intro o; rw [List.foldl_cons, ih, earTask, earFold_len]
theorem Bd.more {o : List Int} {c c' : Nat} (h : Bd o c) (hc : c ≤ c') : Bd o c' := fun x hx => by have := h x hx; omega
theorem getD_bd {o : List Int} {c : Nat} (h : Bd o c) (k : Nat) : 0 ≤ o.getD k 0 ∧ o.getD k 0 ≤ 1000 * c := by
  rw [List.getD_eq_getElem?_getD]
  cases hk : o[k]? with
  | none => simp; omega
  | some x => exact h x (List.mem_of_getElem? hk)
theorem Bd.step {o : List Int} {c : Nat} (h : Bd o c) {l : List Int} (hl : ∀ x ∈ l, 1 ≤ x ∧ x ≤ 1000) (t b : Nat) : Bd (earStep l t o b) (c + 1) := by
  intro x hx
  have hw : 0 ≤ l.getD b 0 ∧ l.getD b 0 ≤ 1000 := by
    rw [List.getD_eq_getElem?_getD]
    cases hk : l[b]? with
    | none => simp
    | some y => have := hl y (List.mem_of_getElem? hk); simp; omega
  rcases List.mem_or_eq_of_mem_set hx with hx | rfl
  · have := h x hx; omega
  · have h1 := getD_bd h t
    have h2 := getD_bd h b
    omega
theorem earTake_step {α β : Type} {f : β → α → β} {o : β} {B : List α} {j : Nat} (hj : j < B.length) : (B.take (j + 1)).foldl f o = f ((B.take j).foldl f o) B[j] := by
  rw [take_snoc B j hj, List.foldl_append]
  rfl
theorem earStep_eq {l o : List Int} {t b : Nat} (ht : t < o.length) (hb : b < o.length) (hlb : b < l.length) : earStep l t o b = o.set t (max o[t] (o[b] + l[b])) := by
  simp [earStep, List.getD_eq_getElem?_getD, ht, hb, hlb]
theorem orderOf_inv {p : Plan} (hf : planFault p = 0) : OrderInv (esOf p) p.tasks.toNat p.tasks.toNat (orderOf p) := by
  unfold orderOf
  rw [if_pos hf]
  exact orderL_inv (esOf_lt (planFault_zero.1 hf).2.1).1 (plan_ac hf) _ (Nat.le_refl _)

theorem implEarliest_any (p : Plan) (ve v : Value) (l : List Int) (w : World) (hl : p.edges.length ≤ 2000000) (hl2 : l.length ≤ 2000000) (h : Rd edgeE w w.heap.size ve p.edges) (h2 : Rd intE w w.heap.size v l) :
    Calls Try.prog 35 #[planV p ve, v] w fun e w' => ∃ u, e = .returned u ∧ Ow intE 3 w' w.heap.size u (earliestOf p l) ∧ Below w.heap.size w w' := by
  obtain ⟨A, c, rfl, -⟩ := id h2
  have hb0 := planBox_below 26 p ve w
  have D0 := BoxAt.new 26 p ve w
  cases hf : weightsOk p l
  · have H := Lib.hid (show earliestOf p l = [] by simp [earliestOf, hf])
    have HF := Lib.hid hf
    clear hf
    unfold planV
    go_enter Try.func35, Try.ntmps35
    go_wp2_with fail
    refine (implWeightsOk_any p ve (.slice A l.length c) l _ hl hl2 ((h.below hb0).more hb0.size) ((h2.below hb0).more hb0.size)).mono ?_
    rintro e w1 ⟨rfl, hb1⟩
    rw [HF.out]
    go_wp2
    go_ret
    exact ⟨_, rfl, by rw [H.out]; exact Ow.nil _ _ _ _, bnext hb0 hb1⟩
  obtain ⟨g1, g2, g3⟩ := weightsOk_all hf
  have G := Lib.hid (planFault_zero.1 g1)
  have HF := Lib.hid hf
  have HP := Lib.hid g1
  have HW := Lib.hid g3
  obtain ⟨t1, t2⟩ := manyOk_tasks G.out.1
  obtain ⟨T, hT⟩ := Int.eq_ofNat_of_zero_le (show 0 ≤ p.tasks by omega)
  have HT := Lib.hid hT
  have HTn := Lib.hid (show p.tasks.toNat = T by omega)
  have hT12 : T ≤ 12 := by omega
  have HLl := Lib.hid (show l.length = T by omega)
  have H := Lib.hid (show earliestOf p l = earL (esOf p) T l (orderOf p) by unfold earliestOf; rw [if_pos hf, HTn.out])
  have hO := Lib.hid (orderOf_inv g1)
  obtain ⟨j0, hj0, jz0, jz1, jz2⟩ := info_parts int_info
  have hmk : ∀ w : World, (Instr.makeSlice 27 (.int .i64 p.tasks) (.int .i64 p.tasks)).run Try.prog w = .ok (.slice (some ⟨w.heap.size, 0, none⟩) T T) (w.alloc (.cells (madeCells #[.int .i64 0] (T * 1)) 3)) := by
    intro w
    have := run_make (P := Try.prog) w 27 3 j0 _ Try.underlying27 hj0 jz0 .i64 .i64 T T (by omega) (by omega) (by rw [jz2]; omega) (by omega)
    rw [jz1] at this
    rw [hT]
    simpa [Value.cells] using this
  clear hf g1 g2 g3 hT
  unfold planV
  go_enter Try.func35, Try.ntmps35
  go_wp2_with fail
  refine (implWeightsOk_any p ve (.slice A l.length c) l _ hl hl2 ((h.below hb0).more hb0.size) ((h2.below hb0).more hb0.size)).mono ?_
  rintro e w1 ⟨rfl, hb1⟩
  rw [HF.out]
  have D := D0.below hb1
  have hb := bnext hb0 hb1
  obtain ⟨x0, x1, x2, x3, x4, xs⟩ := D.cells
  go_wp2_with fail
  clear x0 x1 x2 x3 x4 hmk D0 hb0 hb1
  have O1 := Ow.made intE 3 w1 0 T (by decide) (by simp [maxLen]; omega) (z := #[.int .i64 0]) rfl (m := T) (by simp [intE])
  have ha := (Below.refl w1.heap.size w1).alloc (Nat.le_refl _) (.cells (madeCells #[.int .i64 0] T) 3)
  have hsz1 : (w1.alloc (.cells (madeCells #[.int .i64 0] T) 3)).heap.size = w1.heap.size + 1 := by simp
  have Hsz1 := Lib.hid hsz1
  have D := D.below ha
  have hb := bnext hb ha
  clear ha hsz1
  refine (implOrder_any p ve _ hl ((h.below hb).more hb.size)).mono ?_
  rintro e w2 ⟨v2, rfl, o2, hb2⟩
  have o2 := o2.more (base' := w1.heap.size + 1) (by rw [Hsz1.out]; omega)
  have O := O1.below hb2
  have D := D.below hb2
  have hb := bnext hb hb2
  have hX := xs
  clear O1 xs hb2
  have hlen : (orderOf p).length = T := by rw [hO.out.len, HTn.out]
  have hlt0 : Hid (∀ x ∈ orderOf p, x < T) := fun x hx => by have := hO.out.lt x hx; rw [HTn.out] at this; exact this
  generalize orderOf p = ord at *
  obtain ⟨A2, c2, rfl, -⟩ := id (Rd.of_own o2)
  rw [hlen] at o2 ⊢
  have HO2 := Lib.hid hlen
  clear hlen
  go_wp2
  go_loopw [20] (fun i wr => ∃ k : Nat, k ≤ T ∧ i = .int .i64 k ∧ Hid (Bd (earL (esOf p) T l (ord.take k)) (12 * k)) ∧ Ow intE 3 wr w1.heap.size (.slice (some ⟨w1.heap.size, 0, none⟩) T T) (earL (esOf p) T l (ord.take k)) ∧ Ow natE 3 wr (w1.heap.size + 1) (.slice A2 T c2) ord ∧ BoxAt w.heap.size p ve wr ∧ Below w.heap.size w wr) (fun i _ => T - (intOf i).toNat)
  case atStart => exact ⟨0, Nat.zero_le _, rfl, fun x hx => by have := List.eq_of_mem_replicate hx; subst this; omega, O, o2, D, hb⟩
  case round =>
    clear O o2 D hb
    obtain ⟨k, hk, rfl, hbd, ho, o2, D, hb⟩ := hrel
    by_cases hlt : k < T
    · have hltI : (k : Int) < (T : Int) := by omega
      have hko : k < ord.length := by rw [HO2.out]; exact hlt
      have S0 := Lib.hid (show earL (esOf p) T l (ord.take (k + 1)) = (beforeL (esOf p) T ord[k]).foldl (earStep l ord[k]) (earL (esOf p) T l (ord.take k)) from earTake_step hko)
      have hEl := earL_len (esOf p) T l (ord.take k)
      have htT : ord[k] < T := hlt0.out _ (List.getElem_mem hko)
      obtain ⟨g2, rfl, hg2, hg2'⟩ := o2.some_ (by omega)
      have ct := o2.nat hko
      generalize hE : earL (esOf p) T l (ord.take k) = E at *
      have HE := Lib.hid hE
      clear hE
      generalize ord[k] = t at *
      obtain ⟨x0, x1, x2, x3, x4, xs⟩ := D.cells
      have hblk := ho.blk.2
      go_wp2_with fail
      clear x0 x1 x2 x3 x4 xs ct
      refine (implBefore_any p ve t _ HP.out ((h.below hb).more hb.size)).mono ?_
      rintro e w3 ⟨v3, rfl, o3, b3⟩
      rw [HTn.out] at o3
      have o3 := o3.more (base' := w1.heap.size + 1) (by omega)
      have ho := ho.below b3
      have o2 := o2.below b3
      have D := D.below b3
      have hb := bnext hb b3
      have hbl := beforeL_len (esOf p) T t
      have hbm : Hid (∀ x ∈ beforeL (esOf p) T t, x < T) := fun x hx => by simp [beforeL] at hx; exact hx.1
      generalize beforeL (esOf p) T t = B at *
      obtain ⟨A3, c3, rfl, -⟩ := id (Rd.of_own o3)
      clear b3 hblk
      go_wp2
      go_loopw [28] (fun i wr => ∃ j : Nat, j ≤ B.length ∧ i = .int .i64 j ∧ Hid (Bd ((B.take j).foldl (earStep l t) E) (12 * k + j)) ∧ Ow intE 3 wr w1.heap.size (.slice (some ⟨w1.heap.size, 0, none⟩) T T) ((B.take j).foldl (earStep l t) E) ∧ Ow natE 3 wr (w1.heap.size + 1) (.slice (some ⟨g2, 0, none⟩) T c2) ord ∧ Ow natE 3 wr (w1.heap.size + 1) (.slice A3 B.length c3) B ∧ BoxAt w.heap.size p ve wr ∧ Below w.heap.size w wr) (fun i _ => B.length - (intOf i).toNat)
      case atStart => exact ⟨0, Nat.zero_le _, rfl, hbd, ho, o2, o3, D, hb⟩
      case round =>
        clear ho o2 o3 D hb
        obtain ⟨j, hj, rfl, hbj, ho, o2, o3, D, hb⟩ := hrel
        by_cases hjt : j < B.length
        · have hjI : (j : Int) < (B.length : Int) := by omega
          have S := Lib.hid (earTake_step (f := earStep l t) (o := E) hjt)
          have hOl := earFold_len l t (B.take j) E
          rw [hEl] at hOl
          generalize (B.take j).foldl (earStep l t) E = O at *
          have hbT : B[j] < T := hbm.out _ (List.getElem_mem hjt)
          obtain ⟨g3, rfl, hg3, hg3'⟩ := o3.some_ (by omega)
          have cb := o3.nat hjt
          generalize B[j] = b at *
          have htI : (t : Int) < (T : Int) := by omega
          have hbI : (b : Int) < (T : Int) := by omega
          have hlb : b < l.length := by rw [HLl.out]; exact hbT
          have hlbI : (b : Int) < (l.length : Int) := by omega
          have htO : t < O.length := by omega
          have hbO : b < O.length := by omega
          have cO := ho.int htO
          have cO2 := ho.int hbO
          have hf := ho.free
          obtain ⟨bw, ow, rfl, hbw, cw⟩ := (h2.below hb).int hlb
          have hS := Lib.hid (earStep_eq (l := l) htO hbO hlb)
          have hw1 := hbj.out _ (List.getElem_mem htO)
          have hw2 := hbj.out _ (List.getElem_mem hbO)
          have hw3 := HW.out _ (List.getElem_mem hlb)
          have hbd2 := Lib.hid (hbj.out.step HW.out t b)
          have hput := Lib.hid (Ow.put ho hOl t htT (max O[t] (O[b] + l[b])))
          have hwr : IntKind.i64.wrap (O[b] + l[b]) = O[b] + l[b] := IntWalk.i64_in _ (by omega)
          clear hw1 hw2 hw3
          go_wp2
          go_still_tail 17, (by kernel_rfl)
          change wpList _ _ _ _ _ wr.drew
          go_wp2
          have hdr : ∀ w : World, Below w.heap.size w w.drew := fun w => (Below.refl _ _).drew
          refine ⟨⟨j + 1, by omega, by go_num, by rw [S.out]; exact hbd2.out, ?_, (o2.setOther (by simp [Value.ownBlock]; omega) _).below (hdr _), (o3.setOther (by simp [Value.ownBlock]; omega) _).below (hdr _), (D.other (by simp; omega) _).below (hdr _), (hb.setCell (by simp; omega) _).drew⟩, by simp [intOf]; omega⟩
          rw [S.out, hS.out]
          have := hput.out.1
          simp only [intE, Nat.mul_one] at this
          exact this.below (hdr _)
        · have hjI : ¬ (j : Int) < (B.length : Int) := by omega
          have hj' : j = B.length := by omega
          subst hj'
          rw [List.take_length] at ho hbj
          go_wp2
          exact ⟨⟨k + 1, by omega, by go_num, by rw [S0.out]; exact hbj.out.more (by omega), by rw [S0.out]; exact ho, o2, D, hb⟩, by simp [intOf]; omega⟩
    · have hltI : ¬ (k : Int) < (T : Int) := by omega
      have hk' : k = T := by omega
      have hbF := hb
      subst hk'
      rw [List.take_of_length_le (by rw [HO2.out]; exact Nat.le_refl _)] at ho
      go_wp2
      go_ret
      exact ⟨_, rfl, by rw [H.out]; exact ho.more (by omega), hbF⟩
end Go.Proofs.Ytnaicippgocdfaa
end
section
namespace Go.Proofs.Ytnaicippgocdfaa
open Go.RowKit
set_option maxRecDepth 100000
set_option maxHeartbeats 2000000

/-- who is in o, task by task -/
def toldL (T : Nat) (o : List Nat) : List Bool := (List.range T).map fun s => decide (s ∈ o)
theorem toldL_len (T : Nat) (o : List Nat) : (toldL T o).length = T := by simp [toldL]
theorem toldL_get {T : Nat} {o : List Nat} {s : Nat} (h : s < (toldL T o).length) : (toldL T o)[s] = decide (s ∈ o) := by simp [toldL]
theorem toldL_nil (T : Nat) : toldL T [] = List.replicate T false := by
  apply List.ext_getElem
  · simp [toldL]
  · intro i h1 h2
    simp [toldL]
theorem toldL_set {T : Nat} {o : List Nat} {t : Nat} : (toldL T o).set t true = toldL T (o ++ [t]) := by
  apply List.ext_getElem
  · simp [toldL]
  · intro i h1 h2
    rw [List.getElem_set]
    by_cases e : t = i
    · subst e; simp [toldL]
    · rw [if_neg e]
      simp [toldL, Ne.symm e]
/-- what the look at the first j finds -/
def okUpto (o b : List Nat) (t j : Nat) : Bool := !decide (t ∈ o) && decide (∀ x ∈ b.take j, x ∈ o)
theorem okUpto_succ {o b : List Nat} {t j : Nat} (hj : j < b.length) : okUpto o b t (j + 1) = (okUpto o b t j && decide (b[j] ∈ o)) := by
  unfold okUpto
  rw [take_snoc b j hj, Bool.and_assoc, ← Bool.decide_and]
  congr 1
  refine decide_eq_decide.2 ⟨fun h => ⟨fun x hx => h x (List.mem_append_left _ hx), h _ (List.mem_append_right _ (List.mem_singleton.2 rfl))⟩, ?_⟩
  rintro ⟨h1, h2⟩ x hx
  rcases List.mem_append.1 hx with h | h
  · exact h1 x h
  · rw [List.mem_singleton.1 h]; exact h2

theorem specOrder_any (p : Plan) (ve : Value) (w : World) (hl : p.edges.length ≤ 2000000) (h : Rd edgeE w w.heap.size ve p.edges) :
    Calls Try.prog 68 #[planV p ve] w fun e w' => ∃ v, e = .returned v ∧ Ow natE 3 w' w.heap.size v (orderOf p) ∧ Below w.heap.size w w' := by
  have ha0 : ∀ w : World, Below w.heap.size w (w.alloc (.cells #[] 3)) := fun w => (Below.refl _ _).alloc (Nat.le_refl _) _
  have hb00 := planBox_below 26 p ve w
  have hb0 := bnext hb00 (ha0 _)
  have D0 := (BoxAt.new 26 p ve w).below (ha0 _)
  have O0 := Ow.empty natE 3 (planBox 26 p ve w) (g := w.heap.size + 1) (by rw [planBox_size])
  clear hb00 ha0
  by_cases hf : planFault p = 0
  case neg =>
    have hfb : (planFault p != 0) = true := by simp [hf]
    have H := Lib.hid (show orderOf p = [] by unfold orderOf; rw [if_neg hf])
    clear hf
    unfold planV
    go_enter Try.func68, Try.ntmps68
    go_wp2_with fail
    refine (specPlanFault_any p ve _ hl ((h.below hb0).more hb0.size)).mono ?_
    rintro e w1 ⟨rfl, hb1⟩
    go_wp2
    go_ret
    exact ⟨_, rfl, by rw [H.out]; exact (O0.below hb1).more (by omega), bnext hb0 hb1⟩
  have hfb : (planFault p != 0) = false := by simp [hf]
  have G := Lib.hid (planFault_zero.1 hf)
  have HF := Lib.hid hf
  have hac := Lib.hid (plan_ac hf)
  obtain ⟨t1, t2⟩ := manyOk_tasks G.out.1
  obtain ⟨T, hT⟩ := Int.eq_ofNat_of_zero_le (show 0 ≤ p.tasks by omega)
  have HT := Lib.hid hT
  have HTn := Lib.hid (show p.tasks.toNat = T by omega)
  have hT12 : T ≤ 12 := by omega
  have H := Lib.hid (show orderOf p = orderL (esOf p) T T by unfold orderOf; rw [if_pos hf, HTn.out])
  have he1 := Lib.hid (show ∀ e ∈ esOf p, e.1 < T by have := (esOf_lt G.out.2.1).1; rw [HTn.out] at this; exact this)
  have hac' := Lib.hid (show ∀ t, t < T → ¬ Pg.Reach (esOf p) t t by have := hac.out; rw [HTn.out] at this; exact this)
  obtain ⟨j0, hj0, jz0, jz1, jz2⟩ := info_parts int_info
  obtain ⟨i0, hi0, hz0, hz1, hz2⟩ := info_parts bool_info
  have hmk : ∀ w : World, (Instr.makeSlice 71 (.int .i64 p.tasks) (.int .i64 p.tasks)).run Try.prog w = .ok (.slice (some ⟨w.heap.size, 0, none⟩) T T) (w.alloc (.cells (madeCells #[.bool false] (T * 1)) 4)) := by
    intro w
    have := run_make (P := Try.prog) w 71 4 i0 _ Try.underlying71 hi0 hz0 .i64 .i64 T T (by omega) (by omega) (by rw [hz2]; omega) (by omega)
    rw [hz1] at this
    rw [hT]
    simpa [Value.cells] using this
  clear hf hT hac
  unfold planV
  go_enter Try.func68, Try.ntmps68
  go_wp2_with fail
  refine (specPlanFault_any p ve _ hl ((h.below hb0).more hb0.size)).mono ?_
  rintro e w1 ⟨rfl, hb1⟩
  have D := D0.below hb1
  have O := O0.below hb1
  have hb := bnext hb0 hb1
  obtain ⟨x0, x1, x2, x3, x4, xs⟩ := D.cells
  have hOl := O.blk
  go_wp2
  clear x0 x1 x2 x3 x4 D0 O0 hb0 hb1 hmk
  have hX : w.heap.size + 1 ≤ w1.heap.size := by omega
  go_loopw [3] (fun vl wr => ∃ n : Nat, n ≤ T ∧ Ow natE 3 wr (w.heap.size + 1) vl (orderL (esOf p) T n) ∧ Ow boolE 4 wr (w.heap.size + 1) (.slice (some ⟨w1.heap.size, 0, none⟩) T T) (toldL T (orderL (esOf p) T n)) ∧ BoxAt w.heap.size p ve wr ∧ Below w.heap.size w wr) (fun vl _ => T - slen vl)
  case atStart =>
    have ha := (Below.refl w1.heap.size w1).alloc (Nat.le_refl _) (.cells (madeCells #[.bool false] T) 4)
    refine ⟨0, Nat.zero_le _, O.below ha, ?_, D.below ha, bnext hb ha⟩
    have := Ow.made boolE 4 w1 false T (by decide) (by simp [maxLen]; omega) (z := #[.bool false]) rfl (m := T) (by simp [boolE])
    show Ow boolE _ _ _ _ (toldL T [])
    rw [toldL_nil]
    exact this.more hX
  case round =>
    clear D O hb xs hOl
    obtain ⟨n, hn, ho, hto, D, hb⟩ := hrel
    have hinv := Lib.hid (orderL_inv he1.out hac'.out n hn)
    obtain ⟨A, c, rfl, -⟩ := id (Rd.of_own ho)
    have hlen : (orderL (esOf p) T n).length = n := hinv.out.len
    rw [hlen] at ho ⊢
    obtain ⟨x0, x1, x2, x3, x4, xs⟩ := D.cells
    have hlen2 : (orderL (esOf p) T n).length ≤ 2000000 := by omega
    have HL := Lib.hid hlen
    clear hlen hlen2
    by_cases hlt : n < T
    · have hltI : (n : Int) < p.tasks := by rw [HT.out]; omega
      obtain ⟨wo, rfl⟩ : ∃ wo : World, wo = wr := ⟨_, rfl⟩
      go_wp2
      clear x0 x1 x2 x3 x4 xs
      go_loopw [3, 5] (fun vl i wr => ∃ k : Nat, k ≤ T ∧ vl = .slice A n c ∧ i = .int .i64 k ∧ Hid (∀ s, s < k → mayCome (esOf p) (orderL (esOf p) T n) s = false) ∧ Ow natE 3 wr (w.heap.size + 1) (.slice A n c) (orderL (esOf p) T n) ∧ Ow boolE 4 wr (w.heap.size + 1) (.slice (some ⟨w1.heap.size, 0, none⟩) T T) (toldL T (orderL (esOf p) T n)) ∧ BoxAt w.heap.size p ve wr ∧ Below w.heap.size w wr) (fun _ i _ => T - (intOf i).toNat)
      case atStart => exact ⟨0, Nat.zero_le _, rfl, rfl, fun s hs => absurd hs (by omega), ho, hto, D, hb⟩
      case round =>
        clear ho D hb hto
        obtain ⟨k, hk, rfl, rfl, hno, ho, hto, D, hb⟩ := hrel
        obtain ⟨x0, x1, x2, x3, x4, xs⟩ := D.cells
        by_cases hkt : k < T
        · have hktI : (k : Int) < p.tasks := by rw [HT.out]; omega
          have hkTI : (k : Int) < (T : Int) := by omega
          have hmc := Lib.hid (mayCome_before (out := orderL (esOf p) T n) (t := k) he1.out)
          have hnext : mayCome (esOf p) (orderL (esOf p) T n) k = false → Hid (∀ s, s < k + 1 → mayCome (esOf p) (orderL (esOf p) T n) s = false) := fun hm s hs => by
            by_cases e : s = k
            · subst e; exact hm
            · exact hno.out s (by omega)
          have Hnext := Lib.hid hnext
          clear hnext
          have ck := hto.bool (k := k) (by rw [toldL_len]; exact hkt)
          rw [toldL_get] at ck
          go_wp2_with fail
          refine (specBefore_any p ve k _ G.out.1 G.out.2.1 G.out.2.2.1 ((h.below hb).more hb.size)).mono ?_
          rintro e w3 ⟨v3, rfl, o3, b3⟩
          rw [HTn.out] at o3
          have ho := ho.below b3
          have hto := hto.below b3
          have D := D.below b3
          have hb := bnext hb b3
          clear x0 x1 x2 x3 x4 xs ck
          have hbl := beforeL_len (esOf p) T k
          have hbm : Hid (∀ x ∈ beforeL (esOf p) T k, x < T) := fun x hx => by simp [beforeL] at hx; exact hx.1
          generalize hB : beforeL (esOf p) T k = B at *
          have HB := Lib.hid hB
          clear hB
          obtain ⟨A3, c3, rfl, -⟩ := id (Rd.of_own o3)
          go_wp2
          go_loop [6, 8] (fun y i => ∃ j : Nat, j ≤ B.length ∧ i = .int .i64 j ∧ y = .bool (okUpto (orderL (esOf p) T n) B k j)) (fun _ i => B.length - (intOf i).toNat)
          case atStart => exact ⟨0, Nat.zero_le _, rfl, by simp [okUpto]⟩
          case round =>
            obtain ⟨j, hj, rfl, rfl⟩ := hrel
            by_cases hjt : j < B.length
            · have hjI : (j : Int) < (B.length : Int) := by omega
              have hun := Lib.hid (okUpto_succ (o := orderL (esOf p) T n) (t := k) hjt)
              cases hok : okUpto (orderL (esOf p) T n) B k j
              · have S := Lib.hid (show okUpto (orderL (esOf p) T n) B k (j + 1) = false by rw [hun.out, hok]; rfl)
                go_wp2
                exact ⟨⟨j + 1, by omega, by go_num, by rw [S.out]⟩, by simp [intOf]; omega⟩
              · have S := Lib.hid (show okUpto (orderL (esOf p) T n) B k (j + 1) = decide (B[j] ∈ orderL (esOf p) T n) by rw [hun.out, hok]; rfl)
                obtain ⟨g3, rfl, _, _⟩ := o3.some_ (by omega)
                have cB := o3.nat hjt
                have hBT : B[j] < T := hbm.out _ (List.getElem_mem hjt)
                have hBTI : (B[j] : Int) < (T : Int) := by omega
                have cT := hto.bool (k := B[j]) (by rw [toldL_len]; exact hBT)
                rw [toldL_get] at cT
                go_wp2
                exact ⟨⟨j + 1, by omega, by go_num, by rw [S.out]⟩, by simp [intOf]; omega⟩
            · have hjI : ¬ (j : Int) < (B.length : Int) := by omega
              have hj' : j = B.length := by omega
              subst hj'
              have hfin := Lib.hid (show okUpto (orderL (esOf p) T n) B k B.length = mayCome (esOf p) (orderL (esOf p) T n) k by rw [hmc.out, okUpto, List.take_length])
              cases hok : okUpto (orderL (esOf p) T n) B k B.length
              · have S := Hnext.out (by rw [← hfin.out, hok])
                go_wp2
                exact ⟨⟨k + 1, by omega, rfl, by go_num, S, ho, hto, D, hb⟩, by simp [intOf]; omega⟩
              · have S := Lib.hid (orderL_succ (pickT_first hkt (show mayCome (esOf p) (orderL (esOf p) T n) k = true by rw [← hfin.out, hok]) hno.out))
                have hcf := hto.free
                have ck := hto.bool (k := k) (by rw [toldL_len]; exact hkt)
                have hput := Ow.put hto (n := T) (toldL_len _ _) k hkt true
                rw [toldL_set] at hput
                simp only [boolE, Nat.mul_one] at hput
                have hto2 : Ow boolE 4 (w3.setCell ⟨w1.heap.size, k, none⟩ (.bool true)) (w.heap.size + 1) (.slice (some ⟨w1.heap.size, 0, none⟩) T T) (toldL T (orderL (esOf p) T n ++ [k])) := hput.1
                have ho2 : Ow natE 3 (w3.setCell ⟨w1.heap.size, k, none⟩ (.bool true)) (w.heap.size + 1) (.slice A n c) (orderL (esOf p) T n) := ho.grown hput.2 (ho.ne_ hto (by decide))
                have D2 : BoxAt w.heap.size p ve (w3.setCell ⟨w1.heap.size, k, none⟩ (.bool true)) := D.far hput.2 (by simp; omega)
                have hb2 : Below w.heap.size w (w3.setCell ⟨w1.heap.size, k, none⟩ (.bool true)) := hb.grown hput.2 hb.size (fun g' hg' => by simp at hg'; omega)
                have hsz2 : (w3.setCell ⟨w1.heap.size, k, none⟩ (.bool true)).heap.size = w3.heap.size := by simp [World.setCell]
                have Hsz2 := Lib.hid hsz2
                clear hput hsz2
                have ha : Hid (∀ w : World, Below w.heap.size w (w.alloc (.cells #[.int .i64 (k : Int)] 3))) := fun w => (Below.refl _ _).alloc (Nat.le_refl _) _
                have hDl := D.lt
                have Ho2 := Lib.hid ho2
                have Hto2 := Lib.hid hto2
                have HD2 := Lib.hid D2
                have Hb2 := Lib.hid hb2
                have Hwi := Lib.hid ho2.within
                clear ho2 hto2 D2 hb2
                go_wp2_with (at_builtin; refine wpList_push_all _ natE (by decide) rfl (.tmp 56) (.tmp 58) rfl Try.underlying27 hj0 jz0 jz1 jz2 rfl (l := orderL (esOf p) T n) rfl (Ho2.out.below (ha.out _)) rfl (Rd.one natE (w3.setCell ⟨w1.heap.size, k, none⟩ (.bool true)) _ k Hsz2.out.symm rfl 1 (Nat.le_refl _) (Nat.lt_succ_self _)) (by have := HL.out; omega) (by simp) (by decide) (by rw [World.size_alloc, Hsz2.out]; omega) ?_; intro v5 w5 o5 g5 hat5; obtain ⟨A5, c5, rfl, -⟩ := id (Rd.of_own o5))
                have D5 := (HD2.out.below (ha.out _)).far g5 (fun e => by have := Hwi.out _ e.symm; omega)
                have hb' := bnext Hb2.out (ha.out _)
                have W5 := hb'.grown g5 hb'.size (fun g hg => by have := Hwi.out _ hg; omega)
                have T5 := (Hto2.out.below (ha.out _)).grown g5 ((Hto2.out.below (ha.out _)).ne_ (Ho2.out.below (ha.out _)) (by decide))
                refine ⟨⟨n + 1, by omega, ?_, ?_, D5, W5⟩, ?_⟩
                · rw [S.out]
                  simpa using o5
                · rw [S.out]
                  exact T5
                · simp only [slen]
                  have := HL.out
                  first | omega | (simp; omega)
        · exfalso
          obtain ⟨t, _, ht, hm⟩ := pick_some he1.out hac'.out (exists_out (T := T) (o := orderL (esOf p) T n) (by rw [HL.out]; exact hlt))
          rw [hno.out t (by omega)] at hm
          cases hm
    · have hltI : ¬ (n : Int) < p.tasks := by rw [HT.out]; omega
      have hn' : n = T := by omega
      subst hn'
      go_wp2
      go_ret
      refine ⟨_, rfl, ?_, hb⟩
      rw [H.out]
      exact ho.more (by omega)
end Go.Proofs.Ytnaicippgocdfaa
end
section
namespace Go.Proofs.Ytnaicippgocdfaa
open Go.RowKit
set_option maxRecDepth 100000
set_option maxHeartbeats 3000000

theorem specEarliest_any (p : Plan) (ve v : Value) (l : List Int) (w : World) (hl : p.edges.length ≤ 2000000) (hl2 : l.length ≤ 2000000) (h : Rd edgeE w w.heap.size ve p.edges) (h2 : Rd intE w w.heap.size v l) :
    Calls Try.prog 39 #[planV p ve, v] w fun e w' => ∃ u, e = .returned u ∧ Ow intE 3 w' w.heap.size u (earliestOf p l) ∧ Below w.heap.size w w' := by
  obtain ⟨A, c, rfl, -⟩ := id h2
  have hb0 := planBox_below 26 p ve w
  have D0 := BoxAt.new 26 p ve w
  cases hf : weightsOk p l
  · have H := Lib.hid (show earliestOf p l = [] by simp [earliestOf, hf])
    have HF := Lib.hid hf
    clear hf
    unfold planV
    go_enter Try.func39, Try.ntmps39
    go_wp2_with fail
    refine (specWeightsOk_any p ve (.slice A l.length c) l _ hl hl2 ((h.below hb0).more hb0.size) ((h2.below hb0).more hb0.size)).mono ?_
    rintro e w1 ⟨rfl, hb1⟩
    rw [HF.out]
    have hb := bnext hb0 hb1
    go_wp2
    go_ret
    exact ⟨_, rfl, by rw [H.out]; exact (Ow.empty intE 3 w1 rfl).more hb.size, hb.alloc hb.size _⟩
  obtain ⟨g1, g2, g3⟩ := weightsOk_all hf
  have G := Lib.hid (planFault_zero.1 g1)
  have HF := Lib.hid hf
  have HP := Lib.hid g1
  have HW := Lib.hid g3
  obtain ⟨t1, t2⟩ := manyOk_tasks G.out.1
  obtain ⟨T, hT⟩ := Int.eq_ofNat_of_zero_le (show 0 ≤ p.tasks by omega)
  have HT := Lib.hid hT
  have HTn := Lib.hid (show p.tasks.toNat = T by omega)
  have hT12 : T ≤ 12 := by omega
  have HLl := Lib.hid (show l.length = T by omega)
  have H := Lib.hid (show earliestOf p l = earL (esOf p) T l (orderOf p) by unfold earliestOf; rw [if_pos hf, HTn.out])
  have hO := Lib.hid (orderOf_inv g1)
  obtain ⟨j0, hj0, jz0, jz1, jz2⟩ := info_parts int_info
  have hmk : ∀ w : World, (Instr.makeSlice 27 (.int .i64 p.tasks) (.int .i64 p.tasks)).run Try.prog w = .ok (.slice (some ⟨w.heap.size, 0, none⟩) T T) (w.alloc (.cells (madeCells #[.int .i64 0] (T * 1)) 3)) := by
    intro w
    have := run_make (P := Try.prog) w 27 3 j0 _ Try.underlying27 hj0 jz0 .i64 .i64 T T (by omega) (by omega) (by rw [jz2]; omega) (by omega)
    rw [jz1] at this
    rw [hT]
    simpa [Value.cells] using this
  clear hf g1 g2 g3 hT
  unfold planV
  go_enter Try.func39, Try.ntmps39
  go_wp2_with fail
  refine (specWeightsOk_any p ve (.slice A l.length c) l _ hl hl2 ((h.below hb0).more hb0.size) ((h2.below hb0).more hb0.size)).mono ?_
  rintro e w1 ⟨rfl, hb1⟩
  rw [HF.out]
  have D := D0.below hb1
  have hb := bnext hb0 hb1
  obtain ⟨x0, x1, x2, x3, x4, xs⟩ := D.cells
  go_wp2_with fail
  clear x0 x1 x2 x3 x4 hmk D0 hb0 hb1
  have O1 := Ow.made intE 3 w1 0 T (by decide) (by simp [maxLen]; omega) (z := #[.int .i64 0]) rfl (m := T) (by simp [intE])
  have ha := (Below.refl w1.heap.size w1).alloc (Nat.le_refl _) (.cells (madeCells #[.int .i64 0] T) 3)
  have hsz1 : (w1.alloc (.cells (madeCells #[.int .i64 0] T) 3)).heap.size = w1.heap.size + 1 := by simp
  have Hsz1 := Lib.hid hsz1
  have D := D.below ha
  have hb := bnext hb ha
  clear ha hsz1
  refine (specOrder_any p ve _ hl ((h.below hb).more hb.size)).mono ?_
  rintro e w2 ⟨v2, rfl, o2, hb2⟩
  have o2 := o2.more (base' := w1.heap.size + 1) (by rw [Hsz1.out]; omega)
  have O := O1.below hb2
  have D := D.below hb2
  have hb := bnext hb hb2
  have hX := xs
  clear O1 xs hb2
  have hlen : (orderOf p).length = T := by rw [hO.out.len, HTn.out]
  have hlt0 : Hid (∀ x ∈ orderOf p, x < T) := fun x hx => by have := hO.out.lt x hx; rw [HTn.out] at this; exact this
  generalize orderOf p = ord at *
  obtain ⟨A2, c2, rfl, -⟩ := id (Rd.of_own o2)
  rw [hlen] at o2 ⊢
  have HO2 := Lib.hid hlen
  clear hlen
  go_wp2
  go_loopw [7] (fun i wr => ∃ k : Nat, k ≤ T ∧ i = .int .i64 k ∧ Hid (Bd (earL (esOf p) T l (ord.take k)) (12 * k)) ∧ Ow intE 3 wr w1.heap.size (.slice (some ⟨w1.heap.size, 0, none⟩) T T) (earL (esOf p) T l (ord.take k)) ∧ Ow natE 3 wr (w1.heap.size + 1) (.slice A2 T c2) ord ∧ BoxAt w.heap.size p ve wr ∧ Below w.heap.size w wr) (fun i _ => T - (intOf i).toNat)
  case atStart => exact ⟨0, Nat.zero_le _, rfl, fun x hx => by have := List.eq_of_mem_replicate hx; subst this; omega, O, o2, D, hb⟩
  case round =>
    clear O o2 D hb
    obtain ⟨k, hk, rfl, hbd, ho, o2, D, hb⟩ := hrel
    by_cases hlt : k < T
    · have hltI : (k : Int) < (T : Int) := by omega
      have hko : k < ord.length := by rw [HO2.out]; exact hlt
      have S0 := Lib.hid (show earL (esOf p) T l (ord.take (k + 1)) = (beforeL (esOf p) T ord[k]).foldl (earStep l ord[k]) (earL (esOf p) T l (ord.take k)) from earTake_step hko)
      have hEl := earL_len (esOf p) T l (ord.take k)
      have htT : ord[k] < T := hlt0.out _ (List.getElem_mem hko)
      obtain ⟨g2, rfl, hg2, hg2'⟩ := o2.some_ (by omega)
      have ct := o2.nat hko
      generalize hE : earL (esOf p) T l (ord.take k) = E at *
      have HE := Lib.hid hE
      clear hE
      generalize hkt : ord[k] = t at *
      have Hkt := Lib.hid hkt
      clear hkt
      obtain ⟨x0, x1, x2, x3, x4, xs⟩ := D.cells
      have hblk := ho.blk.2
      go_wp2
      go_still_tail 5, (by kernel_rfl)
      clear x0 x1 x2 x3 x4 xs ct
      change wpList _ _ _ _ _ wr.drew
      have hdr0 : Below wr.heap.size wr wr.drew := (Below.refl _ _).drew
      have ho := ho.below hdr0
      have o2 := o2.below hdr0
      have D := D.below hdr0
      have hb := bnext hb hdr0
      have hblk := ho.blk.2
      clear hdr0
      generalize wr.drew = wr at *
      go_wp2_with fail
      refine (specBefore_any p ve t _ G.out.1 G.out.2.1 G.out.2.2.1 ((h.below hb).more hb.size)).mono ?_
      rintro e w3 ⟨v3, rfl, o3, b3⟩
      rw [HTn.out] at o3
      have o3 := o3.more (base' := w1.heap.size + 1) (by omega)
      have ho := ho.below b3
      have o2 := o2.below b3
      have D := D.below b3
      have hb := bnext hb b3
      have hbl := beforeL_len (esOf p) T t
      have hbm : Hid (∀ x ∈ beforeL (esOf p) T t, x < T) := fun x hx => by simp [beforeL] at hx; exact hx.1
      generalize beforeL (esOf p) T t = B at *
      obtain ⟨A3, c3, rfl, -⟩ := id (Rd.of_own o3)
      clear b3 hblk
      go_wp2
      go_loopw [9] (fun i wr => ∃ j : Nat, j ≤ B.length ∧ i = .int .i64 j ∧ Hid (Bd ((B.take j).foldl (earStep l t) E) (12 * k + j)) ∧ Ow intE 3 wr w1.heap.size (.slice (some ⟨w1.heap.size, 0, none⟩) T T) ((B.take j).foldl (earStep l t) E) ∧ Ow natE 3 wr (w1.heap.size + 1) (.slice (some ⟨g2, 0, none⟩) T c2) ord ∧ Ow natE 3 wr (w1.heap.size + 1) (.slice A3 B.length c3) B ∧ BoxAt w.heap.size p ve wr ∧ Below w.heap.size w wr) (fun i _ => B.length - (intOf i).toNat)
      case atStart => exact ⟨0, Nat.zero_le _, rfl, hbd, ho, o2, o3, D, hb⟩
      case round =>
        clear ho o2 o3 D hb
        obtain ⟨j, hj, rfl, hbj, ho, o2, o3, D, hb⟩ := hrel
        by_cases hjt : j < B.length
        · have hjI : (j : Int) < (B.length : Int) := by omega
          have S := Lib.hid (earTake_step (f := earStep l t) (o := E) hjt)
          have hOl := earFold_len l t (B.take j) E
          rw [hEl] at hOl
          generalize (B.take j).foldl (earStep l t) E = O at *
          have hbT : B[j] < T := hbm.out _ (List.getElem_mem hjt)
          obtain ⟨g3, rfl, hg3, hg3'⟩ := o3.some_ (by omega)
          have cb := o3.nat hjt
          generalize hjb : B[j] = b at *
          have Hjb := Lib.hid hjb
          clear hjb
          have htI : (t : Int) < (T : Int) := by omega
          have hbI : (b : Int) < (T : Int) := by omega
          have hlb : b < l.length := by rw [HLl.out]; exact hbT
          have hlbI : (b : Int) < (l.length : Int) := by omega
          have htO : t < O.length := by omega
          have hbO : b < O.length := by omega
          have cO := ho.int htO
          have cO2 := ho.int hbO
          have hf := ho.free
          obtain ⟨bw, ow, rfl, hbw, cw⟩ := (h2.below hb).int hlb
          have Hcw : Hid (∀ W', Below w.heap.size w W' → W'.cell? ⟨bw, ow + b, none⟩ = some (.int .i64 l[b])) := fun W' hW' => by
            obtain ⟨b', o', ee, _, d0⟩ := (h2.below hW').int hlb
            simp only [Option.some.injEq, Addr.mk.injEq] at ee
            obtain ⟨rfl, rfl, -⟩ := ee
            exact d0
          have hS := Lib.hid (earStep_eq (l := l) htO hbO hlb)
          have hw1 := hbj.out _ (List.getElem_mem htO)
          have hw2 := hbj.out _ (List.getElem_mem hbO)
          have hw3 := HW.out _ (List.getElem_mem hlb)
          have hbd2 := Lib.hid (hbj.out.step HW.out t b)
          have hput := Lib.hid (Ow.put ho hOl t htT (max O[t] (O[b] + l[b])))
          have hwr : IntKind.i64.wrap (O[b] + l[b]) = O[b] + l[b] := IntWalk.i64_in _ (by omega)
          clear hw1 hw2 hw3
          have ct := o2.nat hko
          rw [Hkt.out] at ct
          have hdr : ∀ w : World, Below w.heap.size w w.drew := fun w => (Below.refl _ _).drew
          have Hdr := Lib.hid hdr
          clear hdr
          by_cases hgt : O[t] < O[b] + l[b]
          · have hmax := Lib.hid (show max O[t] (O[b] + l[b]) = O[b] + l[b] by omega)
            go_wp2
            go_quiet (fail)
            clear ct cb cO cO2 cw hf
            have hdn : Below wr.heap.size wr (wr.drewN nq) := bdrewN (Below.refl _ _) _
            have ho := ho.below hdn
            have o2 := o2.below hdn
            have o3 := o3.below hdn
            have D := D.below hdn
            have hb := bnext hb hdn
            clear hput
            have hput := Lib.hid (Ow.put ho hOl t htT (O[b] + l[b]))
            have ct := o2.nat hko
            rw [Hkt.out] at ct
            have cb := o3.nat hjt
            rw [Hjb.out] at cb
            have cO := ho.int htO
            have cO2 := ho.int hbO
            have hf := ho.free
            have cw := Hcw.out _ hb
            clear hdn
            generalize wr.drewN nq = wr at *
            go_wp2
            go_still_tail 21, (by kernel_rfl)
            change wpList _ _ _ _ _ wr.drew
            go_wp2
            refine ⟨⟨j + 1, by omega, by go_num, by rw [S.out]; exact hbd2.out, ?_, (o2.setOther (by simp [Value.ownBlock]; omega) _).below (Hdr.out _), (o3.setOther (by simp [Value.ownBlock]; omega) _).below (Hdr.out _), (D.other (by simp; omega) _).below (Hdr.out _), (hb.setCell (by simp; omega) _).drew⟩, by simp [intOf]; omega⟩
            rw [S.out, hS.out, hmax.out]
            have := hput.out.1
            simp only [intE, Nat.mul_one] at this
            exact this.below (Hdr.out _)
          · have hmax := Lib.hid (show max O[t] (O[b] + l[b]) = O[t] by omega)
            have hdec : decide (O[t] < O[b] + l[b]) = false := by simpa using hgt
            go_wp2
            go_quiet (fail)
            go_wp2
            have hdn : Below wr.heap.size wr (wr.drewN nq) := bdrewN (Below.refl _ _) _
            refine ⟨⟨j + 1, by omega, by go_num, by rw [S.out]; exact hbd2.out, ?_, o2.below hdn, o3.below hdn, D.below hdn, bnext hb hdn⟩, by simp [intOf]; omega⟩
            rw [S.out, hS.out, hmax.out, List.set_getElem_self]
            exact ho.below hdn
        · have hjI : ¬ (j : Int) < (B.length : Int) := by omega
          have hj' : j = B.length := by omega
          subst hj'
          rw [List.take_length] at ho hbj
          go_wp2
          exact ⟨⟨k + 1, by omega, by go_num, by rw [S0.out]; exact hbj.out.more (by omega), by rw [S0.out]; exact ho, o2, D, hb⟩, by simp [intOf]; omega⟩
    · have hltI : ¬ (k : Int) < (T : Int) := by omega
      have hk' : k = T := by omega
      have hbF := hb
      subst hk'
      rw [List.take_of_length_le (by rw [HO2.out]; exact Nat.le_refl _)] at ho
      go_wp2
      go_ret
      exact ⟨_, rfl, by rw [H.out]; exact ho.more (by omega), hbF⟩

theorem earliestOf_len (p : Plan) (l : List Int) : (earliestOf p l).length ≤ 12 := by
  unfold earliestOf
  split
  · rename_i hf
    have := manyOk_tasks (planFault_zero.1 (weightsOk_all hf).1).1
    rw [earL_len]
    omega
  · simp
end Go.Proofs.Ytnaicippgocdfaa
end
section
namespace Go.Proofs.Ytnaicippgocdfaa
open Go.RowKit
set_option maxRecDepth 100000
set_option maxHeartbeats 2000000

def longUpto (e l : List Int) : Nat → Int
  | 0 => 0
  | k + 1 => max (longUpto e l k) (e.getD k 0 + l.getD k 0)
noncomputable def longestOf (p : Plan) (l : List Int) : Int := longUpto (earliestOf p l) l (earliestOf p l).length

theorem earFold_bd {l : List Int} (hl : ∀ x ∈ l, 1 ≤ x ∧ x ≤ 1000) (t : Nat) : ∀ (B : List Nat) (o : List Int) (c : Nat), Bd o c → Bd (B.foldl (earStep l t) o) (c + B.length)
  | [], _, _, h => h
  | b :: B, o, c, h => by
    have := earFold_bd hl t B _ _ (h.step hl t b)
    rw [List.foldl_cons, List.length_cons]
    exact this.more (by omega)
theorem earL_bd {es : List (Nat × Nat)} {T : Nat} {l : List Int} (hl : ∀ x ∈ l, 1 ≤ x ∧ x ≤ 1000) (ord : List Nat) : Bd (earL es T l ord) (T * ord.length) := by
  unfold earL
  suffices h : ∀ (ord : List Nat) (o : List Int) (c : Nat), Bd o c → Bd (ord.foldl (earTask es T l) o) (c + T * ord.length) by
    have := h ord (List.replicate T 0) 0 (fun x hx => by have := List.eq_of_mem_replicate hx; subst this; omega)
    simpa using this
  intro ord
  induction ord with
  | nil => intro o c h; simpa using h
  | cons t ord ih =>
    intro o c h
    rw [List.foldl_cons]
    refine (ih _ _ (earFold_bd hl t (beforeL es T t) o c h)).more ?_
    have := beforeL_len es T t
    rw [List.length_cons, Nat.mul_succ]
    omega
theorem earliestOf_bd (p : Plan) (l : List Int) : Bd (earliestOf p l) 144 := by
  unfold earliestOf
  split
  · rename_i hf
    obtain ⟨g1, g2, g3⟩ := weightsOk_all hf
    have h1 := manyOk_tasks (planFault_zero.1 g1).1
    have h2 := (orderOf_inv g1).len
    refine (earL_bd g3 _).more ?_
    rw [h2]
    exact Nat.le_trans (Nat.mul_le_mul (show p.tasks.toNat ≤ 12 by omega) (show p.tasks.toNat ≤ 12 by omega)) (by omega)
  · intro x hx; cases hx
theorem earliestOf_one {p : Plan} {l : List Int} (h : 0 < (earliestOf p l).length) : weightsOk p l = true ∧ (earliestOf p l).length = l.length := by
  cases hf : weightsOk p l
  · simp [earliestOf, hf] at h
  · obtain ⟨g1, g2, g3⟩ := weightsOk_all hf
    have h1 := manyOk_tasks (planFault_zero.1 g1).1
    refine ⟨rfl, ?_⟩
    unfold earliestOf
    rw [if_pos hf, earL_len]
    omega
theorem longUpto_bd {e l : List Int} (he : Bd e 144) (hl : ∀ x ∈ l, 1 ≤ x ∧ x ≤ 1000) : ∀ k, 0 ≤ longUpto e l k ∧ longUpto e l k ≤ 145000
  | 0 => by simp [longUpto]
  | k + 1 => by
    have := longUpto_bd he hl k
    have h1 := getD_bd he k
    have hw : 0 ≤ l.getD k 0 ∧ l.getD k 0 ≤ 1000 := by
      rw [List.getD_eq_getElem?_getD]
      cases hk : l[k]? with
      | none => simp
      | some y => have := hl y (List.mem_of_getElem? hk); simp; omega
    rw [longUpto]
    omega
theorem longUpto_succ {e l : List Int} {k : Nat} (h : k < e.length) (h' : k < l.length) : longUpto e l (k + 1) = max (longUpto e l k) (e[k] + l[k]) := by
  rw [longUpto]
  simp [List.getD_eq_getElem?_getD, h, h']

theorem implLongest_any (p : Plan) (ve v : Value) (l : List Int) (w : World) (hl : p.edges.length ≤ 2000000) (hl2 : l.length ≤ 2000000) (h : Rd edgeE w w.heap.size ve p.edges) (h2 : Rd intE w w.heap.size v l) :
    Calls Try.prog 31 #[planV p ve, v] w fun e w' => e = .returned (.int .i64 (longestOf p l)) ∧ Below w.heap.size w w' := by
  obtain ⟨A, c, rfl, -⟩ := id h2
  have hb0 := planBox_below 26 p ve w
  have hbd := Lib.hid (earliestOf_bd p l)
  have hone := Lib.hid (fun h => earliestOf_one (p := p) (l := l) h)
  have H := Lib.hid (show longestOf p l = longUpto (earliestOf p l) l (earliestOf p l).length from rfl)
  have hel := earliestOf_len p l
  unfold planV
  go_enter Try.func31, Try.ntmps31
  go_wp2_with fail
  refine (implEarliest_any p ve (.slice A l.length c) l _ hl hl2 ((h.below hb0).more hb0.size) ((h2.below hb0).more hb0.size)).mono ?_
  rintro e w1 ⟨u, rfl, o1, hb1⟩
  have hb := bnext hb0 hb1
  generalize earliestOf p l = E at *
  obtain ⟨A1, c1, rfl, -⟩ := id (Rd.of_own o1)
  clear hb0 hb1
  go_wp2
  go_loop [5, 12] (fun n i => ∃ k : Nat, k ≤ E.length ∧ i = .int .i64 k ∧ n = .int .i64 (longUpto E l k)) (fun _ i => E.length - (intOf i).toNat)
  case atStart => exact ⟨0, Nat.zero_le _, rfl, rfl⟩
  case round =>
    obtain ⟨k, hk, rfl, rfl⟩ := hrel
    by_cases hlt : k < E.length
    · have hltI : (k : Int) < (E.length : Int) := by omega
      obtain ⟨hok, hll⟩ := hone.out (by omega)
      obtain ⟨-, -, hw⟩ := weightsOk_all hok
      have Hll := Lib.hid hll
      have hkl : k < l.length := by omega
      have hklI : (k : Int) < (l.length : Int) := by omega
      have hs := Lib.hid (longUpto_succ (e := E) (l := l) hlt hkl)
      have hn := longUpto_bd hbd.out hw k
      have he := hbd.out _ (List.getElem_mem hlt)
      have hwk := hw _ (List.getElem_mem hkl)
      obtain ⟨g1, rfl, _, _⟩ := o1.some_ (by omega)
      have ce := o1.int hlt
      obtain ⟨bw, ow, rfl, hbw, cw⟩ := (h2.below hb).int hkl
      clear hw hll hok
      go_wp2
      exact ⟨⟨k + 1, by omega, by go_num, by rw [hs.out]⟩, by simp [intOf]; omega⟩
    · have hltI : ¬ (k : Int) < (E.length : Int) := by omega
      have hk' : k = E.length := by omega
      have hbF := hb
      subst hk'
      go_wp2
      go_ret
      exact ⟨ret_int (by rw [H.out]), hbF⟩
theorem specLongest_any (p : Plan) (ve v : Value) (l : List Int) (w : World) (hl : p.edges.length ≤ 2000000) (hl2 : l.length ≤ 2000000) (h : Rd edgeE w w.heap.size ve p.edges) (h2 : Rd intE w w.heap.size v l) :
    Calls Try.prog 13 #[planV p ve, v] w fun e w' => e = .returned (.int .i64 (longestOf p l)) ∧ Below w.heap.size w w' := by
  obtain ⟨A, c, rfl, -⟩ := id h2
  have hb0 := planBox_below 26 p ve w
  have hbd := Lib.hid (earliestOf_bd p l)
  have hone := Lib.hid (fun h => earliestOf_one (p := p) (l := l) h)
  have H := Lib.hid (show longestOf p l = longUpto (earliestOf p l) l (earliestOf p l).length from rfl)
  have hel := earliestOf_len p l
  unfold planV
  go_enter Try.func13, Try.ntmps13
  go_wp2_with fail
  refine (specEarliest_any p ve (.slice A l.length c) l _ hl hl2 ((h.below hb0).more hb0.size) ((h2.below hb0).more hb0.size)).mono ?_
  rintro e w1 ⟨u, rfl, o1, hb1⟩
  have hb := bnext hb0 hb1
  generalize earliestOf p l = E at *
  obtain ⟨A1, c1, rfl, -⟩ := id (Rd.of_own o1)
  have hb0s := hb0.size
  clear hb0 hb1
  go_wp2
  go_loopw [5, 7] (fun n i wr => ∃ k : Nat, k ≤ E.length ∧ i = .int .i64 k ∧ n = .int .i64 (longUpto E l k) ∧ Ow intE 3 wr w.heap.size (.slice A1 E.length c1) E ∧ Below w.heap.size w wr) (fun _ i _ => E.length - (intOf i).toNat)
  case atStart => exact ⟨0, Nat.zero_le _, rfl, rfl, o1.more hb0s, hb⟩
  case round =>
    clear o1 hb
    obtain ⟨k, hk, rfl, rfl, o1, hb⟩ := hrel
    by_cases hlt : k < E.length
    · have hltI : (k : Int) < (E.length : Int) := by omega
      obtain ⟨hok, hll⟩ := hone.out (by omega)
      obtain ⟨-, -, hw⟩ := weightsOk_all hok
      have Hll := Lib.hid hll
      have hkl : k < l.length := by omega
      have hklI : (k : Int) < (l.length : Int) := by omega
      have hs := Lib.hid (longUpto_succ (e := E) (l := l) hlt hkl)
      have hn := longUpto_bd hbd.out hw k
      have he := hbd.out _ (List.getElem_mem hlt)
      have hwk := hw _ (List.getElem_mem hkl)
      obtain ⟨g1, rfl, _, _⟩ := o1.some_ (by omega)
      have ce := o1.int hlt
      obtain ⟨bw, ow, rfl, hbw, cw⟩ := (h2.below hb).int hkl
      have Hcw : Hid (∀ W', Below w.heap.size w W' → W'.cell? ⟨bw, ow + k, none⟩ = some (.int .i64 l[k])) := fun W' hW' => by
        obtain ⟨b', o', ee, _, d0⟩ := (h2.below hW').int hkl
        simp only [Option.some.injEq, Addr.mk.injEq] at ee
        obtain ⟨rfl, rfl, -⟩ := ee
        exact d0
      have hwr : IntKind.i64.wrap (E[k] + l[k]) = E[k] + l[k] := IntWalk.i64_in _ (by omega)
      have hdr : Hid (∀ n, Below wr.heap.size wr (wr.drewN n)) := fun n => bdrewN (Below.refl _ _) n
      clear hw hll hok hn he hwk
      by_cases hgt : longUpto E l k < E[k] + l[k]
      · have hmax := Lib.hid (show max (longUpto E l k) (E[k] + l[k]) = E[k] + l[k] by omega)
        go_wp2
        go_quiet (fail)
        clear ce cw
        have o1 := o1.below (hdr.out nq)
        have hb := bnext hb (hdr.out nq)
        have ce := o1.int hlt
        have cw := Hcw.out _ hb
        generalize wr.drewN nq = w5 at *
        go_wp2
        go_quiet (fail)
        go_wp2
        exact ⟨⟨k + 1, by omega, by go_num, by rw [hs.out, hmax.out], o1.below (bdrewN (Below.refl _ _) _), bdrewN hb _⟩, by simp [intOf]; omega⟩
      · have hmax := Lib.hid (show max (longUpto E l k) (E[k] + l[k]) = longUpto E l k by omega)
        have hdec : decide (longUpto E l k < E[k] + l[k]) = false := by simpa using hgt
        go_wp2
        go_quiet (fail)
        go_wp2
        exact ⟨⟨k + 1, by omega, by go_num, by rw [hs.out, hmax.out], o1.below (hdr.out nq), bdrewN hb _⟩, by simp [intOf]; omega⟩
    · have hltI : ¬ (k : Int) < (E.length : Int) := by omega
      have hk' : k = E.length := by omega
      have hbF := hb
      subst hk'
      go_wp2
      go_ret
      exact ⟨ret_int (by rw [H.out]), hbF⟩
end Go.Proofs.Ytnaicippgocdfaa
end
