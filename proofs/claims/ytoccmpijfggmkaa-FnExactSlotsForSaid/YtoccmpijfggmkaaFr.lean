/-
  l06From of the reference: the search by a list.
-/
import Derived.Test.YtoccmpijfggmkaaWa
namespace Go.Proofs.Ytoccmpijfggmkaa
open Go.RowKit
set_option maxRecDepth 100000
set_option maxHeartbeats 2000000

theorem bool_info : (Try.prog.info? 4).map (fun i => (i.zero, i.size, i.bytes)) = some (some (.bool false), 1, 1) := by kernel_rfl

/-- what the search answers -/
def FromPost (p : Plan) (t : Nat) (w : World) (e : Ending) (w' : World) : Prop :=
  ∃ v O, e = .returned v ∧ Ow boolE 4 w' w.heap.size v O ∧ Below w.heap.size w w' ∧ O.length = p.tasks.toNat ∧ ∀ y, O.getD y false = true ↔ Pg.Reach (esOf p) t y

theorem from_any (p : Plan) (ve : Value) (t : Nat) (w : World) (hm : manyOk p = true) (he : edgesIn p) (ht : (t : Int) < p.tasks) (h : Rd edgeE w w.heap.size ve p.edges) :
    Calls Try.prog 117 #[planV p ve, .int .i64 (t : Int)] w (FromPost p t w) := by
  obtain ⟨A, c, rfl, -⟩ := id h
  obtain ⟨t1, t2⟩ := manyOk_tasks hm
  have hlen := manyOk_edges hm
  obtain ⟨T, hT⟩ := Int.eq_ofNat_of_zero_le (show 0 ≤ p.tasks by omega)
  have HT := Lib.hid hT
  have hT12 : T ≤ 12 := by omega
  have htT : t < T := by omega
  obtain ⟨i0, hi0, hz0, hz1, hz2⟩ := info_parts bool_info
  obtain ⟨j0, hj0, jz0, jz1, jz2⟩ := info_parts int_info
  have hmk : ∀ w : World, (Instr.makeSlice 101 (.int .i64 p.tasks) (.int .i64 p.tasks)).run Try.prog w = .ok (.slice (some ⟨w.heap.size, 0, none⟩) T T) (w.alloc (.cells (madeCells #[.bool false] (T * 1)) 4)) := by
    intro w
    have := run_make (P := Try.prog) w 101 4 i0 _ Try.underlying101 hi0 hz0 .i64 .i64 T T (by omega) (by omega) (by rw [hz2]; omega) (by omega)
    rw [hz1] at this
    rw [hT]
    simpa [Value.cells] using this
  have hes : (∀ e ∈ esOf p, e.1 < T) ∧ (∀ e ∈ esOf p, e.2 < T) := by
    have := esOf_lt he
    rw [hT] at this
    simpa using this
  clear hT
  unfold planV
  go_enter Try.func117, Try.ntmps117
  go_wp2
  go_loopw [6, 7] (fun vl i wr => ∃ (k : Nat) (s : List Bool × List Nat), Hid (Pg.Bat (esOf p) T t k s) ∧ i = .int .i64 k ∧ Ow boolE 4 wr (w.heap.size + 1) (.slice (some ⟨w.heap.size + 1, 0, none⟩) T T) s.1 ∧ Ow natE 3 wr (w.heap.size + 1) vl s.2 ∧
      Below (planBox 47 p (.slice A p.edges.length c) w).heap.size (planBox 47 p (.slice A p.edges.length c) w) wr) (fun _ i _ => T + 2 - (intOf i).toNat)
  case atStart =>
    refine ⟨0, _, Pg.Bat.start (esOf p) T t, rfl, ?_, ?_, ?_⟩
    · have := Ow.made boolE 4 (planBox 47 p (.slice A p.edges.length c) w) false T (by decide) (by simp [maxLen]; omega) (z := #[.bool false]) rfl (m := T) (by simp [boolE])
      rw [planBox_size] at this
      exact this.below ((Below.refl _ _).alloc (Nat.le_refl _) _)
    · have := World.ownsRow_lit (base := w.heap.size + 1) (e := 3) (size := 1) ((planBox 47 p (.slice A p.edges.length c) w).alloc (.cells (madeCells #[.bool false] T) 4)) #[.int .i64 (t : Int)] 1 (by simp [planBox_size]) (by simp [maxLen]) rfl
      simp only [World.size_alloc, planBox_size] at this
      exact this
    · exact ((Below.refl _ _).alloc (Nat.le_refl _) _).alloc (by simp) _
  case round =>
    obtain ⟨k, s, hbat, rfl, ho, hl, hb⟩ := hrel
    obtain ⟨x0, x1, x2, x3, x4, hs, hbw⟩ := planBox_cells hb
    have hs1 : w.heap.size < wr.heap.size := by omega
    have hkT := hbat.out.inv.lt
    have hkl := hbat.out.le
    have hol := Lib.hid hbat.out.inv.size
    rcases hl.form with ⟨_, e0⟩ | ⟨gl, cap, rfl, hgl0, hgl, hlc, hcm, hlf, hlcell⟩
    · exfalso
      obtain ⟨l, hh, _⟩ := hbat.out.inv.head
      rw [hh] at e0
      cases e0
    clear hlcell hlf
    by_cases hlt : k < s.2.length
    · have hltI : (k : Int) < (s.2.length : Int) := by omega
      obtain ⟨wo, rfl⟩ : ∃ wo : World, wo = wr := ⟨_, rfl⟩
      have hgx : s.2[k]? = some s.2[k] := List.getElem?_eq_getElem hlt
      have hBn := Lib.hid (hbat.out.next hes.2 hgx)
      clear hgx
      go_wp2
      go_loopw [6, 8] (fun vl i wr => ∃ (j : Nat), j ≤ p.edges.length ∧ i = .int .i64 j ∧ Ow boolE 4 wr (w.heap.size + 1) (.slice (some ⟨w.heap.size + 1, 0, none⟩) T T) (Pg.bnode (esL (p.edges.take j)) s.2[k] s).1 ∧ Ow natE 3 wr (w.heap.size + 1) vl (Pg.bnode (esL (p.edges.take j)) s.2[k] s).2 ∧
        Below (planBox 47 p (.slice A p.edges.length c) w).heap.size (planBox 47 p (.slice A p.edges.length c) w) wr) (fun _ i _ => p.edges.length - (intOf i).toNat)
      case atStart => exact ⟨0, Nat.zero_le _, rfl, ho, hl, hb⟩
      case round =>
        clear ho hl hb x0 x1 x2 x3 x4 hs hbw hs1 hgl0 hgl hlc hcm
        obtain ⟨j, hj, rfl, ho, hl, hb⟩ := hrel
        obtain ⟨x0, x1, x2, x3, x4, hs, hbw⟩ := planBox_cells hb
        have hs1 : w.heap.size < wr.heap.size := by omega
        by_cases hjt : j < p.edges.length
        · have hjI : (j : Int) < (p.edges.length : Int) := by omega
          obtain ⟨b, o, rfl, hbb, c0, c1⟩ := (h.below hbw).edge hjt
          obtain ⟨f1, f2, f3, f4⟩ := edgesIn_get he hjt
          rw [HT.out] at f2 f4
          have htk := Lib.hid (show esL (p.edges.take (j + 1)) = esL (p.edges.take j) ++ [(p.edges[j].fr.toNat, p.edges[j].to.toNat)] by unfold esL; rw [take_snoc _ j hjt, List.map_append]; rfl)
          generalize p.edges[j].fr = fx at *
          generalize p.edges[j].to = tx at *
          obtain ⟨a, rfl⟩ := Int.eq_ofNat_of_zero_le f1
          obtain ⟨d, rfl⟩ := Int.eq_ofNat_of_zero_le f3
          have hstep : Hid (Pg.bnode (esL (p.edges.take (j + 1))) s.2[k] s = Pg.bstep s.2[k] (Pg.bnode (esL (p.edges.take j)) s.2[k] s) (a, d)) := by
            show Pg.bnode _ _ _ = _
            rw [htk.out]
            simp only [Int.toNat_natCast]
            unfold Pg.bnode
            rw [List.foldl_append]
            rfl
          have hbl := Pg.bnode_length (esL (p.edges.take j)) s.2[k] s
          rw [hol.out] at hbl
          obtain ⟨r, hr⟩ := Pg.bnode_pre (esL (p.edges.take j)) s.2[k] s
          have hgk : (Pg.bnode (esL (p.edges.take j)) s.2[k] s).2[k]? = some s.2[k] := by rw [hr, List.getElem?_append_left hlt, List.getElem?_eq_getElem hlt]
          have hlen2 : s.2.length ≤ (Pg.bnode (esL (p.edges.take j)) s.2[k] s).2.length := by rw [hr]; simp
          clear hr htk
          generalize hS : Pg.bnode (esL (p.edges.take j)) s.2[k] s = S at *
          have HS := Lib.hid hS
          clear hS
          generalize hx : s.2[k] = x at *
          have HX := Lib.hid hx
          clear hx
          rcases hl.form with ⟨_, e0⟩ | ⟨gl', cap', rfl, hgl0, hgl, hlc, hcm, hlf, hlcell⟩
          · exfalso
            have := congrArg List.length e0
            simp only [List.length_nil] at this
            omega
          have hkS : k < S.2.length := by omega
          have hSk : Hid (S.2[k] = x) := by
            rw [List.getElem?_eq_getElem hkS] at hgk
            exact Option.some.inj hgk
          have cx := hl.nat hkS
          rw [hSk.out] at cx
          have hHbl := Lib.hid hbl
          have hdO : d < S.1.length := by rw [hbl]; omega
          have cO := ho.bool hdO
          have hgO := ho.blk.2
          have hkSI : (k : Int) < (S.2.length : Int) := by omega
          clear hbl hgk hlcell
          by_cases hax : a = x
          · subst hax
            have hgd : S.1.getD d true = S.1[d] := by rw [List.getD_eq_getElem?_getD, List.getElem?_eq_getElem hdO]; rfl
            have hab : ((a : Int) == (a : Int)) = true := by simp
            cases hO : S.1[d]
            · rw [hO] at cO
              have hnew : Hid (Pg.bnode (esL (p.edges.take (j + 1))) a s = (S.1.set d true, S.2 ++ [d])) := by
                show Pg.bnode _ _ _ = _
                rw [hstep.out]; unfold Pg.bstep; rw [if_pos ⟨rfl, by rw [hgd, hO]⟩]
              clear hgd hO hstep
              have e1 : (wr.alloc (.cells #[.int .i64 (a : Int), .int .i64 (d : Int)] 91)).cell? ⟨wr.heap.size, 1, none⟩ = some (.int .i64 (d : Int)) := by go_simp
              go_wp2
              go_quiet (fail)
              have hW := bdrewN ((Below.refl wr.heap.size wr).alloc (Nat.le_refl _) (.cells #[.int .i64 (a : Int), .int .i64 (d : Int)] 91)) nq
              have hb2 := bdrewN (hb.alloc hb.size (.cells #[.int .i64 (a : Int), .int .i64 (d : Int)] 91)) nq
              have e2 : ((wr.alloc (.cells #[.int .i64 (a : Int), .int .i64 (d : Int)] 91)).drewN nq).cell? ⟨wr.heap.size, 1, none⟩ = some (.int .i64 (d : Int)) := e1
              have hwn : wr.heap.size < ((wr.alloc (.cells #[.int .i64 (a : Int), .int .i64 (d : Int)] 91)).drewN nq).heap.size := by simp
              clear e1 c0 c1 cx cO
              generalize (wr.alloc (.cells #[.int .i64 (a : Int), .int .i64 (d : Int)] 91)).drewN nq = W2 at *
              have ho2 := ho.below hW
              have hl2 := hl.below hW
              have cO2 := ho2.bool hdO
              have hof := ho2.free
              have hput := Ow.put ho2 (n := T) (by rw [hHbl.out]) d (by omega) true
              simp only [boolE, Nat.mul_one] at hput
              have hl3 : Ow natE 3 (W2.setCell ⟨w.heap.size + 1, d, none⟩ (.bool true)) (w.heap.size + 1) (.slice (some ⟨gl', 0, none⟩) S.2.length cap') S.2 := hl2.grown hput.2 (by
                have := hl2.ne_ ho2 (by decide)
                simpa [Value.ownBlock] using this)
              have hkp := planBox_size 47 p (.slice (some ⟨b, o, none⟩) p.edges.length c) w
              have hb3 := hb2.grown hput.2 hb2.size (fun g hg => by rw [planBox_size]; simp at hg; omega)
              have ho3 := hput.1
              have hl4 := hl3.below ((Below.refl _ _).alloc (Nat.le_refl _) (.cells #[.int .i64 (d : Int)] 3))
              have hwz : w.heap.size + 1 ≤ W2.heap.size := by omega
              have hb4 := hb3.alloc hb3.size (.cells #[.int .i64 (d : Int)] 3)
              clear hput
              have hSl : S.2.length ≤ 3000000 := by
                have := (Pg.bnode_inv (x := a) (esL (p.edges.take j)) hbat.out.inv (by rw [← HX.out]; exact List.getElem_mem hlt) (fun e he' => by
                  simp only [esL, List.mem_map] at he'
                  obtain ⟨y, hy, rfl⟩ := he'
                  simp only [esOf, esL, List.mem_map]
                  exact ⟨y, List.mem_of_mem_take hy, rfl⟩) (fun e he' => by
                  simp only [esL, List.mem_map] at he'
                  obtain ⟨y, hy, rfl⟩ := he'
                  exact hes.2 _ (by simp only [esOf, esL, List.mem_map]; exact ⟨y, List.mem_of_mem_take hy, rfl⟩))).lt
                rw [HS.out] at this
                omega
              go_wp2_with (at_builtin; refine wpList_push (v := .slice (some ⟨gl', 0, none⟩) S.2.length cap') natE (by decide) rfl (.tmp 52) (.tmp 55) rfl Try.underlying50 hj0 jz0 jz1 jz2 rfl d rfl hl4 ⟨W2.heap.size, 0, none⟩ 1 rfl (news_new _ #[.int .i64 (d : Int)] _ (by simp)) hSl (by decide) (by simp; omega) ?_; intro v' w3 hown3 hgrow3)
              have ho4 := ho3.below ((Below.refl _ _).alloc (Nat.le_refl _) (.cells #[.int .i64 (d : Int)] 3))
              have ho5 := ho4.grown hgrow3 (ho4.ne_ hl4 (by decide))
              have hb5 := hb4.grown hgrow3 hb4.size (fun g hg => by
                have hgg : gl' = g := by simpa [Value.ownBlock] using hg
                have hgl1 := hl2.blk.1
                omega)
              exact ⟨⟨j + 1, by omega, by go_num, by rw [hnew.out]; exact ho5, by rw [hnew.out]; exact hown3, hb5⟩, by simp [intOf]; omega⟩
            · rw [hO] at cO
              have hsame : Hid (Pg.bnode (esL (p.edges.take (j + 1))) a s = S) := by
                show Pg.bnode _ _ _ = _
                rw [hstep.out]; unfold Pg.bstep; rw [if_neg (fun h => by rw [hgd, hO] at h; exact absurd h.2 (by simp))]
              clear hgd hO
              go_wp2
              go_quiet (fail)
              go_wp2
              exact ⟨⟨j + 1, by omega, by go_num, by rw [hsame.out]; exact (ho.below (bdrewN ((Below.refl wr.heap.size wr).alloc (Nat.le_refl _) _) _)), by rw [hsame.out]; exact (hl.below (bdrewN ((Below.refl wr.heap.size wr).alloc (Nat.le_refl _) _) _)), bdrewN (hb.alloc hb.size _) _⟩, by simp [intOf]; omega⟩
          · have hab : ((a : Int) == (x : Int)) = false := beq_eq_false_iff_ne.2 (by omega)
            have hsame : Hid (Pg.bnode (esL (p.edges.take (j + 1))) x s = S) := by
              show Pg.bnode _ _ _ = _
              rw [hstep.out]; unfold Pg.bstep; rw [if_neg (fun h => hax h.1)]
            clear hax
            go_wp2
            go_quiet (fail)
            go_wp2
            exact ⟨⟨j + 1, by omega, by go_num, by rw [hsame.out]; exact (ho.below (bdrewN ((Below.refl wr.heap.size wr).alloc (Nat.le_refl _) _) _)), by rw [hsame.out]; exact (hl.below (bdrewN ((Below.refl wr.heap.size wr).alloc (Nat.le_refl _) _) _)), bdrewN (hb.alloc hb.size _) _⟩, by simp [intOf]; omega⟩
        · have hjI : ¬ (j : Int) < (p.edges.length : Int) := by omega
          have hj' : j = p.edges.length := by omega
          subst hj'
          rw [List.take_length] at ho hl
          go_wp2
          refine ⟨⟨k + 1, _, hBn.out, by go_num, ho, hl, hb⟩, by simp [intOf]; omega⟩
    · have hltI : ¬ (k : Int) < (s.2.length : Int) := by omega
      have hk' : k = s.2.length := by omega
      go_wp2
      go_ret
      refine ⟨_, s.1, rfl, ho.more (by omega), hbw, ?_, fun y => ?_⟩
      · rw [hol.out, HT.out]; rfl
      · exact Pg.Bat.iff (by rw [← hk']; exact hbat.out) y
end Go.Proofs.Ytoccmpijfggmkaa
