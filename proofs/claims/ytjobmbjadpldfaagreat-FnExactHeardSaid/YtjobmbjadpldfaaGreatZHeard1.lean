/-
  l06From of the reference: the search by a list. append of a whole slice that reads as a list, nil or not, onto a slice of the call's own. PlanFault of the program. Data that hold slices: how they lie in memory (Dt), lists of them (RdL), and what a call owns of them (Hw, Ows, OwL), with the blocks that it takes. PlanFault of the program: the loops. copyPlan of the program, l06Copy of the reference: a plan whose edges lie in memory of its own. PlanFault of the reference.
-/
import Derived.Test.YtjobmbjadpldfaaGreatZHeard0
import Derived.RegionTactic
import Derived.OwnWalk
import Derived.Deep.RegionWith
section
namespace Go.Proofs.YtjobmbjadpldfaaGreat
open Go.RowKit
set_option maxRecDepth 100000
set_option maxHeartbeats 2000000

theorem bool_info : (Tryz.prog.info? 4).map (fun i => (i.zero, i.size, i.bytes)) = some (some (.bool false), 1, 1) := by kernel_rfl

/-- what the search answers -/
def FromPost (p : Plan) (t : Nat) (w : World) (e : Ending) (w' : World) : Prop :=
  ∃ v O, e = .returned v ∧ Ow boolE 4 w' w.heap.size v O ∧ Below w.heap.size w w' ∧ O.length = p.tasks.toNat ∧ ∀ y, O.getD y false = true ↔ Pg.Reach (esOf p) t y

theorem from_any (p : Plan) (ve : Value) (t : Nat) (w : World) (hm : manyOk p = true) (he : edgesIn p) (ht : (t : Int) < p.tasks) (h : Rd edgeE w w.heap.size ve p.edges) :
    Calls Tryz.prog 109 #[planV p ve, .int .i64 (t : Int)] w (FromPost p t w) := by
  obtain ⟨A, c, rfl, -⟩ := id h
  obtain ⟨t1, t2⟩ := manyOk_tasks hm
  have hlen := manyOk_edges hm
  obtain ⟨T, hT⟩ := Int.eq_ofNat_of_zero_le (show 0 ≤ p.tasks by omega)
  have HT := Lib.hid hT
  have hT12 : T ≤ 12 := by omega
  have htT : t < T := by omega
  obtain ⟨i0, hi0, hz0, hz1, hz2⟩ := info_parts bool_info
  obtain ⟨j0, hj0, jz0, jz1, jz2⟩ := info_parts int_info
  have hmk : ∀ w : World, (Instr.makeSlice 142 (.int .i64 p.tasks) (.int .i64 p.tasks)).run Tryz.prog w = .ok (.slice (some ⟨w.heap.size, 0, none⟩) T T) (w.alloc (.cells (madeCells #[.bool false] (T * 1)) 4)) := by
    intro w
    have := run_make (P := Tryz.prog) w 142 4 i0 _ Tryz.underlying142 hi0 hz0 .i64 .i64 T T (by omega) (by omega) (by rw [hz2]; omega) (by omega)
    rw [hz1] at this
    rw [hT]
    simpa [Value.cells] using this
  have hes : (∀ e ∈ esOf p, e.1 < T) ∧ (∀ e ∈ esOf p, e.2 < T) := by
    have := esOf_lt he
    rw [hT] at this
    simpa using this
  clear hT
  unfold planV
  go_enter Tryz.func109, Tryz.ntmps109
  go_wp2
  go_loopw [6, 7] (fun vl i wr => ∃ (k : Nat) (s : List Bool × List Nat), Hid (Pg.Bat (esOf p) T t k s) ∧ i = .int .i64 k ∧ Ow boolE 4 wr (w.heap.size + 1) (.slice (some ⟨w.heap.size + 1, 0, none⟩) T T) s.1 ∧ Ow natE 3 wr (w.heap.size + 1) vl s.2 ∧
      Below (planBox 81 p (.slice A p.edges.length c) w).heap.size (planBox 81 p (.slice A p.edges.length c) w) wr) (fun _ i _ => T + 2 - (intOf i).toNat)
  case atStart =>
    refine ⟨0, _, Pg.Bat.start (esOf p) T t, rfl, ?_, ?_, ?_⟩
    · have := Ow.made boolE 4 (planBox 81 p (.slice A p.edges.length c) w) false T (by decide) (by simp [maxLen]; omega) (z := #[.bool false]) rfl (m := T) (by simp [boolE])
      rw [planBox_size] at this
      exact this.below ((Below.refl _ _).alloc (Nat.le_refl _) _)
    · have := World.ownsRow_lit (base := w.heap.size + 1) (e := 3) (size := 1) ((planBox 81 p (.slice A p.edges.length c) w).alloc (.cells (madeCells #[.bool false] T) 4)) #[.int .i64 (t : Int)] 1 (by simp [planBox_size]) (by simp [maxLen]) rfl
      simp only [World.size_alloc, planBox_size] at this
      exact this
    · exact ((Below.refl _ _).alloc (Nat.le_refl _) _).alloc (by simp) _
  case round =>
    obtain ⟨k, s, hbat, rfl, ho, hl, hb⟩ := hrel
    obtain ⟨x0, x1, x2, x3, x4, hs, hbw⟩ := planBox_cells hb
    have hs1 : w.heap.size < wr.heap.size := by omega
    have hkT := hbat.out.inv.lt
    have hkl := hbat.out.le
    have hol := Lib.hid hbat.out.inv.size
    rcases hl.form with ⟨_, e0⟩ | ⟨gl, cap, rfl, hgl0, hgl, hlc, hcm, hlf, hlcell⟩
    · exfalso
      obtain ⟨l, hh, _⟩ := hbat.out.inv.head
      rw [hh] at e0
      cases e0
    clear hlcell hlf
    by_cases hlt : k < s.2.length
    · have hltI : (k : Int) < (s.2.length : Int) := by omega
      obtain ⟨wo, rfl⟩ : ∃ wo : World, wo = wr := ⟨_, rfl⟩
      have hgx : s.2[k]? = some s.2[k] := List.getElem?_eq_getElem hlt
      have hBn := Lib.hid (hbat.out.next hes.2 hgx)
      clear hgx
      go_wp2
      go_loopw [6, 8] (fun vl i wr => ∃ (j : Nat), j ≤ p.edges.length ∧ i = .int .i64 j ∧ Ow boolE 4 wr (w.heap.size + 1) (.slice (some ⟨w.heap.size + 1, 0, none⟩) T T) (Pg.bnode (esL (p.edges.take j)) s.2[k] s).1 ∧ Ow natE 3 wr (w.heap.size + 1) vl (Pg.bnode (esL (p.edges.take j)) s.2[k] s).2 ∧
        Below (planBox 81 p (.slice A p.edges.length c) w).heap.size (planBox 81 p (.slice A p.edges.length c) w) wr) (fun _ i _ => p.edges.length - (intOf i).toNat)
      case atStart => exact ⟨0, Nat.zero_le _, rfl, ho, hl, hb⟩
      case round =>
        clear ho hl hb x0 x1 x2 x3 x4 hs hbw hs1 hgl0 hgl hlc hcm
        obtain ⟨j, hj, rfl, ho, hl, hb⟩ := hrel
        obtain ⟨x0, x1, x2, x3, x4, hs, hbw⟩ := planBox_cells hb
        have hs1 : w.heap.size < wr.heap.size := by omega
        by_cases hjt : j < p.edges.length
        · have hjI : (j : Int) < (p.edges.length : Int) := by omega
          obtain ⟨b, o, rfl, hbb, c0, c1⟩ := (h.below hbw).edge hjt
          obtain ⟨f1, f2, f3, f4⟩ := edgesIn_get he hjt
          rw [HT.out] at f2 f4
          have htk := Lib.hid (show esL (p.edges.take (j + 1)) = esL (p.edges.take j) ++ [(p.edges[j].fr.toNat, p.edges[j].to.toNat)] by unfold esL; rw [take_snoc _ j hjt, List.map_append]; rfl)
          generalize p.edges[j].fr = fx at *
          generalize p.edges[j].to = tx at *
          obtain ⟨a, rfl⟩ := Int.eq_ofNat_of_zero_le f1
          obtain ⟨d, rfl⟩ := Int.eq_ofNat_of_zero_le f3
          have hstep : Hid (Pg.bnode (esL (p.edges.take (j + 1))) s.2[k] s = Pg.bstep s.2[k] (Pg.bnode (esL (p.edges.take j)) s.2[k] s) (a, d)) := by
            show Pg.bnode _ _ _ = _
            rw [htk.out]
            simp only [Int.toNat_natCast]
            unfold Pg.bnode
            rw [List.foldl_append]
            rfl
          have hbl := Pg.bnode_length (esL (p.edges.take j)) s.2[k] s
          rw [hol.out] at hbl
          obtain ⟨r, hr⟩ := Pg.bnode_pre (esL (p.edges.take j)) s.2[k] s
          have hgk : (Pg.bnode (esL (p.edges.take j)) s.2[k] s).2[k]? = some s.2[k] := by rw [hr, List.getElem?_append_left hlt, List.getElem?_eq_getElem hlt]
          have hlen2 : s.2.length ≤ (Pg.bnode (esL (p.edges.take j)) s.2[k] s).2.length := by rw [hr]; simp
          clear hr htk
          generalize hS : Pg.bnode (esL (p.edges.take j)) s.2[k] s = S at *
          have HS := Lib.hid hS
          clear hS
          generalize hx : s.2[k] = x at *
          have HX := Lib.hid hx
          clear hx
          rcases hl.form with ⟨_, e0⟩ | ⟨gl', cap', rfl, hgl0, hgl, hlc, hcm, hlf, hlcell⟩
          · exfalso
            have := congrArg List.length e0
            simp only [List.length_nil] at this
            omega
          have hkS : k < S.2.length := by omega
          have hSk : Hid (S.2[k] = x) := by
            rw [List.getElem?_eq_getElem hkS] at hgk
            exact Option.some.inj hgk
          have cx := hl.nat hkS
          rw [hSk.out] at cx
          have hHbl := Lib.hid hbl
          have hdO : d < S.1.length := by rw [hbl]; omega
          have cO := ho.bool hdO
          have hgO := ho.blk.2
          have hkSI : (k : Int) < (S.2.length : Int) := by omega
          clear hbl hgk hlcell
          by_cases hax : a = x
          · subst hax
            have hgd : S.1.getD d true = S.1[d] := by rw [List.getD_eq_getElem?_getD, List.getElem?_eq_getElem hdO]; rfl
            have hab : ((a : Int) == (a : Int)) = true := by simp
            cases hO : S.1[d]
            · rw [hO] at cO
              have hnew : Hid (Pg.bnode (esL (p.edges.take (j + 1))) a s = (S.1.set d true, S.2 ++ [d])) := by
                show Pg.bnode _ _ _ = _
                rw [hstep.out]; unfold Pg.bstep; rw [if_pos ⟨rfl, by rw [hgd, hO]⟩]
              clear hgd hO hstep
              have e1 : (wr.alloc (.cells #[.int .i64 (a : Int), .int .i64 (d : Int)] 140)).cell? ⟨wr.heap.size, 1, none⟩ = some (.int .i64 (d : Int)) := by go_simp
              go_wp2
              go_quiet (fail)
              have hW := bdrewN ((Below.refl wr.heap.size wr).alloc (Nat.le_refl _) (.cells #[.int .i64 (a : Int), .int .i64 (d : Int)] 140)) nq
              have hb2 := bdrewN (hb.alloc hb.size (.cells #[.int .i64 (a : Int), .int .i64 (d : Int)] 140)) nq
              have e2 : ((wr.alloc (.cells #[.int .i64 (a : Int), .int .i64 (d : Int)] 140)).drewN nq).cell? ⟨wr.heap.size, 1, none⟩ = some (.int .i64 (d : Int)) := e1
              have hwn : wr.heap.size < ((wr.alloc (.cells #[.int .i64 (a : Int), .int .i64 (d : Int)] 140)).drewN nq).heap.size := by simp
              clear e1 c0 c1 cx cO
              generalize (wr.alloc (.cells #[.int .i64 (a : Int), .int .i64 (d : Int)] 140)).drewN nq = W2 at *
              have ho2 := ho.below hW
              have hl2 := hl.below hW
              have cO2 := ho2.bool hdO
              have hof := ho2.free
              have hput := Ow.put ho2 (n := T) (by rw [hHbl.out]) d (by omega) true
              simp only [boolE, Nat.mul_one] at hput
              have hl3 : Ow natE 3 (W2.setCell ⟨w.heap.size + 1, d, none⟩ (.bool true)) (w.heap.size + 1) (.slice (some ⟨gl', 0, none⟩) S.2.length cap') S.2 := hl2.grown hput.2 (by
                have := hl2.ne_ ho2 (by decide)
                simpa [Value.ownBlock] using this)
              have hkp := planBox_size 81 p (.slice (some ⟨b, o, none⟩) p.edges.length c) w
              have hb3 := hb2.grown hput.2 hb2.size (fun g hg => by rw [planBox_size]; simp at hg; omega)
              have ho3 := hput.1
              have hl4 := hl3.below ((Below.refl _ _).alloc (Nat.le_refl _) (.cells #[.int .i64 (d : Int)] 3))
              have hwz : w.heap.size + 1 ≤ W2.heap.size := by omega
              have hb4 := hb3.alloc hb3.size (.cells #[.int .i64 (d : Int)] 3)
              clear hput
              have hSl : S.2.length ≤ 3000000 := by
                have := (Pg.bnode_inv (x := a) (esL (p.edges.take j)) hbat.out.inv (by rw [← HX.out]; exact List.getElem_mem hlt) (fun e he' => by
                  simp only [esL, List.mem_map] at he'
                  obtain ⟨y, hy, rfl⟩ := he'
                  simp only [esOf, esL, List.mem_map]
                  exact ⟨y, List.mem_of_mem_take hy, rfl⟩) (fun e he' => by
                  simp only [esL, List.mem_map] at he'
                  obtain ⟨y, hy, rfl⟩ := he'
                  exact hes.2 _ (by simp only [esOf, esL, List.mem_map]; exact ⟨y, List.mem_of_mem_take hy, rfl⟩))).lt
                rw [HS.out] at this
                omega
              go_wp2_with (at_builtin; refine wpList_push (v := .slice (some ⟨gl', 0, none⟩) S.2.length cap') natE (by decide) rfl (.tmp 52) (.tmp 55) rfl Tryz.underlying94 hj0 jz0 jz1 jz2 rfl d rfl hl4 ⟨W2.heap.size, 0, none⟩ 1 rfl (news_new _ #[.int .i64 (d : Int)] _ (by simp)) hSl (by decide) (by simp; omega) ?_; intro v' w3 hown3 hgrow3)
              have ho4 := ho3.below ((Below.refl _ _).alloc (Nat.le_refl _) (.cells #[.int .i64 (d : Int)] 3))
              have ho5 := ho4.grown hgrow3 (ho4.ne_ hl4 (by decide))
              have hb5 := hb4.grown hgrow3 hb4.size (fun g hg => by
                have hgg : gl' = g := by simpa [Value.ownBlock] using hg
                have hgl1 := hl2.blk.1
                omega)
              exact ⟨⟨j + 1, by omega, by go_num, by rw [hnew.out]; exact ho5, by rw [hnew.out]; exact hown3, hb5⟩, by simp [intOf]; omega⟩
            · rw [hO] at cO
              have hsame : Hid (Pg.bnode (esL (p.edges.take (j + 1))) a s = S) := by
                show Pg.bnode _ _ _ = _
                rw [hstep.out]; unfold Pg.bstep; rw [if_neg (fun h => by rw [hgd, hO] at h; exact absurd h.2 (by simp))]
              clear hgd hO
              go_wp2
              go_quiet (fail)
              go_wp2
              exact ⟨⟨j + 1, by omega, by go_num, by rw [hsame.out]; exact (ho.below (bdrewN ((Below.refl wr.heap.size wr).alloc (Nat.le_refl _) _) _)), by rw [hsame.out]; exact (hl.below (bdrewN ((Below.refl wr.heap.size wr).alloc (Nat.le_refl _) _) _)), bdrewN (hb.alloc hb.size _) _⟩, by simp [intOf]; omega⟩
          · have hab : ((a : Int) == (x : Int)) = false := beq_eq_false_iff_ne.2 (by omega)
            have hsame : Hid (Pg.bnode (esL (p.edges.take (j + 1))) x s = S) := by
              show Pg.bnode _ _ _ = _
              rw [hstep.out]; unfold Pg.bstep; rw [if_neg (fun h => hax h.1)]
            clear hax
            go_wp2
            go_quiet (fail)
            go_wp2
            exact ⟨⟨j + 1, by omega, by go_num, by rw [hsame.out]; exact (ho.below (bdrewN ((Below.refl wr.heap.size wr).alloc (Nat.le_refl _) _) _)), by rw [hsame.out]; exact (hl.below (bdrewN ((Below.refl wr.heap.size wr).alloc (Nat.le_refl _) _) _)), bdrewN (hb.alloc hb.size _) _⟩, by simp [intOf]; omega⟩
        · have hjI : ¬ (j : Int) < (p.edges.length : Int) := by omega
          have hj' : j = p.edges.length := by omega
          subst hj'
          rw [List.take_length] at ho hl
          go_wp2
          refine ⟨⟨k + 1, _, hBn.out, by go_num, ho, hl, hb⟩, by simp [intOf]; omega⟩
    · have hltI : ¬ (k : Int) < (s.2.length : Int) := by omega
      have hk' : k = s.2.length := by omega
      go_wp2
      go_ret
      refine ⟨_, s.1, rfl, ho.more (by omega), hbw, ?_, fun y => ?_⟩
      · rw [hol.out, HT.out]; rfl
      · exact Pg.Bat.iff (by rw [← hk']; exact hbat.out) y
end Go.Proofs.YtjobmbjadpldfaaGreat
end
section
namespace Go.Proofs.YtjobmbjadpldfaaGreat
open Go.RowKit
set_option maxRecDepth 100000

section
variable {P : Program} (w : World)

theorem run_append_nothing (base : Nat) (t ty e : TypeId) (i : TypeInfo) (size : Nat) (ht : P.underlying t = some (.slice e)) (hi : P.info? e = some i)
    (v : Value) (n : Nat) (xs : List Value) (hown : w.ownsRow base e size v n xs) (c : Nat) : (Builtin.append_ #[t, t] ty #[v, .slice none 0 c]).run P w = .ok v w := by
  rcases hown.2 with ⟨rfl, rfl⟩ | ⟨g, cap, cur, rfl, _, _, hnc, _⟩
  · simp [Builtin.append_, run_underlying ht, sizeOf, typeInfo, hi, Builtin.lenOf, Builtin.firstCells]
  · simp [Builtin.append_, run_underlying ht, sizeOf, typeInfo, hi, Builtin.lenOf, Builtin.firstCells, hnc, storeCells]

theorem rd_news {α : Type} {e : Enc α} (hsz : 0 < e.sz) {w : World} {B : Nat} {A : Option Addr} {m c : Nat} {ys : List α} (hr : Rd e w B (.slice A m c) ys) : m = ys.length ∧ (0 < m → ∃ ad, A = some ad ∧ ∀ j u, (ys.flatMap e.cells)[j]? = some u → w.cell? (ad.add j) = some u) := by
  obtain ⟨A', c', hv, _, hA⟩ := hr
  simp only [Value.slice.injEq] at hv
  obtain ⟨rfl, rfl, rfl⟩ := hv
  refine ⟨rfl, fun hm => ?_⟩
  obtain ⟨b, o, rfl, hb, hc⟩ := hA hm
  refine ⟨⟨b, o, none⟩, rfl, fun j u hu => ?_⟩
  have hlt := (List.getElem?_eq_some_iff.1 hu).1
  rw [e.flat_length] at hlt
  have hk : j / e.sz < ys.length := Nat.div_lt_of_lt_mul (by rw [Nat.mul_comm]; exact hlt)
  have hj : j % e.sz < e.sz := Nat.mod_lt _ hsz
  have hij : j / e.sz * e.sz + j % e.sz = j := by rw [Nat.mul_comm]; exact Nat.div_add_mod _ _
  have h1 := e.flat_get hj ys (j / e.sz) hk
  rw [hij] at h1
  have h2 := hc (j / e.sz) hk (j % e.sz) u (by rw [← h1]; exact hu)
  have ea : (⟨b, o, none⟩ : Addr).add j = ⟨b, o + j / e.sz * e.sz + j % e.sz, none⟩ := by
    rw [Nat.add_assoc, hij]
    unfold Addr.add
    split <;> simp_all
  rw [ea]
  exact h2

theorem run_append_rd {α : Type} (e : Enc α) (hsz : 0 < e.sz) (base : Nat) (t ty E : TypeId) (i : TypeInfo) (z : Value) (bytes : Nat) (ht : P.underlying t = some (.slice E)) (hi : P.info? E = some i) (hz : i.zero = some z)
    (hsize : i.size = e.sz) (hby : i.bytes = bytes) (hzs : z.cells.size = e.sz)
    (v : Value) (l : List α) (hown : Ow e E w base v l)
    (B : Nat) (A : Option Addr) (m c : Nat) (ys : List α) (hr : Rd e w B (.slice A m c) ys)
    (hn : l.length ≤ 3000000) (hm : ys.length ≤ 3000000) (hbytes : bytes ≤ 10000) (hbase : base ≤ w.heap.size) :
    ∃ v' w', (Builtin.append_ #[t, t] ty #[v, .slice A m c]).run P w = .ok v' w' ∧ Ow e E w' base v' (l ++ ys) ∧ w.grownBy w' v.ownBlock ∧
      (v'.ownBlock = v.ownBlock ∨ v'.ownBlock = some w.heap.size) := by
  obtain ⟨rfl, hA⟩ := rd_news hsz hr
  have h0 : ∀ ad : Addr, A = some ad → ∀ j u, (ys.flatMap e.cells)[j]? = some u → w.cell? (ad.add j) = some u := by
    intro ad hAd j u hu
    rcases Nat.eq_zero_or_pos ys.length with hz0 | hpos
    · have : ys = [] := List.eq_nil_of_length_eq_zero hz0
      subst this
      simp at hu
    · obtain ⟨ad', hA', hc⟩ := hA hpos
      rw [hA'] at hAd
      injection hAd with hAd
      subst hAd
      exact hc j u hu
  rcases A with _ | ad
  · have hm0 : ys = [] := by
      rcases Nat.eq_zero_or_pos ys.length with h1 | h1
      · exact List.eq_nil_of_length_eq_zero h1
      · obtain ⟨_, h2, _⟩ := hA h1
        cases h2
    subst hm0
    exact ⟨v, w, run_append_nothing w base t ty E i e.sz ht hi v l.length (l.flatMap e.cells) hown c, by simpa using hown, World.grownBy.refl w _, .inl rfl⟩
  · have h1 : ∀ u ∈ ys.flatMap e.cells, u.oneCell' = true := by
      intro u hu
      obtain ⟨y, _, hy⟩ := List.mem_flatMap.1 hu
      exact e.one y u hy
    have hb2 : (l.length + ys.length) * bytes ≤ 6000000 * 10000 := Nat.mul_le_mul (by omega) hbytes
    obtain ⟨v', w', hrun, h2, h3, _, h5⟩ := run_append_own_at (P := P) w base t ty E i z e.sz bytes ht hi hz hsize hby hzs hsz v l.length (l.flatMap e.cells) hown ad ys.length c (ys.flatMap e.cells) (e.flat_length ys) (h0 ad rfl) h1 (by simp [maxLen]; omega) (by omega) hbase
    refine ⟨v', w', hrun, ?_, h3, h5⟩
    unfold Ow
    rw [List.length_append, List.flatMap_append]
    exact h2

theorem wp_append_rd {α : Type} {o : Oper} {a : Act} {K : Act → World → Prop} {Q : Exit → Act → World → Prop} (e : Enc α) (hsz : 0 < e.sz) (s x : Operand) (t : TypeId)
    (ho : o.op = .call { callee := .builtin .append, args := #[s, x], argTypes := #[t, t] })
    (base : Nat) (E : TypeId) (i : TypeInfo) (z : Value) (bytes : Nat) (ht : P.underlying t = some (.slice E)) (hi : P.info? E = some i) (hz : i.zero = some z)
    (hsize : i.size = e.sz) (hby : i.bytes = bytes) (hzs : z.cells.size = e.sz)
    (v : Value) (l : List α) (hs : a.eval s = v) (hown : Ow e E w base v l)
    (B : Nat) (A : Option Addr) (m c : Nat) (ys : List α) (hx : a.eval x = .slice A m c) (hr : Rd e w B (.slice A m c) ys)
    (hn : l.length ≤ 3000000) (hm : ys.length ≤ 3000000) (hbytes : bytes ≤ 10000) (hbase : base ≤ w.heap.size)
    (h : ∀ v' w', Ow e E w' base v' (l ++ ys) → w.grownBy w' v.ownBlock → (v'.ownBlock = v.ownBlock ∨ v'.ownBlock = some w.heap.size) → K (a.put o.dst v') w') : o.wp P a w K Q := by
  obtain ⟨v', w', hrun, h2, h3, h4⟩ := run_append_rd (P := P) w e hsz base t o.type E i z bytes ht hi hz hsize hby hzs v l hown B A m c ys hr hn hm hbytes hbase
  unfold Oper.wp execOp
  simp only [ho, resolve, invoke, builtin, Sem.run_bind, Sem.run_pure, Result.andThen_ok, List.map_toArray, List.map_cons, List.map_nil, hs, hx, hrun]
  exact h v' w' h2 h3 h4

/-- all of a slice is appended to one of the call's own -/
theorem wpList_push_all {α : Type} {ops : Array Oper} {rest : List Oper} {o : Oper} {a : Act} {Q : Exit → Act → World → Prop} (e : Enc α) (hsz : 0 < e.sz) (hgd : o.guard = none) (s x : Operand) {t : TypeId}
    (ho : o.op = .call { callee := .builtin .append, args := #[s, x], argTypes := #[t, t] })
    {base : Nat} {E : TypeId} {i : TypeInfo} {z : Value} {bytes : Nat} (ht : P.underlying t = some (.slice E)) (hi : P.info? E = some i) (hz : i.zero = some z)
    (hsize : i.size = e.sz) (hby : i.bytes = bytes) (hzs : z.cells.size = e.sz)
    {v : Value} {l : List α} (hs : a.eval s = v) (hown : Ow e E w base v l)
    {B : Nat} {A : Option Addr} {m c : Nat} {ys : List α} (hx : a.eval x = .slice A m c) (hr : Rd e w B (.slice A m c) ys)
    (hn : l.length ≤ 3000000) (hm : ys.length ≤ 3000000) (hbytes : bytes ≤ 10000) (hbase : base ≤ w.heap.size)
    (h : ∀ v' w', Ow e E w' base v' (l ++ ys) → w.grownBy w' v.ownBlock → (v'.ownBlock = v.ownBlock ∨ v'.ownBlock = some w.heap.size) → wpList P ops Q rest (a.put o.dst v') w') : wpList P ops Q (o :: rest) a w :=
  wpList_plain hgd fun _ hK => wp_append_rd w e hsz s x t ho base E i z bytes ht hi hz hsize hby hzs v l hs hown B A m c ys hx hr hn hm hbytes hbase fun v' w' h2 h3 h4 => hK _ _ (h v' w' h2 h3 h4)

/-- the same at a step of a region that draws its order -/
theorem step_push_all {α : Type} {ops : Array Oper} {o : Oper} {a : Act} {K : Act → World → Prop} {Q : Exit → Act → World → Prop} {EE : Prop} (e : Enc α) (hsz : 0 < e.sz) (hgd : o.guard = none) (s x : Operand) {t : TypeId}
    (ho : o.op = .call { callee := .builtin .append, args := #[s, x], argTypes := #[t, t] })
    {base : Nat} {E : TypeId} {i : TypeInfo} {z : Value} {bytes : Nat} (ht : P.underlying t = some (.slice E)) (hi : P.info? E = some i) (hz : i.zero = some z)
    (hsize : i.size = e.sz) (hby : i.bytes = bytes) (hzs : z.cells.size = e.sz)
    {v : Value} {l : List α} (hs : a.eval s = v) (hown : Ow e E w base v l)
    {B : Nat} {A : Option Addr} {m c : Nat} {ys : List α} (hx : a.eval x = .slice A m c) (hr : Rd e w B (.slice A m c) ys)
    (hn : l.length ≤ 3000000) (hm : ys.length ≤ 3000000) (hbytes : bytes ≤ 10000) (hbase : base ≤ w.heap.size)
    (h : ∀ v' w', Ow e E w' base v' (l ++ ys) → w.grownBy w' v.ownBlock → (v'.ownBlock = v.ownBlock ∨ v'.ownBlock = some w.heap.size) → K (a.put o.dst v') w') :
    if Region.wanted o (yielded ops a.tmps) = true then Oper.wp P o a w K Q else EE := by
  have hw : Region.wanted o (yielded ops a.tmps) = true := by simp [Region.wanted, hgd]
  rw [if_pos hw]
  exact wp_append_rd w e hsz s x t ho base E i z bytes ht hi hz hsize hby hzs v l hs hown B A m c ys hx hr hn hm hbytes hbase h
end

/-- one element that was just laid -/
theorem Rd.one {α : Type} (e : Enc α) (w : World) (T : TypeId) (x : α) {g : Nat} (hg : g = w.heap.size) {cs : Array Value} (hcs : cs = (e.cells x).toArray) (c : Nat) (hc : 1 ≤ c) {B : Nat} (hB : g < B) : Rd e (w.alloc (.cells cs T)) B (.slice (some ⟨g, 0, none⟩) 1 c) [x] := by
  refine ⟨_, c, rfl, by simpa using hc, fun _ => ⟨g, 0, rfl, hB, fun k hk j u hu => ?_⟩⟩
  have hk0 : k = 0 := by simpa using hk
  subst hk0
  simp only [List.getElem_cons_zero] at hu
  have := news_new w cs T hg j u (by rw [hcs]; simpa using hu)
  have ea : (⟨g, 0, none⟩ : Addr).add j = ⟨g, 0 + 0 * e.sz + j, none⟩ := by
    unfold Addr.add
    split <;> simp_all
  rw [ea] at this
  exact this

/-- a slice of no element that is not nil -/
theorem Ow.empty {α : Type} (e : Enc α) (E : TypeId) (w : World) {g : Nat} (hg : g = w.heap.size) : Ow e E (w.alloc (.cells #[] E)) g (.slice (some ⟨g, 0, none⟩) 0 0) [] := by
  subst hg
  exact World.ownsRow_lit (base := w.heap.size) (e := E) (size := e.sz) w #[] 0 (Nat.le_refl _) (by simp [maxLen]) (by simp)
end Go.Proofs.YtjobmbjadpldfaaGreat
end
section
namespace Go.Proofs.YtjobmbjadpldfaaGreat
open Go.RowKit
set_option maxRecDepth 100000
set_option maxHeartbeats 1000000

theorem indexEdge_any (v : Value) (l : List Edge) (x : Edge) (w : World) (hl : l.length ≤ 2000000) (h : Rd edgeE w w.heap.size v l) :
    Calls Tryz.prog 119 #[v, edgeV x] w fun e w' => e = .returned (.int .i64 (idxOf (fun y => decide (x = y)) l)) ∧ Below w.heap.size w w' := by
  obtain ⟨A, c, rfl, -⟩ := id h
  unfold edgeV
  go_enter Tryz.func119, Tryz.ntmps119
  go_wp2
  go_loopw [8] (fun i wr => ∃ k : Nat, k ≤ l.length ∧ i = .int .i64 k ∧ Hid (∀ j (hj : j < k) (hj' : j < l.length), decide (x = l[j]) = false) ∧ Below (w.alloc (.cells #[.int .i64 x.fr, .int .i64 x.to] 140)).heap.size (w.alloc (.cells #[.int .i64 x.fr, .int .i64 x.to] 140)) wr) (fun i _ => l.length - (intOf i).toNat)
  case atStart => exact ⟨0, Nat.zero_le _, rfl, fun j hj => absurd hj (by omega), Below.refl _ _⟩
  case round =>
    obtain ⟨k, hk, rfl, hno, hb⟩ := hrel
    have hb0 : Below w.heap.size w (w.alloc (.cells #[.int .i64 x.fr, .int .i64 x.to] 140)) := (Below.refl _ _).alloc (Nat.le_refl _) _
    have hbw := bnext hb0 hb
    by_cases hlt : k < l.length
    · obtain ⟨b, o, rfl, hbb, c0, c1⟩ := (h.below hbw).edge hlt
      have n0 : wr.cell? ⟨w.heap.size, 0, none⟩ = some (.int .i64 x.fr) := (hb.cell (p := ⟨w.heap.size, 0, none⟩) (by simp)).trans (by go_simp)
      have n1 : wr.cell? ⟨w.heap.size, 1, none⟩ = some (.int .i64 x.to) := (hb.cell (p := ⟨w.heap.size, 1, none⟩) (by simp)).trans (by go_simp)
      by_cases hx : x = l[k]
      · have H := Lib.hid (idxOf_found (p := fun y => decide (x = y)) hlt (fun j hj => hno.out j hj (by omega)) (show decide (x = l[k]) = true by simp [hx]))
        have e0 : l[k].fr = x.fr := by rw [hx]
        have e1 : l[k].to = x.to := by rw [hx]
        rw [e0] at c0
        rw [e1] at c1
        clear hx e0 e1
        go_wp2
        go_quiet (fail)
        go_wp2
        go_ret
        exact ⟨ret_int (by rw [H.out]), bdrewN hbw _⟩
      · have S : Hid (∀ j (hj : j < k + 1) (hj' : j < l.length), decide (x = l[j]) = false) := by
          intro j hj hj'
          by_cases e : j = k
          · subst e; simpa using hx
          · exact hno.out j (by omega) hj'
        have hx' : ¬ (x.fr = l[k].fr ∧ x.to = l[k].to) := fun ⟨e0, e1⟩ => hx (by cases x; cases hlk : l[k]; simp_all)
        clear hx
        by_cases e0 : x.fr = l[k].fr
        · have e1 : ¬ x.to = l[k].to := fun e => hx' ⟨e0, e⟩
          have e1' : (x.to == l[k].to) = false := by simpa using e1
          rw [← e0] at c0
          clear hx' e0
          go_wp2
          go_quiet (fail)
          go_wp2
          exact ⟨⟨k + 1, by omega, by go_num, S, bdrewN hb _⟩, by simp [intOf]; omega⟩
        · have e0' : (x.fr == l[k].fr) = false := by simpa using e0
          clear hx'
          go_wp2
          go_quiet (fail)
          go_wp2
          exact ⟨⟨k + 1, by omega, by go_num, S, bdrewN hb _⟩, by simp [intOf]; omega⟩
    · have H := Lib.hid (idxOf_none (p := fun y => decide (x = y)) (l := l) (fun j hj => hno.out j (by omega) hj))
      go_wp2
      go_ret
      exact ⟨ret_int (by rw [H.out]), hbw⟩

theorem idxOf_mem {l : List Edge} {x : Edge} : (0 ≤ idxOf (fun y => decide (x = y)) l) ↔ x ∈ l := by
  unfold idxOf
  cases h : l.findIdx? (fun y => decide (x = y)) with
  | none =>
    rw [List.findIdx?_eq_none_iff] at h
    simp only
    refine ⟨fun h => absurd h (by omega), fun hx => ?_⟩
    have := h x hx
    simp at this
  | some i =>
    rw [List.findIdx?_eq_some_iff_getElem] at h
    obtain ⟨hi, hp, _⟩ := h
    simp only [decide_eq_true_eq] at hp
    simp only
    exact ⟨fun _ => by rw [hp]; exact List.getElem_mem hi, fun _ => by omega⟩

theorem containsEdge_any (v : Value) (l : List Edge) (x : Edge) (w : World) (hl : l.length ≤ 2000000) (h : Rd edgeE w w.heap.size v l) :
    Calls Tryz.prog 111 #[v, edgeV x] w fun e w' => e = .returned (.bool (decide (x ∈ l))) ∧ Below w.heap.size w w' := by
  have hb0 : Below w.heap.size w (w.alloc (.cells #[.int .i64 x.fr, .int .i64 x.to] 140)) := (Below.refl _ _).alloc (Nat.le_refl _) _
  have H := Lib.hid (show decide (0 ≤ idxOf (fun y => decide (x = y)) l) = decide (x ∈ l) from decide_eq_decide.2 idxOf_mem)
  unfold edgeV
  go_enter Tryz.func111, Tryz.ntmps111
  go_wp2_with fail
  refine (indexEdge_any v l x _ hl ((h.below hb0).more hb0.size)).mono ?_
  rintro e w1 ⟨rfl, hb1⟩
  go_wp2_with fail
  go_ret
  exact ⟨ret_bool (by rw [← H.out]), bnext hb0 hb1⟩

theorem planFault_many {p : Plan} (h : manyOk p = false) : planFault p = 1 := by unfold planFault; rw [if_pos h]
theorem planFault_edge {p : Plan} (h : manyOk p = true) (h2 : ¬ edgesIn p) : planFault p = 2 := by unfold planFault; rw [if_neg (by rw [h]; simp), if_pos h2]
theorem planFault_twice {p : Plan} (h : manyOk p = true) (h2 : edgesIn p) (h3 : ¬ p.edges.Nodup) : planFault p = 3 := by
  unfold planFault; rw [if_neg (by rw [h]; simp), if_neg (by simpa using h2), if_pos h3]
theorem planFault_cycle {p : Plan} (h : manyOk p = true) (h2 : edgesIn p) (h3 : p.edges.Nodup) (h4 : cyclic p) : planFault p = 4 := by
  unfold planFault; rw [if_neg (by rw [h]; simp), if_neg (by simpa using h2), if_neg (by simpa using h3), if_pos h4]

theorem nodup_snoc {α : Type} {l : List α} {x : α} : (l ++ [x]).Nodup ↔ l.Nodup ∧ x ∉ l := by
  rw [List.nodup_append]
  constructor
  · rintro ⟨h1, _, h2⟩
    exact ⟨h1, fun hx => h2 x hx x (by simp) rfl⟩
  · rintro ⟨h1, h2⟩
    refine ⟨h1, by simp, fun a ha b hb e => ?_⟩
    simp only [List.mem_singleton] at hb
    subst hb; subst e
    exact h2 ha

theorem implPlanFault_many (p : Plan) (ve : Value) (w : World) (hl : p.edges.length ≤ 2000000) (h : Rd edgeE w w.heap.size ve p.edges) (hm : manyOk p = false) :
    Calls Tryz.prog 87 #[planV p ve] w fun e w' => e = .returned (.int .i64 (planFault p)) ∧ Below w.heap.size w w' := by
  have H := Lib.hid (planFault_many hm)
  obtain ⟨A, c, rfl, -⟩ := id h
  unfold planV
  cases h1 : inB p.tasks 1 12
  · clear hm
    go_enter Tryz.func87, Tryz.ntmps87
    go_wp2_with (go_at_call 29; refine (within_any _ _ _ _).mono ?_; rintro e w' ⟨rfl, rfl⟩)
    go_ret
    exact ⟨ret_int H.out.symm, (Below.refl _ _).alloc (Nat.le_refl _) _⟩
  by_cases h2 : 30 < p.edges.length
  · have h2' : (30 : Int) < (p.edges.length : Int) := by omega
    clear hm
    go_enter Tryz.func87, Tryz.ntmps87
    go_wp2_with (go_at_call 29; refine (within_any _ _ _ _).mono ?_; rintro e w' ⟨rfl, rfl⟩)
    go_ret
    exact ⟨ret_int H.out.symm, (Below.refl _ _).alloc (Nat.le_refl _) _⟩
  have h2' : ¬ (30 : Int) < (p.edges.length : Int) := by omega
  cases h3 : inB p.prio 0 9
  · clear hm
    go_enter Tryz.func87, Tryz.ntmps87
    go_wp2_with (go_at_call 29; refine (within_any _ _ _ _).mono ?_; rintro e w' ⟨rfl, rfl⟩)
    go_ret
    exact ⟨ret_int H.out.symm, (Below.refl _ _).alloc (Nat.le_refl _) _⟩
  cases h4 : inB p.most 1 5
  · clear hm
    go_enter Tryz.func87, Tryz.ntmps87
    go_wp2_with (go_at_call 29; refine (within_any _ _ _ _).mono ?_; rintro e w' ⟨rfl, rfl⟩)
    go_ret
    exact ⟨ret_int H.out.symm, (Below.refl _ _).alloc (Nat.le_refl _) _⟩
  cases h5 : inB p.wait 1 20
  · clear hm
    go_enter Tryz.func87, Tryz.ntmps87
    go_wp2_with (go_at_call 29; refine (within_any _ _ _ _).mono ?_; rintro e w' ⟨rfl, rfl⟩)
    go_ret
    exact ⟨ret_int H.out.symm, (Below.refl _ _).alloc (Nat.le_refl _) _⟩
  · exfalso
    have : manyOk p = true := by simp [manyOk, h1, h3, h4, h5]; omega
    rw [this] at hm
    cases hm
end Go.Proofs.YtjobmbjadpldfaaGreat
end
section
namespace Go.Proofs.YtjobmbjadpldfaaGreat
open Go.RowKit
set_option maxRecDepth 100000

/-- the head of a slice -/
structure Sl where
  a : Option Addr
  n : Nat
  c : Nat
abbrev Sl.v (s : Sl) : Value := .slice s.a s.n s.c

/-- nothing but the blocks of F has changed; what is new lies behind -/
structure Chg (F : List Nat) (w w' : World) : Prop where
  os : w'.os = w.os
  tape : w'.tape = w.tape
  output : w'.output = w.output
  size : w.heap.size ≤ w'.heap.size
  block : ∀ b, b < w.heap.size → b ∉ F → w'.heap[b]? = w.heap[b]?
theorem Chg.refl (F : List Nat) (w : World) : Chg F w w := ⟨rfl, rfl, rfl, Nat.le_refl _, fun _ _ _ => rfl⟩
theorem Chg.trans {F : List Nat} {a b c : World} (h : Chg F a b) (k : Chg F b c) : Chg F a c :=
  ⟨k.os.trans h.os, k.tape.trans h.tape, k.output.trans h.output, Nat.le_trans h.size k.size, fun i hi hn => (k.block i (Nat.lt_of_lt_of_le hi h.size) hn).trans (h.block i hi hn)⟩
theorem Chg.mono {F G : List Nat} {a b : World} (h : Chg F a b) (hs : ∀ x ∈ F, x ∈ G) : Chg G a b := ⟨h.os, h.tape, h.output, h.size, fun i hi hn => h.block i hi (fun hx => hn (hs i hx))⟩
theorem Chg.of_below {a b : World} (F : List Nat) (h : Below a.heap.size a b) : Chg F a b := ⟨h.os, h.tape, h.output, h.size, fun i hi _ => h.block i hi⟩
theorem Chg.below {F : List Nat} {a b : World} (h : Chg F a b) {base : Nat} (hb : base ≤ a.heap.size) (hF : ∀ x ∈ F, base ≤ x) : Below base a b :=
  ⟨h.os, h.tape, h.output, h.size, fun i hi => h.block i (by omega) (fun hx => by have := hF i hx; omega)⟩
theorem Chg.setCell (w : World) (b o : Nat) (u : Value) : Chg [b] w (w.setCell ⟨b, o, none⟩ u) :=
  ⟨rfl, rfl, rfl, by simp [World.setCell], fun i _ hn => Below.heap_setCell w ⟨b, o, none⟩ u i (by simpa using hn)⟩
theorem Chg.grown {F : List Nat} {a b : World} {row : Option Nat} (h : a.grownBy b row) (hr : ∀ g, row = some g → g ∈ F) : Chg F a b :=
  ⟨h.os, h.tape, h.output, h.size, fun i hi hn => h.block i hi (fun e => hn (hr i e.symm))⟩
theorem Chg.cell {F : List Nat} {w w' : World} (h : Chg F w w') {p : Addr} (hp : p.block < w.heap.size) (hn : p.block ∉ F) : w'.cell? p = w.cell? p := World.cell?_of_block (h.block _ hp hn)
theorem Chg.frozen {F : List Nat} {w w' : World} (h : Chg F w w') {p : Addr} (hp : p.block < w.heap.size) (hn : p.block ∉ F) : w'.frozen? p = w.frozen? p := World.frozen?_of_block (h.block _ hp hn)

section
variable {α : Type} {e : Enc α} {w w' : World} {B B' : Nat} {v : Value} {l : List α} {F G : List Nat}

/-- the blocks that a slice takes -/
def blocks (v : Value) (n : Nat) : List Nat := if n = 0 then [] else v.ownBlock.toList
theorem blocks_nodup (v : Value) (n : Nat) : (blocks v n).Nodup := by
  unfold blocks
  split
  · exact List.nodup_nil
  · cases v.ownBlock <;> simp
/-- v reads as l, and what it reads may be written -/
def Hw (e : Enc α) (w : World) (F : List Nat) (v : Value) (l : List α) : Prop := Rd e w w.heap.size v l ∧ F = blocks v l.length ∧ ∀ g ∈ F, ∀ j, w.frozen? ⟨g, j, none⟩ = false

theorem Rd.block_lt {A : Option Addr} {n c : Nat} (h : Rd e w B (.slice A n c) l) : ∀ b ∈ blocks (.slice A n c) l.length, b < B := by
  intro b hb
  obtain ⟨A', c', hv, _, hA⟩ := h
  simp only [Value.slice.injEq] at hv
  obtain ⟨rfl, rfl, rfl⟩ := hv
  unfold blocks at hb
  split at hb
  · cases hb
  · obtain ⟨b', o', rfl, hlt, _⟩ := hA (by omega)
    simp [Value.ownBlock] at hb
    omega
theorem Rd.keepF (h : Rd e w B v l) (hB : B ≤ B') (hk : ∀ b ∈ blocks v l.length, ∀ o, w'.cell? ⟨b, o, none⟩ = w.cell? ⟨b, o, none⟩) : Rd e w' B' v l := by
  obtain ⟨A, c, rfl, hcap, hA⟩ := h
  refine ⟨A, c, rfl, hcap, fun hl => ?_⟩
  obtain ⟨b, o, rfl, hlt, hc⟩ := hA hl
  refine ⟨b, o, rfl, by omega, fun k hk' j u hu => ?_⟩
  rw [hk b (by unfold blocks; rw [if_neg (by omega)]; simp [Value.ownBlock])]
  exact hc k hk' j u hu
theorem Rd.to_lt (h : Rd e w B v l) (hB : ∀ b ∈ blocks v l.length, b < B') : Rd e w B' v l := by
  obtain ⟨A, c, rfl, hcap, hA⟩ := h
  refine ⟨A, c, rfl, hcap, fun hl => ?_⟩
  obtain ⟨b, o, rfl, hlt, hc⟩ := hA hl
  exact ⟨b, o, rfl, hB b (by unfold blocks; rw [if_neg (by omega)]; simp [Value.ownBlock]), hc⟩
theorem Hw.lt (h : Hw e w F v l) : ∀ b ∈ F, b < w.heap.size := by
  obtain ⟨hr, rfl, _⟩ := h
  obtain ⟨A, c, rfl, _⟩ := id hr
  exact hr.block_lt
theorem Hw.nodup (h : Hw e w F v l) : F.Nodup := by
  obtain ⟨_, rfl, _⟩ := h
  exact blocks_nodup _ _
theorem Hw.keep (h : Hw e w F v l) (hs : w.heap.size ≤ w'.heap.size) (hk : ∀ b ∈ F, w'.heap[b]? = w.heap[b]?) : Hw e w' F v l := by
  obtain ⟨hr, rfl, hf⟩ := h
  refine ⟨hr.keepF hs (fun b hb o => World.cell?_of_block (hk b hb)), rfl, fun g hg j => ?_⟩
  rw [World.frozen?_of_block (w := w) (hk g hg)]
  exact hf g hg j
theorem Hw.chg (h : Hw e w F v l) (hc : Chg G w w') (hd : ∀ b ∈ F, b ∉ G) : Hw e w' F v l := h.keep hc.size fun b hb => hc.block b (h.lt b hb) (hd b hb)
theorem Hw.below (h : Hw e w F v l) (hb : Below w.heap.size w w') : Hw e w' F v l := h.keep hb.size fun b hF => hb.block b (h.lt b hF)
theorem Hw.rd (h : Hw e w F v l) : Rd e w w.heap.size v l := h.1
theorem Hw.of_ow {E : TypeId} {base : Nat} (h : Ow e E w base v l) : Hw e w (blocks v l.length) v l ∧ ∀ b ∈ blocks v l.length, base ≤ b := by
  have hr := Rd.of_own h
  rcases h.form with ⟨rfl, rfl⟩ | ⟨g, cap, rfl, h1, h2, _, _, hf, _⟩
  · exact ⟨⟨hr, rfl, fun g hg => by simp [blocks] at hg⟩, fun b hb => by simp [blocks] at hb⟩
  · have hb : ∀ b ∈ blocks (.slice (some ⟨g, 0, none⟩) l.length cap) l.length, b = g := by
      intro b hb
      unfold blocks at hb
      split at hb
      · cases hb
      · simpa [Value.ownBlock] using hb
    exact ⟨⟨hr, rfl, fun b hb' j => by rw [hb b hb']; exact hf j⟩, fun b hb' => by rw [hb b hb']; exact h1⟩
theorem Hw.nil (e : Enc α) (w : World) (A : Option Addr) (c : Nat) : Hw e w [] (.slice A 0 c) [] :=
  ⟨⟨A, c, rfl, Nat.zero_le _, fun h => absurd h (by simp)⟩, by simp [blocks], fun _ h => by cases h⟩
/-- where the slice lies, and what it holds -/
theorem Hw.at_ {A : Option Addr} {n c : Nat} (h : Hw e w F (.slice A n c) l) (hp : 0 < l.length) : ∃ b o, A = some ⟨b, o, none⟩ ∧ F = [b] ∧ b < w.heap.size ∧ (∀ j, w.frozen? ⟨b, j, none⟩ = false) := by
  obtain ⟨hr, hF, hf⟩ := h
  obtain ⟨A', c', hv, _, hA⟩ := id hr
  simp only [Value.slice.injEq] at hv
  obtain ⟨rfl, rfl, rfl⟩ := hv
  obtain ⟨b, o, rfl, hlt, _⟩ := hA hp
  have hFb : F = [b] := by
    rw [hF]
    unfold blocks
    rw [if_neg (by omega)]
    rfl
  exact ⟨b, o, rfl, hFb, hlt, fun j => hf b (by rw [hFb]; simp) j⟩
end

theorem wSeq_chg : ∀ (us : List Value) (w : World) (b i : Nat), Chg [b] w (wSeq w b i us)
  | [], w, b, _ => Chg.refl [b] w
  | u :: us, w, b, i => (Chg.setCell w b i u).trans (wSeq_chg us _ b (i + 1))
theorem wSeq_size : ∀ (us : List Value) (w : World) (b i : Nat), (wSeq w b i us).heap.size = w.heap.size
  | [], _, _, _ => rfl
  | u :: us, w, b, i => by
    rw [wSeq, wSeq_size us]
    simp [World.setCell]
theorem setCell_cell (w : World) (b o i : Nat) (u u0 : Value) (h0 : w.cell? ⟨b, o, none⟩ = some u0) (hi : ∃ x, w.cell? ⟨b, i, none⟩ = some x) :
    (w.setCell ⟨b, i, none⟩ u).cell? ⟨b, o, none⟩ = some (if o = i then u else u0) := by
  by_cases h : o = i
  · subst h
    rw [if_pos rfl]
    obtain ⟨x, hx⟩ := hi
    simp [go_sem, hx]
  · rw [if_neg h]
    have := h0
    simp [go_sem, this]
/-- cells of one block after some, one behind the other, were written -/
theorem wSeq_cell : ∀ (us : List Value) (w : World) (b i o : Nat) (u0 : Value), (∀ j, j < us.length → ∃ x, w.cell? ⟨b, i + j, none⟩ = some x) → w.cell? ⟨b, o, none⟩ = some u0 →
    (wSeq w b i us).cell? ⟨b, o, none⟩ = some (if h : i ≤ o ∧ o < i + us.length then us[o - i]'(by omega) else u0)
  | [], w, b, i, o, u0, _, h0 => by
    rw [wSeq, h0, dif_neg (by simp)]
  | u :: us, w, b, i, o, u0, hx, h0 => by
    have h1 := setCell_cell w b o i u u0 h0 (by simpa using hx 0 (by simp))
    have h2 := wSeq_cell us (w.setCell ⟨b, i, none⟩ u) b (i + 1) o _ (fun j hj => by
      obtain ⟨x, hx'⟩ := hx (j + 1) (by simpa using hj)
      exact ⟨_, setCell_cell w b (i + 1 + j) i u x (by rw [show i + 1 + j = i + (j + 1) from by omega]; exact hx') (by simpa using hx 0 (by simp))⟩) h1
    rw [wSeq, h2]
    congr 1
    by_cases ho : o = i
    · subst ho
      rw [dif_neg (by omega), if_pos rfl, dif_pos (by simp)]
      simp
    · by_cases hin : i + 1 ≤ o ∧ o < i + 1 + us.length
      · rw [dif_pos hin, dif_pos (by simp only [List.length_cons]; omega)]
        have : o - i = (o - (i + 1)) + 1 := by omega
        simp only [this, List.getElem_cons_succ]
      · rw [dif_neg hin, if_neg ho, dif_neg (by simp only [List.length_cons]; omega)]
theorem setCell_frozen (w : World) (a : Addr) (u : Value) (p : Addr) : (w.setCell a u).frozen? p = w.frozen? p := by simp [go_sem]
theorem wSeq_frozen : ∀ (us : List Value) (w : World) (b i : Nat) (p : Addr), (wSeq w b i us).frozen? p = w.frozen? p
  | [], _, _, _, _ => rfl
  | u :: us, w, b, i, p => by rw [wSeq, wSeq_frozen us, setCell_frozen]

/-- a part of one element's cells is written -/
theorem Rd.part {α : Type} {e : Enc α} {w : World} {B b o n c : Nat} {l : List α} (h : Rd e w B (.slice (some ⟨b, o, none⟩) n c) l) (k : Nat) (hk : k < l.length) (y : α) (off : Nat) (us : List Value) (hoff : off + us.length ≤ e.sz)
    (hin : ∀ j (hj : j < us.length), (e.cells y)[off + j]? = some us[j]) (hout : ∀ j, j < e.sz → (j < off ∨ off + us.length ≤ j) → (e.cells y)[j]? = (e.cells l[k])[j]?) :
    Rd e (wSeq w b (o + k * e.sz + off) us) B (.slice (some ⟨b, o, none⟩) n c) (l.set k y) := by
  obtain ⟨A', c', hv, hcap, hA⟩ := h
  simp only [Value.slice.injEq] at hv
  obtain ⟨rfl, rfl, rfl⟩ := hv
  refine ⟨_, c, by rw [List.length_set], by rw [List.length_set]; exact hcap, fun _ => ?_⟩
  obtain ⟨b', o', he, hlt, hc⟩ := hA (by omega)
  simp only [Option.some.injEq, Addr.mk.injEq, and_true] at he
  obtain ⟨rfl, rfl⟩ := he
  refine ⟨b, o, rfl, hlt, fun i hi0 j u hu => ?_⟩
  have hi : i < l.length := by rw [List.length_set] at hi0; exact hi0
  have hj : j < e.sz := by
    have := (List.getElem?_eq_some_iff.1 hu).1
    rw [e.len] at this
    exact this
  have hex : ∀ j', j' < us.length → ∃ x, w.cell? ⟨b, o + k * e.sz + off + j', none⟩ = some x := fun j' hj' => by
    have hlt' : off + j' < (e.cells l[k]).length := by rw [e.len]; omega
    exact ⟨_, by rw [Nat.add_assoc]; exact hc k hk (off + j') _ (List.getElem?_eq_getElem hlt')⟩
  by_cases hik : i = k
  · subst hik
    rw [List.getElem_set_self] at hu
    have hl0 : j < (e.cells l[i]).length := by rw [e.len]; exact hj
    have h0 := hc i hi j _ (List.getElem?_eq_getElem hl0)
    have h1 := wSeq_cell us w b (o + i * e.sz + off) (o + i * e.sz + j) _ hex h0
    rw [h1]
    by_cases hr : off ≤ j ∧ j < off + us.length
    · rw [dif_pos (by omega)]
      have h2 := hin (j - off) (by omega)
      rw [show off + (j - off) = j from by omega, hu] at h2
      have h3 : o + i * e.sz + j - (o + i * e.sz + off) = j - off := by omega
      simp only [h3]
      exact h2.symm
    · rw [dif_neg (by omega)]
      have h2 := hout j hj (by omega)
      rw [hu, List.getElem?_eq_getElem hl0] at h2
      exact h2.symm
  · rw [List.getElem_set_ne (by omega)] at hu
    have h0 := hc i hi j u hu
    have h1 := wSeq_cell us w b (o + k * e.sz + off) (o + i * e.sz + j) _ hex h0
    rw [h1, dif_neg]
    intro hh
    rcases Nat.lt_or_gt_of_ne hik with h | h
    · have : (i + 1) * e.sz ≤ k * e.sz := Nat.mul_le_mul_right _ h
      rw [Nat.succ_mul] at this
      omega
    · have : (k + 1) * e.sz ≤ i * e.sz := Nat.mul_le_mul_right _ h
      rw [Nat.succ_mul] at this
      omega
/-- another datum with the same cells -/
theorem Rd.same {α : Type} {e : Enc α} {w : World} {B : Nat} {v : Value} {l : List α} (h : Rd e w B v l) (k : Nat) (hk : k < l.length) (y : α) (hy : e.cells y = e.cells l[k]) : Rd e w B v (l.set k y) := by
  obtain ⟨A, c, rfl, hcap, hA⟩ := h
  refine ⟨A, c, by rw [List.length_set], by rw [List.length_set]; exact hcap, fun hl => ?_⟩
  rw [List.length_set] at hl
  obtain ⟨b, o, hb, hlt, hc⟩ := hA hl
  refine ⟨b, o, hb, hlt, fun i hi0 j u hu => ?_⟩
  have hi : i < l.length := by rw [List.length_set] at hi0; exact hi0
  refine hc i hi j u ?_
  by_cases hik : k = i
  · subst hik
    rw [List.getElem_set_self, hy] at hu
    exact hu
  · rw [List.getElem_set_ne hik] at hu
    exact hu

/-- a kind of data: how the own cells lie, what the slices in them read, what of it is owned -/
structure Dt (α : Type) where
  S : Type
  enc : Enc (α × S)
  rd : World → Nat → α → S → Prop
  ow : World → List Nat → α → S → Prop
  rd_keep : ∀ {w w' : World} {B B' : Nat} {x : α} {s : S}, rd w B x s → B ≤ B' → (∀ p : Addr, p.block < B → w'.cell? p = w.cell? p) → rd w' B' x s
  ow_keep : ∀ {w w' : World} {F : List Nat} {x : α} {s : S}, ow w F x s → w.heap.size ≤ w'.heap.size → (∀ b ∈ F, w'.heap[b]? = w.heap[b]?) → ow w' F x s
  ow_lt : ∀ {w : World} {F : List Nat} {x : α} {s : S}, ow w F x s → ∀ b ∈ F, b < w.heap.size
  ow_rd : ∀ {w : World} {F : List Nat} {x : α} {s : S}, ow w F x s → rd w w.heap.size x s
  ow_nodup : ∀ {w : World} {F : List Nat} {x : α} {s : S}, ow w F x s → F.Nodup

section
variable {α : Type} {d : Dt α} {w w' : World} {B B' : Nat} {v : Value} {l : List α} {F G : List Nat}

/-- v is a slice that reads as l, below block B -/
def RdL (d : Dt α) (w : World) (B : Nat) (v : Value) (l : List α) : Prop := ∃ rs : List (α × d.S), rs.map (·.1) = l ∧ Rd d.enc w B v rs ∧ ∀ r ∈ rs, d.rd w B r.1 r.2
theorem RdL.keep (h : RdL d w B v l) (hB : B ≤ B') (hk : ∀ p : Addr, p.block < B → w'.cell? p = w.cell? p) : RdL d w' B' v l := by
  obtain ⟨rs, hm, hr, ha⟩ := h
  exact ⟨rs, hm, (hr.keep hk).more hB, fun r hx => d.rd_keep (ha r hx) hB hk⟩
theorem RdL.below (h : RdL d w B v l) (hb : Below B w w') : RdL d w' B v l := h.keep (Nat.le_refl _) fun _ hp => hb.cell hp
theorem RdL.more (h : RdL d w B v l) (hB : B ≤ B') : RdL d w B' v l := h.keep hB fun _ _ => rfl
theorem RdL.form (h : RdL d w B v l) : ∃ A c, v = .slice A l.length c ∧ l.length ≤ c := by
  obtain ⟨rs, rfl, ⟨A, c, hv, hc, _⟩, _⟩ := h
  exact ⟨A, c, by rw [List.length_map]; exact hv, by rw [List.length_map]; exact hc⟩
theorem RdL.at_ {A : Option Addr} {n c : Nat} (h : RdL d w B (.slice A n c) l) (k : Nat) (hk : k < l.length) : ∃ b o s, A = some ⟨b, o, none⟩ ∧ b < B ∧
    (∀ j u, (d.enc.cells (l[k], s))[j]? = some u → w.cell? ⟨b, o + k * d.enc.sz + j, none⟩ = some u) ∧ d.rd w B l[k] s := by
  obtain ⟨rs, rfl, ⟨A', c', hv, _, hA⟩, ha⟩ := h
  simp only [Value.slice.injEq] at hv
  obtain ⟨rfl, _, _⟩ := hv
  rw [List.length_map] at hk
  obtain ⟨b, o, hA', hb, hc⟩ := hA (by omega)
  have e : (rs.map (·.1))[k]'(by rw [List.length_map]; exact hk) = rs[k].1 := by rw [List.getElem_map]
  refine ⟨b, o, rs[k].2, hA', hb, fun j u hu => ?_, ?_⟩
  · rw [e] at hu
    exact hc k hk j u hu
  · rw [e]
    exact ha _ (List.getElem_mem hk)

/-- each of the raw elements is owned, by the blocks of F -/
inductive Ows (d : Dt α) (w : World) : List Nat → List (α × d.S) → Prop
  | nil : Ows d w [] []
  | cons {F G : List Nat} {r : α × d.S} {rs : List (α × d.S)} : d.ow w F r.1 r.2 → Ows d w G rs → Ows d w (F ++ G) (r :: rs)
theorem Ows.keep {rs : List (α × d.S)} (h : Ows d w F rs) (hs : w.heap.size ≤ w'.heap.size) (hk : ∀ b ∈ F, w'.heap[b]? = w.heap[b]?) : Ows d w' F rs := by
  induction h with
  | nil => exact .nil
  | cons h1 _ ih => exact .cons (d.ow_keep h1 hs fun b hb => hk b (List.mem_append_left _ hb)) (ih fun b hb => hk b (List.mem_append_right _ hb))
theorem Ows.lt {rs : List (α × d.S)} (h : Ows d w F rs) : ∀ b ∈ F, b < w.heap.size := by
  induction h with
  | nil => intro b hb; cases hb
  | cons h1 _ ih =>
    intro b hb
    rcases List.mem_append.1 hb with hb | hb
    · exact d.ow_lt h1 b hb
    · exact ih b hb
theorem Ows.rd {rs : List (α × d.S)} (h : Ows d w F rs) : ∀ r ∈ rs, d.rd w w.heap.size r.1 r.2 := by
  induction h with
  | nil => intro r hr; cases hr
  | cons h1 _ ih =>
    intro r hr
    rcases List.mem_cons.1 hr with rfl | hr
    · exact d.ow_rd h1
    · exact ih r hr
theorem Ows.append {rs ts : List (α × d.S)} (h : Ows d w F rs) (k : Ows d w G ts) : Ows d w (F ++ G) (rs ++ ts) := by
  induction h with
  | nil => exact k
  | cons h1 _ ih =>
    rw [List.append_assoc]
    exact .cons h1 ih
theorem Ows.one {r : α × d.S} (h : d.ow w F r.1 r.2) : Ows d w F [r] := by
  have := Ows.cons h (Ows.nil (d := d) (w := w))
  rwa [List.append_nil] at this
theorem Ows.split {rs : List (α × d.S)} (h : Ows d w F rs) (k : Nat) (hk : k ≤ rs.length) : ∃ F1 F2, F = F1 ++ F2 ∧ Ows d w F1 (rs.take k) ∧ Ows d w F2 (rs.drop k) := by
  induction h generalizing k with
  | nil => exact ⟨[], [], rfl, by simpa using Ows.nil, by simpa using Ows.nil⟩
  | @cons F G r rs h1 h2 ih =>
    cases k with
    | zero => exact ⟨[], F ++ G, rfl, by simpa using Ows.nil, by simpa using Ows.cons h1 h2⟩
    | succ k =>
      obtain ⟨F1, F2, rfl, h3, h4⟩ := ih k (by simpa using hk)
      exact ⟨F ++ F1, F2, by rw [List.append_assoc], by simpa using Ows.cons h1 h3, by simpa using h4⟩
theorem Ows.head {r : α × d.S} {rs : List (α × d.S)} (h : Ows d w F (r :: rs)) : ∃ F1 F2, F = F1 ++ F2 ∧ d.ow w F1 r.1 r.2 ∧ Ows d w F2 rs := by
  cases h with
  | cons h1 h2 => exact ⟨_, _, rfl, h1, h2⟩

/-- v is a slice of the call's own, with all that it leads to, in the blocks F -/
def OwL (d : Dt α) (w : World) (F : List Nat) (v : Value) (l : List α) : Prop :=
  ∃ (rs : List (α × d.S)) (H G : List Nat), rs.map (·.1) = l ∧ Hw d.enc w H v rs ∧ Ows d w G rs ∧ F = H ++ G ∧ F.Nodup
theorem OwL.keep (h : OwL d w F v l) (hs : w.heap.size ≤ w'.heap.size) (hk : ∀ b ∈ F, w'.heap[b]? = w.heap[b]?) : OwL d w' F v l := by
  obtain ⟨rs, H, G, hm, hh, ho, rfl, hn⟩ := h
  exact ⟨rs, H, G, hm, hh.keep hs fun b hb => hk b (List.mem_append_left _ hb), ho.keep hs fun b hb => hk b (List.mem_append_right _ hb), rfl, hn⟩
theorem OwL.lt (h : OwL d w F v l) : ∀ b ∈ F, b < w.heap.size := by
  obtain ⟨rs, H, G, hm, hh, ho, rfl, hn⟩ := h
  intro b hb
  rcases List.mem_append.1 hb with hb | hb
  · exact hh.lt b hb
  · exact ho.lt b hb
theorem OwL.nodup (h : OwL d w F v l) : F.Nodup := by
  obtain ⟨rs, H, G, hm, hh, ho, rfl, hn⟩ := h
  exact hn
theorem OwL.rd (h : OwL d w F v l) : RdL d w w.heap.size v l := by
  obtain ⟨rs, H, G, hm, hh, ho, rfl, hn⟩ := h
  exact ⟨rs, hm, hh.rd, ho.rd⟩
theorem OwL.chg (h : OwL d w F v l) (hc : Chg G w w') (hd : ∀ b ∈ F, b ∉ G) : OwL d w' F v l := h.keep hc.size fun b hb => hc.block b (h.lt b hb) (hd b hb)
theorem OwL.below (h : OwL d w F v l) (hb : Below w.heap.size w w') : OwL d w' F v l := h.keep hb.size fun b hF => hb.block b (h.lt b hF)
theorem OwL.nil (d : Dt α) (w : World) (A : Option Addr) (c : Nat) : OwL d w [] (.slice A 0 c) [] := ⟨[], [], [], rfl, Hw.nil _ _ _ _, .nil, rfl, List.nodup_nil⟩
theorem OwL.form (h : OwL d w F v l) : ∃ A c, v = .slice A l.length c ∧ l.length ≤ c := h.rd.form

/-- lists of them are data again -/
@[reducible] def Dt.list (d : Dt α) : Dt (List α) where
  S := Sl
  enc := { cells := fun p => [p.2.v], sz := 1, len := fun _ => rfl, one := fun p u hu => by simp at hu; subst hu; rfl }
  rd w B l s := RdL d w B s.v l
  ow w F l s := OwL d w F s.v l
  rd_keep h hB hk := h.keep hB hk
  ow_keep h hs hk := h.keep hs hk
  ow_lt h := h.lt
  ow_rd h := h.rd
  ow_nodup h := h.nodup
/-- lists of flat data -/
@[reducible] def Dt.flats (e : Enc α) : Dt (List α) where
  S := Sl
  enc := { cells := fun p => [p.2.v], sz := 1, len := fun _ => rfl, one := fun p u hu => by simp at hu; subst hu; rfl }
  rd w B l s := Rd e w B s.v l
  ow w F l s := Hw e w F s.v l
  rd_keep h hB hk := (h.keep hk).more hB
  ow_keep h hs hk := h.keep hs hk
  ow_lt h := h.lt
  ow_rd h := h.rd
  ow_nodup h := h.nodup
/-- data with no slice in it -/
@[reducible] def Dt.flat {β : Type} (cells : β × Unit → List Value) (sz : Nat) (len : ∀ x, (cells x).length = sz) (one : ∀ x, ∀ u ∈ cells x, u.oneCell' = true) : Dt β where
  S := Unit
  enc := { cells := cells, sz := sz, len := len, one := one }
  rd _ _ _ _ := True
  ow _ F _ _ := F = []
  rd_keep _ _ _ := trivial
  ow_keep h _ _ := h
  ow_lt h := by subst h; intro b hb; cases hb
  ow_rd _ := trivial
  ow_nodup h := by subst h; exact List.nodup_nil
/-- data with one datum of another kind in it -/
@[reducible] def Dt.via {β : Type} (d : Dt α) (f : β → α) (cells : β × d.S → List Value) (sz : Nat) (len : ∀ x, (cells x).length = sz) (one : ∀ x, ∀ u ∈ cells x, u.oneCell' = true) : Dt β where
  S := d.S
  enc := { cells := cells, sz := sz, len := len, one := one }
  rd w B x s := d.rd w B (f x) s
  ow w F x s := d.ow w F (f x) s
  rd_keep h hB hk := d.rd_keep h hB hk
  ow_keep h hs hk := d.ow_keep h hs hk
  ow_lt h := d.ow_lt h
  ow_rd h := d.ow_rd h
  ow_nodup h := d.ow_nodup h
/-- data with two -/
@[reducible] def Dt.two {β γ : Type} (d : Dt α) (d' : Dt γ) (f : β → α) (g : β → γ) (cells : β × (d.S × d'.S) → List Value) (sz : Nat) (len : ∀ x, (cells x).length = sz) (one : ∀ x, ∀ u ∈ cells x, u.oneCell' = true) : Dt β where
  S := d.S × d'.S
  enc := { cells := cells, sz := sz, len := len, one := one }
  rd w B x s := d.rd w B (f x) s.1 ∧ d'.rd w B (g x) s.2
  ow w F x s := ∃ F1 F2, F = F1 ++ F2 ∧ F.Nodup ∧ d.ow w F1 (f x) s.1 ∧ d'.ow w F2 (g x) s.2
  rd_keep h hB hk := ⟨d.rd_keep h.1 hB hk, d'.rd_keep h.2 hB hk⟩
  ow_keep := fun ⟨F1, F2, hF, hn, h1, h2⟩ hs hk => ⟨F1, F2, hF, hn, d.ow_keep h1 hs fun b hb => hk b (by rw [hF]; exact List.mem_append_left _ hb), d'.ow_keep h2 hs fun b hb => hk b (by rw [hF]; exact List.mem_append_right _ hb)⟩
  ow_lt := fun ⟨F1, F2, hF, hn, h1, h2⟩ b hb => by
    rw [hF] at hb
    rcases List.mem_append.1 hb with hb | hb
    · exact d.ow_lt h1 b hb
    · exact d'.ow_lt h2 b hb
  ow_rd := fun ⟨F1, F2, hF, hn, h1, h2⟩ => ⟨d.ow_rd h1, d'.ow_rd h2⟩
  ow_nodup := fun ⟨F1, F2, hF, hn, h1, h2⟩ => hn

theorem Dt.ow_chg (d : Dt α) {x : α} {s : d.S} (h : d.ow w F x s) (hc : Chg G w w') (hd : ∀ b ∈ F, b ∉ G) : d.ow w' F x s := d.ow_keep h hc.size fun b hb => hc.block b (d.ow_lt h b hb) (hd b hb)
theorem Dt.ow_below (d : Dt α) {x : α} {s : d.S} (h : d.ow w F x s) (hb : Below w.heap.size w w') : d.ow w' F x s := d.ow_keep h hb.size fun b hF => hb.block b (d.ow_lt h b hF)
theorem Dt.rd_below (d : Dt α) {x : α} {s : d.S} (h : d.rd w B x s) (hb : Below B w w') : d.rd w' B x s := d.rd_keep h (Nat.le_refl _) fun _ hp => hb.cell hp
theorem Dt.rd_more (d : Dt α) {x : α} {s : d.S} (h : d.rd w B x s) (hB : B ≤ B') : d.rd w B' x s := d.rd_keep h hB fun _ _ => rfl

/-- what hands out a datum of the call's own -/
def OwnPost (d : Dt α) (val : α → d.S → Value) (x : α) (w : World) (e : Ending) (w' : World) : Prop :=
  ∃ s F, e = .returned (val x s) ∧ d.ow w' F x s ∧ (∀ b ∈ F, w.heap.size ≤ b) ∧ Below w.heap.size w w'
end

section
variable {α : Type} {d : Dt α} {w w' : World} {v : Value} {l : List α} {F G : List Nat}
theorem Dt.ow_set (d : Dt α) {x : α} {s : d.S} (h : d.ow w F x s) {a : Addr} (ha : a.block ∉ F) (u : Value) : d.ow (w.setCell a u) F x s :=
  d.ow_keep h (by simp [World.setCell]) fun b hb => Below.heap_setCell w a u b (fun e => ha (by rw [← e]; exact hb))
theorem OwL.set (h : OwL d w F v l) {a : Addr} (ha : a.block ∉ F) (u : Value) : OwL d (w.setCell a u) F v l :=
  h.keep (by simp [World.setCell]) fun b hb => Below.heap_setCell w a u b (fun e => ha (by rw [← e]; exact hb))
theorem Hw.set {e : Enc α} (h : Hw e w F v l) {a : Addr} (ha : a.block ∉ F) (u : Value) : Hw e (w.setCell a u) F v l :=
  h.keep (by simp [World.setCell]) fun b hb => Below.heap_setCell w a u b (fun e => ha (by rw [← e]; exact hb))
theorem Ows.bel {rs : List (α × d.S)} (h : Ows d w F rs) (hb : Below w.heap.size w w') : Ows d w' F rs := h.keep hb.size fun b hF => hb.block b (h.lt b hF)
theorem Ows.chg {rs : List (α × d.S)} (h : Ows d w F rs) (hc : Chg G w w') (hd : ∀ b ∈ F, b ∉ G) : Ows d w' F rs := h.keep hc.size fun b hb => hc.block b (h.lt b hb) (hd b hb)
end

theorem blocks_sub (v : Value) (n : Nat) : ∀ b ∈ blocks v n, v.ownBlock = some b := by
  intro b hb
  unfold blocks at hb
  split at hb
  · cases hb
  · cases h : v.ownBlock with
    | none => rw [h] at hb; cases hb
    | some g =>
      rw [h] at hb
      simp at hb
      rw [hb]

section
variable {α : Type} {d : Dt α} {E : TypeId} {w w1 w' : World} {base : Nat} {v : Value} {rs : List (α × d.S)}
/-- a slice of data that the call builds: its own row, and what the elements own -/
def Bld (d : Dt α) (E : TypeId) (w : World) (base : Nat) (v : Value) (rs : List (α × d.S)) : Prop :=
  ∃ G, Ow d.enc E w base v rs ∧ Ows d w G rs ∧ G.Nodup ∧ ∀ b ∈ G, base ≤ b ∧ v.ownBlock ≠ some b
theorem Bld.nil (d : Dt α) (E : TypeId) (w : World) (base : Nat) : Bld d E w base (.slice none 0 0) [] := ⟨[], Ow.nil _ _ _ _, .nil, List.nodup_nil, fun _ h => by cases h⟩
theorem Bld.of_empty {v : Value} (h : Ow d.enc E w base v []) : Bld d E w base v [] := ⟨[], h, .nil, List.nodup_nil, fun _ h => by cases h⟩
theorem Bld.below (h : Bld d E w base v rs) (hb : Below w.heap.size w w') : Bld d E w' base v rs := by
  obtain ⟨G, h1, h2, h3, h4⟩ := h
  exact ⟨G, h1.below hb, h2.bel hb, h3, h4⟩
theorem Bld.ow (h : Bld d E w base v rs) : Ow d.enc E w base v rs := by
  obtain ⟨G, h1, _⟩ := h
  exact h1
theorem Bld.rd (h : Bld d E w base v rs) : RdL d w w.heap.size v (rs.map (·.1)) := by
  obtain ⟨G, h1, h2, _⟩ := h
  exact ⟨rs, rfl, Rd.of_own h1, h2.rd⟩
/-- some elements of the call's own come behind the others; the row may have been laid anew -/
theorem Bld.push {v3 : Value} {w3 : World} {ts : List (α × d.S)} {F : List Nat} (h : Bld d E w base v rs) (hb : Below w.heap.size w w1) (ht : Ows d w1 F ts) (hF : ∀ b ∈ F, w.heap.size ≤ b) (hn : F.Nodup) (hbase : base ≤ w.heap.size)
    (ho : Ow d.enc E w3 base v3 (rs ++ ts)) (hg : w1.grownBy w3 v.ownBlock) (hv : v3.ownBlock = v.ownBlock ∨ ∃ g, v3.ownBlock = some g ∧ w1.heap.size ≤ g) : Bld d E w3 base v3 (rs ++ ts) := by
  obtain ⟨G, h1, h2, h3, h4⟩ := h
  have hG : ∀ b ∈ G, b < w.heap.size := h2.lt
  have hFl : ∀ b ∈ F, b < w1.heap.size := ht.lt
  have hvF : ∀ b ∈ F, v.ownBlock ≠ some b := fun b hb he => by
    rcases h1.form with ⟨rfl, _⟩ | ⟨g, cap, rfl, _, hlt, _⟩
    · simp [Value.ownBlock] at he
    · have : g = b := by simpa [Value.ownBlock] using he
      have := hF b hb
      omega
  have hs := hb.size
  refine ⟨G ++ F, ho, ?_, ?_, ?_⟩
  · refine Ows.append ((h2.bel hb).keep hg.size fun b hbG => hg.block b (by have := hG b hbG; omega) ?_) (ht.keep hg.size fun b hbF => hg.block b (hFl b hbF) ?_)
    · exact fun e => (h4 b hbG).2 e.symm
    · exact fun e => hvF b hbF e.symm
  · rw [List.nodup_append]
    refine ⟨h3, hn, fun a ha b hb' e => ?_⟩
    have := hG a ha
    have := hF b hb'
    omega
  · intro b hbm
    rcases List.mem_append.1 hbm with hbm | hbm
    · refine ⟨(h4 b hbm).1, ?_⟩
      rcases hv with hv | ⟨g, hv, hlt⟩
      · rw [hv]; exact (h4 b hbm).2
      · rw [hv]
        intro e
        have := hG b hbm
        injection e with e
        omega
    · refine ⟨by have := hF b hbm; omega, ?_⟩
      rcases hv with hv | ⟨g, hv, hlt⟩
      · rw [hv]; exact hvF b hbm
      · rw [hv]
        intro e
        have := hFl b hbm
        injection e with e
        omega
theorem Bld.owl (h : Bld d E w base v rs) {l : List α} (hl : rs.map (·.1) = l) : ∃ F, OwL d w F v l ∧ ∀ b ∈ F, base ≤ b := by
  obtain ⟨G, h1, h2, h3, h4⟩ := h
  obtain ⟨h5, h6⟩ := Hw.of_ow h1
  refine ⟨_, ⟨rs, _, G, hl, h5, h2, rfl, ?_⟩, ?_⟩
  · rw [List.nodup_append]
    refine ⟨blocks_nodup _ _, h3, fun a ha b hb e => ?_⟩
    subst e
    exact (h4 a hb).2 (blocks_sub _ _ _ ha)
  · intro b hb
    rcases List.mem_append.1 hb with hb | hb
    · exact h6 b hb
    · exact (h4 b hb).1
/-- one element of a slice that make has made is laid -/
theorem Bld.lay {g : Nat} {rs : List (α × d.S)} {w2 : World} {F G : List Nat} {r : α × d.S} (h1 : Ows d w G rs) (h3 : G.Nodup) (h4 : ∀ b ∈ G, g < b) (hb : Below w.heap.size w w1) (hr : d.ow w1 F r.1 r.2) (hF : ∀ b ∈ F, w.heap.size ≤ b) (hg : g < w.heap.size)
    (hgr : w1.grownBy w2 (some g)) : Ows d w2 (G ++ F) (rs ++ [r]) ∧ (G ++ F).Nodup ∧ ∀ b ∈ G ++ F, g < b := by
  have hG : ∀ b ∈ G, b < w.heap.size := h1.lt
  have hs := hb.size
  refine ⟨Ows.append ((h1.bel hb).keep hgr.size fun b hbG => hgr.block b (by have := hG b hbG; omega) ?_) ((Ows.one hr).keep hgr.size fun b hbF => hgr.block b (d.ow_lt hr b hbF) ?_), ?_, ?_⟩
  · intro e
    have := h4 b hbG
    injection e with e
    omega
  · intro e
    have := hF b hbF
    injection e with e
    omega
  · rw [List.nodup_append]
    refine ⟨h3, d.ow_nodup hr, fun a ha b hb' e => ?_⟩
    have := hG a ha
    have := hF b hb'
    omega
  · intro b hbm
    rcases List.mem_append.1 hbm with hbm | hbm
    · exact h4 b hbm
    · have := hF b hbm
      omega
end

/-- two owned things whose blocks lie apart -/
theorem apart_of {F G : List Nat} {a b c d : Nat} (h : ∀ x ∈ F, a ≤ x ∧ x < b) (k : ∀ x ∈ G, c ≤ x ∧ x < d) (hne : b ≤ c ∨ d ≤ a) : ∀ x ∈ F, x ∉ G := by
  intro x hx hy
  have := h x hx
  have := k x hy
  omega
theorem in_of {F : List Nat} {a b : Nat} (h : ∀ x ∈ F, a ≤ x) (k : ∀ x ∈ F, x < b) : ∀ x ∈ F, a ≤ x ∧ x < b := fun x hx => ⟨h x hx, k x hx⟩

abbrev slV {α : Type} (_ : α) (s : Sl) : Value := .slice s.a s.n s.c

section
variable {α : Type} {d : Dt α} {w w' : World} {b o n c j : Nat} {rs : List (α × d.S)} {G1 Fx G2 : List Nat} {x y : α} {s : d.S}
/-- a list under marking, with the eye on its element j -/
structure Foc (d : Dt α) (w : World) (b o n c : Nat) (rs : List (α × d.S)) (j : Nat) (G1 Fx G2 : List Nat) (x : α) (s : d.S) : Prop where
  rd : Rd d.enc w w.heap.size (.slice (some ⟨b, o, none⟩) n c) (rs.set j (x, s))
  free : ∀ i, w.frozen? ⟨b, i, none⟩ = false
  left : Ows d w G1 (rs.take j)
  here : d.ow w Fx x s
  right : Ows d w G2 (rs.drop (j + 1))
  lt : j < rs.length
  nodup : ([b] ++ (G1 ++ (Fx ++ G2))).Nodup
  blk : b < w.heap.size
theorem Foc.apart (h : Foc d w b o n c rs j G1 Fx G2 x s) : (b ∉ G1 ∧ b ∉ Fx ∧ b ∉ G2) ∧ (∀ a ∈ G1, a ∉ Fx) ∧ (∀ a ∈ G2, a ∉ Fx) := by
  have h1 := h.nodup
  simp only [List.cons_append, List.nil_append, List.nodup_cons, List.mem_append, not_or, List.nodup_append] at h1
  obtain ⟨⟨a1, a2, a3⟩, _, ⟨_, _, a4⟩, a5⟩ := h1
  exact ⟨⟨a1, a2, a3⟩, fun a ha hx => a5 a ha a (.inl hx) rfl, fun a ha hx => a4 a hx a ha rfl⟩
theorem Foc.cells (h : Foc d w b o n c rs j G1 Fx G2 x s) : ∀ i u, (d.enc.cells (x, s))[i]? = some u → w.cell? ⟨b, o + j * d.enc.sz + i, none⟩ = some u := by
  intro i u hu
  obtain ⟨A', c', hv, _, hA⟩ := h.rd
  simp only [Value.slice.injEq] at hv
  obtain ⟨rfl, _, _⟩ := hv
  have hl : j < (rs.set j (x, s)).length := by rw [List.length_set]; exact h.lt
  obtain ⟨b', o', he, _, hc⟩ := hA (by omega)
  simp only [Option.some.injEq, Addr.mk.injEq, and_true] at he
  obtain ⟨rfl, rfl⟩ := he
  exact hc j hl i u (by rw [List.getElem_set_self]; exact hu)
/-- a part of the element's own cells is written -/
theorem Foc.put (h : Foc d w b o n c rs j G1 Fx G2 x s) (y : α) (off : Nat) (us : List Value) (hoff : off + us.length ≤ d.enc.sz)
    (hin : ∀ i (hi : i < us.length), (d.enc.cells (y, s))[off + i]? = some us[i]) (hout : ∀ i, i < d.enc.sz → (i < off ∨ off + us.length ≤ i) → (d.enc.cells (y, s))[i]? = (d.enc.cells (x, s))[i]?)
    (hy : ∀ W, d.ow W Fx x s → d.ow W Fx y s) : Foc d (wSeq w b (o + j * d.enc.sz + off) us) b o n c rs j G1 Fx G2 y s ∧ Chg [b] w (wSeq w b (o + j * d.enc.sz + off) us) := by
  have hc := wSeq_chg us w b (o + j * d.enc.sz + off)
  obtain ⟨⟨a1, a2, a3⟩, _, _⟩ := h.apart
  refine ⟨⟨?_, fun i => by rw [wSeq_frozen]; exact h.free i, h.left.chg hc ?_, hy _ (Dt.ow_chg d h.here hc ?_), h.right.chg hc ?_, h.lt, h.nodup, by rw [wSeq_size]; exact h.blk⟩, hc⟩
  · have hl : j < (rs.set j (x, s)).length := by rw [List.length_set]; exact h.lt
    have := h.rd.part j hl (y, s) off us hoff hin (by rw [List.getElem_set_self]; exact hout)
    rw [List.set_set] at this
    rw [wSeq_size]
    exact this
  all_goals
    intro x hx hb
    simp only [List.mem_singleton] at hb
    subst hb
    first | exact a1 hx | exact a2 hx | exact a3 hx
/-- what the element leads to is written -/
theorem Foc.sub (h : Foc d w b o n c rs j G1 Fx G2 x s) (hc : Chg Fx w w') (hy : d.ow w' Fx y s) (hcells : d.enc.cells (y, s) = d.enc.cells (x, s)) : Foc d w' b o n c rs j G1 Fx G2 y s := by
  obtain ⟨⟨a1, a2, a3⟩, a4, a5⟩ := h.apart
  refine ⟨?_, fun i => by rw [hc.frozen (p := ⟨b, i, none⟩) h.blk a2]; exact h.free i, h.left.chg hc a4, hy, h.right.chg hc a5, h.lt, h.nodup, Nat.lt_of_lt_of_le h.blk hc.size⟩
  have hl : j < (rs.set j (x, s)).length := by rw [List.length_set]; exact h.lt
  have h1 := h.rd.keepF (w' := w') hc.size (fun b' hb' i => by
    have := blocks_sub _ _ _ hb'
    have : b = b' := by simpa [Value.ownBlock] using this
    subst this
    exact hc.cell (p := ⟨b, i, none⟩) h.blk a2)
  have h2 := h1.same j hl (y, s) (by rw [List.getElem_set_self]; exact hcells)
  rwa [List.set_set] at h2
theorem Foc.start {F1 F2 : List Nat} (hr : Rd d.enc w w.heap.size (.slice (some ⟨b, o, none⟩) n c) rs) (hf : ∀ i, w.frozen? ⟨b, i, none⟩ = false) (h1 : Ows d w F1 (rs.take j)) (h2 : Ows d w F2 (rs.drop j)) (hj : j < rs.length) (hn : ([b] ++ (F1 ++ F2)).Nodup) (hb : b < w.heap.size) :
    ∃ Fx G2, F2 = Fx ++ G2 ∧ Foc d w b o n c rs j F1 Fx G2 rs[j].1 rs[j].2 := by
  rw [← List.getElem_cons_drop hj] at h2
  obtain ⟨Fx, G2, rfl, h3, h4⟩ := h2.head
  refine ⟨Fx, G2, rfl, ⟨?_, hf, h1, h3, h4, hj, hn, hb⟩⟩
  have : rs.set j (rs[j].1, rs[j].2) = rs := List.set_getElem_self hj
  rw [this]
  exact hr
theorem Foc.done (h : Foc d w b o n c rs j G1 Fx G2 x s) : Rd d.enc w w.heap.size (.slice (some ⟨b, o, none⟩) n c) (rs.set j (x, s)) ∧ Ows d w (G1 ++ Fx) ((rs.set j (x, s)).take (j + 1)) ∧ Ows d w G2 ((rs.set j (x, s)).drop (j + 1)) ∧ ([b] ++ ((G1 ++ Fx) ++ G2)).Nodup := by
  refine ⟨h.rd, ?_, ?_, ?_⟩
  · have hl : j < (rs.set j (x, s)).length := by rw [List.length_set]; exact h.lt
    rw [List.take_succ_eq_append_getElem hl, List.getElem_set_self, List.take_set_of_le (Nat.le_refl j)]
    exact h.left.append (Ows.one h.here)
  · rw [List.drop_set_of_lt (by omega)]
    exact h.right
  · have := h.nodup
    simp only [List.append_assoc] at this ⊢
    exact this
end

theorem OwL.foc {α : Type} {d : Dt α} {w : World} {F : List Nat} {A : Option Addr} {n c : Nat} {l : List α} (h : OwL d w F (.slice A n c) l) {j : Nat} (hj : j < l.length) :
    ∃ (b o : Nat) (rs : List (α × d.S)) (s : d.S) (G1 Fx G2 : List Nat), A = some ⟨b, o, none⟩ ∧ F = [b] ++ (G1 ++ (Fx ++ G2)) ∧ rs.map (·.1) = l ∧ Foc d w b o n c rs j G1 Fx G2 l[j] s := by
  obtain ⟨rs, H, G, hm, hh, ho, rfl, hn⟩ := h
  subst hm
  rw [List.length_map] at hj
  obtain ⟨b, o, rfl, rfl, hb, hf⟩ := hh.at_ (by omega)
  obtain ⟨F1, F2, rfl, h1, h2⟩ := ho.split j (Nat.le_of_lt hj)
  obtain ⟨Fx, G2, rfl, h3⟩ := Foc.start hh.rd hf h1 h2 hj hn hb
  refine ⟨b, o, rs, rs[j].2, F1, Fx, G2, rfl, rfl, rfl, ?_⟩
  rw [List.getElem_map]
  exact h3
theorem Foc.owl {α : Type} {d : Dt α} {w : World} {b o n c j : Nat} {rs : List (α × d.S)} {G1 Fx G2 : List Nat} {x : α} {s : d.S} {l : List α} (h : Foc d w b o n c rs j G1 Fx G2 x s) (hm : rs.map (·.1) = l) :
    OwL d w ([b] ++ (G1 ++ (Fx ++ G2))) (.slice (some ⟨b, o, none⟩) n c) (l.set j x) := by
  refine ⟨rs.set j (x, s), [b], G1 ++ (Fx ++ G2), by rw [List.map_set, hm], ⟨h.rd, ?_, ?_⟩, ?_, rfl, h.nodup⟩
  · unfold blocks
    rw [if_neg (by rw [List.length_set]; have := h.lt; omega)]
    rfl
  · intro g hg i
    have : g = b := by simpa using hg
    subst this
    exact h.free i
  · have e : rs.set j (x, s) = rs.take j ++ (x, s) :: rs.drop (j + 1) := by rw [List.set_eq_take_append_cons_drop, if_pos h.lt]
    rw [e]
    exact h.left.append (.cons h.here h.right)
theorem mem_box {b x : Nat} {G : List Nat} (h : x ∈ [b]) : x ∈ [b] ++ G := List.mem_append_left _ h
theorem mem_here {b x : Nat} {G1 Fx G2 : List Nat} (h : x ∈ Fx) : x ∈ [b] ++ (G1 ++ (Fx ++ G2)) := List.mem_append_right _ (List.mem_append_right _ (List.mem_append_left _ h))
theorem nodup_apart {F G : List Nat} (h : (F ++ G).Nodup) : (∀ x ∈ F, x ∉ G) ∧ (∀ x ∈ G, x ∉ F) := by
  rw [List.nodup_append] at h
  exact ⟨fun x hx hy => h.2.2 x hx x hy rfl, fun x hx hy => h.2.2 x hy x hx rfl⟩
theorem mix_snoc {α : Type} (rs : List α) (z : α) (k n : Nat) {y : α} (h : rs.length = k) (hlt : k < n) : (rs ++ List.replicate (n - k) z).set k y = (rs ++ [y]) ++ List.replicate (n - (k + 1)) z := by
  rw [List.set_append_right _ _ (by omega), h, Nat.sub_self, show n - k = (n - (k + 1)) + 1 from by omega, List.replicate_succ, List.set_cons_zero, List.append_assoc, List.singleton_append]

/-- what a marking leaves: all that is owned holds its mark -/
def MkPost {α : Type} (d : Dt α) (F : List Nat) (y : α) (s : d.S) (r : Int) (w : World) (en : Ending) (w' : World) : Prop := en = .returned (.int .i64 r) ∧ d.ow w' F y s ∧ Chg F w w'

/-- all lengths in a list of data together -/
def cntL {α : Type} (cnt : α → Nat) (l : List α) : Nat := l.length + (l.map cnt).sum
theorem cntL_mem {α : Type} {cnt : α → Nat} : ∀ {l : List α} {x : α}, x ∈ l → cnt x + 1 ≤ cntL cnt l
  | y :: l, x, h => by
    unfold cntL
    simp only [List.length_cons, List.map_cons, List.sum_cons]
    rcases List.mem_cons.1 h with rfl | h
    · omega
    · have := cntL_mem (cnt := cnt) h
      unfold cntL at this
      omega
theorem cntL_len {α : Type} (cnt : α → Nat) (l : List α) : l.length ≤ cntL cnt l := Nat.le_add_right _ _
theorem sum_take_succ {α : Type} (f : α → Nat) (l : List α) (k : Nat) (h : k < l.length) : ((l.take (k + 1)).map f).sum = ((l.take k).map f).sum + f l[k] := by
  rw [take_snoc l k h, List.map_append, List.sum_append]
  simp
theorem sum_take_le {α : Type} (f : α → Nat) (l : List α) (k : Nat) : ((l.take k).map f).sum ≤ (l.map f).sum := by
  conv => rhs; rw [← List.take_append_drop k l, List.map_append, List.sum_append]
  omega
theorem cntL_zero {α : Type} {cnt : α → Nat} (h : ∀ x, cnt x = 0) : ∀ l : List α, cntL cnt l = l.length
  | [] => rfl
  | x :: l => by
    have := cntL_zero h l
    unfold cntL at *
    simp only [List.length_cons, List.map_cons, List.sum_cons, h x] at *
    omega
/-- lengths are what a machine holds, and each element is right -/
def wfL {α : Type} (wf : α → Prop) (l : List α) : Prop := l.length ≤ 9223372036854775807 ∧ ∀ x ∈ l, wf x
/-- how many marks a list takes -/
def numL {α : Type} (num : α → Nat) (l : List α) : Nat := (l.map num).sum
theorem numL_le {α : Type} {num cnt : α → Nat} {K : Nat} (h : ∀ x, num x ≤ K * (cnt x + 1)) : ∀ l : List α, numL num l ≤ K * cntL cnt l
  | [] => by simp [numL]
  | x :: l => by
    have h1 := numL_le h l
    have h2 := h x
    unfold numL cntL at *
    simp only [List.length_cons, List.map_cons, List.sum_cons]
    rw [Nat.mul_add] at h1 h2 ⊢
    rw [Nat.mul_succ, Nat.mul_add]
    omega
theorem numL_take_le {α : Type} (num : α → Nat) (l : List α) (k : Nat) : numL num (l.take k) ≤ numL num l := sum_take_le num l k
/-- the marks from k on -/
def mkL {α : Type} (mk : Int → α → α) (num : α → Nat) : Int → List α → List α
  | _, [] => []
  | k, x :: l => mk k x :: mkL mk num (k + num x) l
section
variable {α : Type} (mk : Int → α → α) (num : α → Nat)
theorem mkL_length : ∀ (k : Int) (l : List α), (mkL mk num k l).length = l.length
  | _, [] => rfl
  | k, x :: l => by simp [mkL, mkL_length _ l]
theorem mkL_snoc : ∀ (k : Int) (l : List α) (x : α), mkL mk num k (l ++ [x]) = mkL mk num k l ++ [mk (k + numL num l) x]
  | k, [], x => by simp [mkL, numL]
  | k, y :: l, x => by
    simp only [mkL, List.cons_append]
    rw [mkL_snoc _ l x]
    have e : k + (num y : Int) + (numL num l : Nat) = k + (numL num (y :: l) : Nat) := by
      simp only [numL, List.map_cons, List.sum_cons]
      push_cast
      omega
    rw [e]
theorem mkL_get (k : Int) (l : List α) (j : Nat) (h : j < l.length) (h' : j < (mkL mk num k l).length) : (mkL mk num k l)[j] = mk (k + numL num (l.take j)) l[j] := by
  induction l generalizing k j with
  | nil => exact absurd h (by simp)
  | cons y l ih =>
    cases j with
    | zero => simp [mkL, numL]
    | succ j =>
      simp only [mkL, List.getElem_cons_succ, List.take_succ_cons]
      rw [ih (k + num y) j (by simpa using h)]
      congr 1
      simp only [numL, List.map_cons, List.sum_cons]
      push_cast
      omega
theorem mkL_set (k : Int) (l : List α) (j : Nat) (h : j < l.length) : (mkL mk num k (l.take j) ++ l.drop j).set j (mk (k + numL num (l.take j)) l[j]) = mkL mk num k (l.take (j + 1)) ++ l.drop (j + 1) := by
  have hl : (mkL mk num k (l.take j)).length = j := by rw [mkL_length, List.length_take, Nat.min_eq_left (Nat.le_of_lt h)]
  rw [List.set_append_right _ _ (by omega), hl, Nat.sub_self, take_snoc l j h, mkL_snoc, List.append_assoc, ← List.getElem_cons_drop h, List.set_cons_zero, List.singleton_append]
theorem mkL_here (k : Int) (l : List α) (j : Nat) (h : j < l.length) {h' : j < (mkL mk num k (l.take j) ++ l.drop j).length} : (mkL mk num k (l.take j) ++ l.drop j)[j] = l[j] := by
  have hl : (mkL mk num k (l.take j)).length = j := by rw [mkL_length, List.length_take, Nat.min_eq_left (Nat.le_of_lt h)]
  rw [List.getElem_append_right (by omega)]
  simp [hl]
end
end Go.Proofs.YtjobmbjadpldfaaGreat
end
section
namespace Go.Proofs.YtjobmbjadpldfaaGreat
open Go.RowKit
set_option maxRecDepth 100000
set_option maxHeartbeats 2000000

theorem implPlanFault_ok (p : Plan) (ve : Value) (w : World) (h : Rd edgeE w w.heap.size ve p.edges) (hm : manyOk p = true) :
    Calls Tryz.prog 87 #[planV p ve] w fun e w' => e = .returned (.int .i64 (planFault p)) ∧ Below w.heap.size w w' := by
  have Hm := Lib.hid hm
  obtain ⟨t1, t2⟩ := manyOk_tasks hm
  have hlen := manyOk_edges hm
  have hlen2 : p.edges.length ≤ 2000000 := by omega
  have hlI : ¬ (30 : Int) < (p.edges.length : Int) := by omega
  have hlB : decide ((30 : Int) < (p.edges.length : Int)) = false := by simpa using hlI
  obtain ⟨A, c, rfl, -⟩ := id h
  have hcap := h.cap
  unfold planV
  simp only [manyOk, Bool.and_eq_true] at hm
  obtain ⟨⟨⟨⟨h1, -⟩, h3⟩, h4⟩, h5⟩ := hm
  go_enter Tryz.func87, Tryz.ntmps87
  go_wp2_with (go_at_call 29; refine (within_any _ _ _ _).mono ?_; rintro e w' ⟨rfl, rfl⟩)
  go_loopw [40] (fun i wr => ∃ k : Nat, k ≤ p.edges.length ∧ i = .int .i64 k ∧ Hid (∀ j (hj : j < p.edges.length), j < k → edgeIn p.tasks p.edges[j] = true) ∧ Below (planBox 81 p (.slice A p.edges.length c) w).heap.size (planBox 81 p (.slice A p.edges.length c) w) wr) (fun i _ => p.edges.length - (intOf i).toNat)
  case atStart => exact ⟨0, Nat.zero_le _, rfl, fun j hj h0 => absurd h0 (by omega), Below.refl _ _⟩
  case round =>
    obtain ⟨k, hk, rfl, hok, hb⟩ := hrel
    obtain ⟨x0, x1, x2, x3, x4, hs, hbw⟩ := planBox_cells hb
    have hs1 : w.heap.size < wr.heap.size := by omega
    by_cases hlt : k < p.edges.length
    · obtain ⟨b, o, rfl, hbb, c0, c1⟩ := (h.below hbw).edge hlt
      have hba := hb.alloc hb.size (.cells #[.int .i64 p.edges[k].fr, .int .i64 p.edges[k].to] 140)
      have hbwa := hbw.alloc hbw.size (.cells #[.int .i64 p.edges[k].fr, .int .i64 p.edges[k].to] 140)
      have bad : edgeIn p.tasks p.edges[k] = false → Hid (planFault p = 2) := fun hf => planFault_edge Hm.out (fun hin => by
        rw [hin _ (List.getElem_mem hlt)] at hf; cases hf)
      cases g1 : inB p.edges[k].fr 0 (p.tasks - 1)
      · have H := bad (by simp [edgeIn, g1])
        clear bad
        go_wp2_with (go_at_call 29; refine (within_any _ _ _ _).mono ?_; rintro e w' ⟨rfl, rfl⟩)
        go_ret
        exact ⟨ret_int H.out.symm, hbwa⟩
      cases g2 : inB p.edges[k].to 0 (p.tasks - 1)
      · have H := bad (by simp [edgeIn, g2])
        clear bad
        go_wp2_with (go_at_call 29; refine (within_any _ _ _ _).mono ?_; rintro e w' ⟨rfl, rfl⟩)
        go_ret
        exact ⟨ret_int H.out.symm, hbwa⟩
      · have S : Hid (∀ j (hj : j < p.edges.length), j < k + 1 → edgeIn p.tasks p.edges[j] = true) := by
          intro j hj hjk
          by_cases e : j = k
          · subst e; simp [edgeIn, g1, g2]
          · exact hok.out j hj (by omega)
        clear bad
        go_wp2_with (go_at_call 29; refine (within_any _ _ _ _).mono ?_; rintro e w' ⟨rfl, rfl⟩)
        exact ⟨⟨k + 1, by omega, by go_num, S, hba⟩, by simp [intOf]; omega⟩
    · have hin : Hid (edgesIn p) := fun e he => by
        obtain ⟨j, hj, rfl⟩ := List.getElem_of_mem he
        exact hok.out j hj (by omega)
      clear hok hk
      go_wp2
      go_loopw [64] (fun i wr => ∃ k : Nat, k ≤ p.edges.length ∧ i = .int .i64 k ∧ Hid ((p.edges.take k).Nodup) ∧ Below (planBox 81 p (.slice A p.edges.length c) w).heap.size (planBox 81 p (.slice A p.edges.length c) w) wr) (fun i _ => p.edges.length - (intOf i).toNat)
      case atStart => exact ⟨0, Nat.zero_le _, rfl, by show (p.edges.take 0).Nodup; simp, hb⟩
      case round =>
        clear hb x0 x1 x2 x3 x4 hs hbw hs1
        obtain ⟨k, hk, rfl, hok, hb⟩ := hrel
        obtain ⟨x0, x1, x2, x3, x4, hs, hbw⟩ := planBox_cells hb
        have hs1 : w.heap.size < wr.heap.size := by omega
        have hkc : k ≤ c := by omega
        by_cases hlt : k < p.edges.length
        · obtain ⟨b, o, rfl, hbb, c0, c1⟩ := (h.below hbw).edge hlt
          have hba := hb.alloc hb.size (.cells #[.int .i64 p.edges[k].fr, .int .i64 p.edges[k].to] 140)
          have hbwa := hbw.alloc hbw.size (.cells #[.int .i64 p.edges[k].fr, .int .i64 p.edges[k].to] 140)
          have n0 : (wr.alloc (.cells #[.int .i64 p.edges[k].fr, .int .i64 p.edges[k].to] 140)).cell? ⟨wr.heap.size, 0, none⟩ = some (.int .i64 p.edges[k].fr) := by go_simp
          have n1 : (wr.alloc (.cells #[.int .i64 p.edges[k].fr, .int .i64 p.edges[k].to] 140)).cell? ⟨wr.heap.size, 1, none⟩ = some (.int .i64 p.edges[k].to) := by go_simp
          have x4' : (wr.alloc (.cells #[.int .i64 p.edges[k].fr, .int .i64 p.edges[k].to] 140)).cell? ⟨w.heap.size, 4, none⟩ = some (.slice (some ⟨b, o, none⟩) p.edges.length c) := by
            rw [World.cell?_alloc_lt _ _ _ (by simp; omega)]; exact x4
          have z1 : wr.heap.size < (wr.alloc (.cells #[.int .i64 p.edges[k].fr, .int .i64 p.edges[k].to] 140)).heap.size := by simp
          have z2 : w.heap.size < (wr.alloc (.cells #[.int .i64 p.edges[k].fr, .int .i64 p.edges[k].to] 140)).heap.size := by simp; omega
          have hrd := (Rd.take (k := k) (c' := c) (h.below hbw) (by omega) hkc)
          have hbase : Below w.heap.size w (wr.alloc (.cells #[.int .i64 p.edges[k].fr, .int .i64 p.edges[k].to] 140)) := hbwa
          have hrd2 : Rd edgeE (wr.alloc (.cells #[.int .i64 p.edges[k].fr, .int .i64 p.edges[k].to] 140)) w.heap.size (.slice (some ⟨b, o, none⟩) k c) (p.edges.take k) := Rd.take (h.below hbase) (by omega) c hkc
          have hlt2 : (p.edges.take k).length ≤ 2000000 := by simp; omega
          clear hrd
          by_cases hmem : p.edges[k] ∈ p.edges.take k
          · have H : Hid (planFault p = 3) := planFault_twice Hm.out hin.out (fun hnd => by
              have h1 : (p.edges.take (k + 1)).Nodup := hnd.sublist (List.take_sublist _ _)
              rw [take_snoc _ k hlt] at h1
              exact (nodup_snoc.1 h1).2 hmem)
            have hmb : decide (p.edges[k] ∈ p.edges.take k) = true := by simpa using hmem
            clear hmem
            go_wp2
            generalize wr.alloc (.cells #[.int .i64 p.edges[k].fr, .int .i64 p.edges[k].to] 140) = W2 at *
            have hlc := later_cell W2
            refine wp_region_pure (by kernel_rfl) (by kernel_rfl) ?_
            repeat (go_big_quiet_step ((go_at_call 111; rename_i x; have h1 := containsEdge_any _ (p.edges.take k) p.edges[k] x.1 hlt2 ((hrd2.below (x.2.mono hbase.size)).more (Nat.le_trans hbase.size x.2.size)); rw [hmb] at h1; exact pure_of h1)))
            refine wpQuiet_nil ?_
            rintro _ ⟨⟨w1, hb1⟩, rfl⟩
            clear hlc
            go_wp2
            go_ret
            exact ⟨ret_int H.out.symm, bnext hbase hb1⟩
          · have S : Hid ((p.edges.take (k + 1)).Nodup) := by
              show (p.edges.take (k + 1)).Nodup
              rw [take_snoc _ k hlt]
              exact nodup_snoc.2 ⟨hok.out, hmem⟩
            have hmb : decide (p.edges[k] ∈ p.edges.take k) = false := by simpa using hmem
            clear hmem
            go_wp2
            generalize wr.alloc (.cells #[.int .i64 p.edges[k].fr, .int .i64 p.edges[k].to] 140) = W2 at *
            have hlc := later_cell W2
            refine wp_region_pure (by kernel_rfl) (by kernel_rfl) ?_
            repeat (go_big_quiet_step ((go_at_call 111; rename_i x; have h1 := containsEdge_any _ (p.edges.take k) p.edges[k] x.1 hlt2 ((hrd2.below (x.2.mono hbase.size)).more (Nat.le_trans hbase.size x.2.size)); rw [hmb] at h1; exact pure_of h1)))
            refine wpQuiet_nil ?_
            rintro _ ⟨⟨w1, hb1⟩, rfl⟩
            clear hlc
            go_wp2
            exact ⟨⟨k + 1, by omega, by go_num, S, hba.trans (hb1.mono hba.size)⟩, by simp [intOf]; omega⟩
        · have hnd : Hid p.edges.Nodup := by
            have h1 := hok.out
            rw [List.take_of_length_le (by omega)] at h1
            exact h1
          clear hok hk hkc
          go_wp2_with fail
          refine (waits_any p (.slice A p.edges.length c) _ Hm.out hin.out ((h.below hbw).more hbw.size)).mono ?_
          rintro e w1 ⟨v1, rfl, o1, hb1⟩
          have hbw1 := bnext hbw hb1
          obtain ⟨T, hT⟩ := Int.eq_ofNat_of_zero_le (show 0 ≤ p.tasks by omega)
          have HT := Lib.hid hT
          have hTT : p.tasks.toNat = T := by omega
          rw [hTT] at o1
          have hT1 : 1 ≤ T := by omega
          have hT2 : T ≤ 12 := by omega
          have hiff := Pg.wrounds_iff (esOf p) T (by rw [← hTT]; exact (esOf_lt hin.out).1) (by rw [← hTT]; exact (esOf_lt hin.out).2)
          have hOl : (Pg.wrounds (esOf p) T (List.replicate T 0)).length = T := by rw [Pg.wrounds_length, List.length_replicate]
          have hcy := Lib.hid (show cyclic p ↔ ∃ t, t < T ∧ Pg.Reach (esOf p) t t by unfold cyclic; rw [hTT])
          have hsm : ∀ x ∈ Pg.wrounds (esOf p) T (List.replicate T 0), x < 2 ^ T := Pg.wrounds_lt T _ _ (by rw [← hTT]; exact (esOf_lt hin.out).2) (fun x hx => by
            have := List.eq_of_mem_replicate hx
            subst this
            exact Nat.two_pow_pos T) T
          generalize Pg.wrounds (esOf p) T (List.replicate T 0) = O at *
          have Hiff := Lib.hid hiff
          have HOl := Lib.hid hOl
          clear hiff hT hTT
          rcases o1.form with ⟨_, e0⟩ | ⟨g, cap, rfl, _, hgl, _, _, _, _⟩
          · exfalso
            rw [e0] at hOl
            simp at hOl
            omega
          rw [hOl] at o1
          rw [hOl]
          clear hOl
          go_wp2
          go_loop [79] (fun i => ∃ k : Nat, k ≤ T ∧ i = .int .i64 k ∧ Hid (∀ j, j < k → (O.getD j 0).testBit j = false)) (fun i => T - (intOf i).toNat)
          case atStart => exact ⟨0, Nat.zero_le _, rfl, fun j hj => absurd hj (by omega)⟩
          case round =>
            obtain ⟨k, hk, rfl, hok⟩ := hrel
            by_cases hlt2 : k < T
            · have ck := o1.nat (k := k) (by rw [HOl.out]; exact hlt2)
              have hkO : k < O.length := by rw [HOl.out]; exact hlt2
              have hx : O[k] < 9223372036854775808 := Nat.lt_of_lt_of_le (hsm _ (List.getElem_mem hkO)) (Nat.le_trans (Nat.pow_le_pow_right (by omega) hT2) (by decide))
              have hbt := bit_test O[k] k hx
              have hg : Hid (O.getD k 0 = O[k]) := by unfold Hid; rw [List.getD_eq_getElem?_getD, List.getElem?_eq_getElem hkO]; rfl
              cases hb2 : O[k].testBit k
              · rw [hb2] at hbt
                have S : Hid (∀ j, j < k + 1 → (O.getD j 0).testBit j = false) := by
                  intro j hj
                  by_cases e : j = k
                  · subst e; rw [hg.out]; exact hb2
                  · exact hok.out j (by omega)
                go_wp2
                exact ⟨⟨k + 1, by omega, by go_num, S⟩, by simp [intOf]; omega⟩
              · rw [hb2] at hbt
                have H : Hid (planFault p = 4) := planFault_cycle Hm.out hin.out hnd.out (hcy.out.2 ⟨k, hlt2, (Hiff.out k k).1 (by rw [hg.out]; exact hb2)⟩)
                go_wp2
                go_ret
                exact ⟨ret_int H.out.symm, hbw1⟩
            · have H : Hid (planFault p = 0) := planFault_zero.2 ⟨Hm.out, hin.out, hnd.out, fun hc => by
                obtain ⟨t, ht, hr⟩ := hcy.out.1 hc
                have h1 := (Hiff.out t t).2 hr
                rw [hok.out t (by omega)] at h1
                cases h1⟩
              go_wp2
              go_ret
              exact ⟨ret_int H.out.symm, hbw1⟩

theorem implPlanFault_any (p : Plan) (ve : Value) (w : World) (hl : p.edges.length ≤ 2000000) (h : Rd edgeE w w.heap.size ve p.edges) :
    Calls Tryz.prog 87 #[planV p ve] w fun e w' => e = .returned (.int .i64 (planFault p)) ∧ Below w.heap.size w w' := by
  cases hm : manyOk p
  · exact implPlanFault_many p ve w hl h hm
  · exact implPlanFault_ok p ve w h hm
end Go.Proofs.YtjobmbjadpldfaaGreat
end
section
namespace Go.Proofs.YtjobmbjadpldfaaGreat
open Go.RowKit
set_option maxRecDepth 100000
set_option maxHeartbeats 1000000

theorem implCopy_any (p : Plan) (ve : Value) (w : World) (hl : p.edges.length ≤ 2000000) (h : Rd edgeE w w.heap.size ve p.edges) :
    Calls Tryz.prog 100 #[planV p ve] w (ToPlanPost p w) := by
  obtain ⟨A, c, rfl, -⟩ := id h
  obtain ⟨i0, hi0, hz0, hz1, hz2⟩ := info_parts edge_info
  have hbx : ∀ W, Below w.heap.size w W → Rd edgeE W W.heap.size (.slice A p.edges.length c) p.edges := fun W hW => (h.below hW).more hW.size
  unfold planV
  go_enter Tryz.func100, Tryz.ntmps100
  go_wp2_with (at_builtin; refine wpList_push_all _ edgeE (by decide) rfl (.const (.slice none 0 0)) (.tmp 4) rfl Tryz.underlying79 hi0 hz0 hz1 hz2 rfl (v := .slice none 0 0) (l := []) rfl (Ow.nil edgeE 140 _ (w.heap.size + 2)) rfl (hbx _ (((Below.refl _ _).alloc (by simp <;> omega) _).alloc (by simp <;> omega) _)) (by simp) (by omega) (by decide) (by simp) ?_; intro v1 w1 o1 g1 _; rw [List.nil_append] at o1; obtain ⟨A1, c1, rfl, -⟩ := id (Rd.of_own o1); have hb1 := (Below.refl (w.heap.size + 2) _).grown g1 (by simp <;> omega) (fun k hk => by simp [Value.ownBlock] at hk <;> omega); clear g1; have q1 : ∀ b o, b < w.heap.size + 2 → w1.cell? ⟨b, o, none⟩ = _ := fun b o h => hb1.cell (p := ⟨b, o, none⟩) h; have q2 : ∀ b o, b < w.heap.size + 2 → w1.frozen? ⟨b, o, none⟩ = _ := fun b o h => hb1.frozen (p := ⟨b, o, none⟩) h; have hs := hb1.size; simp only [World.size_alloc] at hs)
  have hW : Below w.heap.size w w1 := Below.trans (((Below.refl _ _).alloc (by simp <;> omega) _).alloc (by simp <;> omega) _) (hb1.mono (by omega))
  refine bodyPost_ret (v := planV p (.slice A1 p.edges.length c1)) ?_ rfl ?_
  · simp [planV, results, Tryz.results100, go_sem, q1]
  · refine ⟨.slice A1 p.edges.length c1, rfl, ?_, ?_⟩
    · refine Ow.more (base := w.heap.size + 2) ?_ (by omega)
      unfold Ow at o1 ⊢
      repeat (first | (with_reducible exact o1) | refine ownsRow_setCell_below ?_ (by simp <;> omega) _)
    · repeat (first | (with_reducible exact hW) | refine Below.setCell ?_ (by simp <;> omega) _)

theorem specCopy_any (p : Plan) (ve : Value) (w : World) (hl : p.edges.length ≤ 2000000) (h : Rd edgeE w w.heap.size ve p.edges) :
    Calls Tryz.prog 96 #[planV p ve] w (ToPlanPost p w) := by
  obtain ⟨A, c, rfl, -⟩ := id h
  obtain ⟨i0, hi0, hz0, hz1, hz2⟩ := info_parts edge_info
  have hbx : ∀ W, Below w.heap.size w W → Rd edgeE W W.heap.size (.slice A p.edges.length c) p.edges := fun W hW => (h.below hW).more hW.size
  unfold planV
  go_enter Tryz.func96, Tryz.ntmps96
  go_wp2_with (at_builtin; refine wpList_push_all _ edgeE (by decide) rfl (.tmp 3) (.tmp 5) rfl Tryz.underlying79 hi0 hz0 hz1 hz2 rfl (v := .slice (some ⟨w.heap.size + 1 + 1, 0, none⟩) 0 0) (l := []) rfl ((Ow.empty edgeE 140 _ (by simp)).more (base' := w.heap.size + 2) (by omega)) rfl (hbx _ ((((Below.refl _ _).alloc (by simp <;> omega) _).alloc (by simp <;> omega) _).alloc (by simp <;> omega) _)) (by simp) (by omega) (by decide) (by simp) ?_; intro v1 w1 o1 g1 _; rw [List.nil_append] at o1; obtain ⟨A1, c1, rfl, -⟩ := id (Rd.of_own o1); have hb1 := ((Below.refl (w.heap.size + 2) _).alloc (by simp <;> omega) _).grown g1 (by simp <;> omega) (fun k hk => by simp [Value.ownBlock] at hk <;> omega); clear g1; have q1 : ∀ b o, b < w.heap.size + 2 → w1.cell? ⟨b, o, none⟩ = _ := fun b o h => hb1.cell (p := ⟨b, o, none⟩) h; have q2 : ∀ b o, b < w.heap.size + 2 → w1.frozen? ⟨b, o, none⟩ = _ := fun b o h => hb1.frozen (p := ⟨b, o, none⟩) h; have hs := hb1.size; simp only [World.size_alloc] at hs)
  have hW : Below w.heap.size w w1 := Below.trans (((Below.refl _ _).alloc (by simp <;> omega) _).alloc (by simp <;> omega) _) (hb1.mono (by omega))
  refine bodyPost_ret (v := planV p (.slice A1 p.edges.length c1)) ?_ rfl ?_
  · simp [planV, results, Tryz.results96, go_sem, q1]
  · refine ⟨.slice A1 p.edges.length c1, rfl, ?_, ?_⟩
    · refine Ow.more (base := w.heap.size + 2) ?_ (by omega)
      unfold Ow at o1 ⊢
      repeat (first | (with_reducible exact o1) | refine ownsRow_setCell_below ?_ (by simp <;> omega) _)
    · repeat (first | (with_reducible exact hW) | refine Below.setCell ?_ (by simp <;> omega) _)
end Go.Proofs.YtjobmbjadpldfaaGreat
end
section
namespace Go.Proofs.YtjobmbjadpldfaaGreat
open Go.RowKit
set_option maxRecDepth 100000
set_option maxHeartbeats 2000000

theorem l06Many_any (p : Plan) (ve : Value) (w : World) (hl : p.edges.length ≤ 2000000) (h : Rd edgeE w w.heap.size ve p.edges) :
    Calls Tryz.prog 108 #[planV p ve] w fun e w' => e = .returned (.bool (!manyOk p)) ∧ Below w.heap.size w w' := by
  obtain ⟨A, c, rfl, -⟩ := id h
  unfold planV
  cases h1 : inB p.tasks 1 12
  · have H := Lib.hid (show (!manyOk p) = true by simp [manyOk, h1])
    go_enter Tryz.func108, Tryz.ntmps108
    go_wp2_with (go_at_call 26; refine (l01In_any _ _ _ _).mono ?_; rintro e w' ⟨rfl, rfl⟩)
    go_ret
    exact ⟨ret_bool H.out.symm, (Below.refl _ _).alloc (Nat.le_refl _) _⟩
  by_cases h2 : 30 < p.edges.length
  · have H := Lib.hid (show (!manyOk p) = true by simp [manyOk, show ¬ p.edges.length ≤ 30 by omega])
    have h2' : decide ((30 : Int) < (p.edges.length : Int)) = true := by simp; omega
    have h2'' : (30 : Int) < (p.edges.length : Int) := by omega
    go_enter Tryz.func108, Tryz.ntmps108
    go_wp2_with (go_at_call 26; refine (l01In_any _ _ _ _).mono ?_; rintro e w' ⟨rfl, rfl⟩)
    go_ret
    exact ⟨ret_bool H.out.symm, (Below.refl _ _).alloc (Nat.le_refl _) _⟩
  have h2' : decide ((30 : Int) < (p.edges.length : Int)) = false := by simp; omega
  have h2'' : ¬ (30 : Int) < (p.edges.length : Int) := by omega
  cases h3 : inB p.prio 0 9
  · have H := Lib.hid (show (!manyOk p) = true by simp [manyOk, h3])
    go_enter Tryz.func108, Tryz.ntmps108
    go_wp2_with (go_at_call 26; refine (l01In_any _ _ _ _).mono ?_; rintro e w' ⟨rfl, rfl⟩)
    go_ret
    exact ⟨ret_bool H.out.symm, (Below.refl _ _).alloc (Nat.le_refl _) _⟩
  cases h4 : inB p.most 1 5
  · have H := Lib.hid (show (!manyOk p) = true by simp [manyOk, h4])
    go_enter Tryz.func108, Tryz.ntmps108
    go_wp2_with (go_at_call 26; refine (l01In_any _ _ _ _).mono ?_; rintro e w' ⟨rfl, rfl⟩)
    go_ret
    exact ⟨ret_bool H.out.symm, (Below.refl _ _).alloc (Nat.le_refl _) _⟩
  have H : Hid ((!inB p.wait 1 20) = !manyOk p) := by
    show (!inB p.wait 1 20) = !manyOk p
    simp [manyOk, h1, h3, h4, show p.edges.length ≤ 30 by omega]
  go_enter Tryz.func108, Tryz.ntmps108
  go_wp2_with (go_at_call 26; refine (l01In_any _ _ _ _).mono ?_; rintro e w' ⟨rfl, rfl⟩)
  go_ret
  exact ⟨ret_bool H.out, (Below.refl _ _).alloc (Nat.le_refl _) _⟩

theorem specPlanFault_any (p : Plan) (ve : Value) (w : World) (hl : p.edges.length ≤ 2000000) (h : Rd edgeE w w.heap.size ve p.edges) :
    Calls Tryz.prog 80 #[planV p ve] w fun e w' => e = .returned (.int .i64 (planFault p)) ∧ Below w.heap.size w w' := by
  obtain ⟨A, c, rfl, -⟩ := id h
  have hb0 := planBox_below 81 p (.slice A p.edges.length c) w
  cases hm : manyOk p
  · have H := Lib.hid (planFault_many hm)
    unfold planV
    go_enter Tryz.func80, Tryz.ntmps80
    go_wp2_with fail
    refine (l06Many_any p (.slice A p.edges.length c) _ hl ((h.below hb0).more hb0.size)).mono ?_
    rintro e w1 ⟨rfl, hb1⟩
    rw [hm]
    go_wp2
    go_ret
    exact ⟨ret_int H.out.symm, bnext hb0 hb1⟩
  · have Hm := Lib.hid hm
    obtain ⟨t1, t2⟩ := manyOk_tasks hm
    have hlen := manyOk_edges hm
    unfold planV
    go_enter Tryz.func80, Tryz.ntmps80
    go_wp2_with fail
    refine (l06Many_any p (.slice A p.edges.length c) _ hl ((h.below hb0).more hb0.size)).mono ?_
    rintro e w1 ⟨rfl, hb1⟩
    rw [hm]
    clear hm
    go_wp2
    go_loopw [3] (fun i wr => ∃ k : Nat, k ≤ p.edges.length ∧ i = .int .i64 k ∧ Hid (∀ j (hj : j < p.edges.length), j < k → edgeIn p.tasks p.edges[j] = true) ∧ Below (planBox 81 p (.slice A p.edges.length c) w).heap.size (planBox 81 p (.slice A p.edges.length c) w) wr) (fun i _ => p.edges.length - (intOf i).toNat)
    case atStart => exact ⟨0, Nat.zero_le _, rfl, fun j hj h0 => absurd h0 (by omega), hb1⟩
    case round =>
      obtain ⟨k, hk, rfl, hok, hb⟩ := hrel
      obtain ⟨x0, x1, x2, x3, x4, hs, hbw⟩ := planBox_cells hb
      by_cases hlt : k < p.edges.length
      · obtain ⟨b, o, rfl, hbb, c0, c1⟩ := (h.below hbw).edge hlt
        have hltI : (k : Int) < (p.edges.length : Int) := by omega
        have hlc := later_cell wr
        have hs1 : w.heap.size < wr.heap.size := by omega
        have hbb1 : b < wr.heap.size := by omega
        have e1 : IntKind.i64.wrap (p.tasks - 1) = p.tasks - 1 := IntWalk.i64_in _ (by omega)
        have bad : edgeIn p.tasks p.edges[k] = false → Hid (planFault p = 2) := fun hf => planFault_edge Hm.out (fun hin => by
          rw [hin _ (List.getElem_mem hlt)] at hf; cases hf)
        cases g1 : inB p.edges[k].fr 0 (p.tasks - 1)
        · have H := bad (by simp [edgeIn, g1])
          clear bad
          go_wp2
          refine wp_region_pure (by kernel_rfl) (by kernel_rfl) ?_
          repeat (go_big_quiet_step ((go_at_call 26; exact pure_same (fun u => l01In_any _ _ _ u.1))))
          refine wpQuiet_nil ?_
          rintro _ ⟨⟨w2, hb2⟩, rfl⟩
          clear hlc
          go_wp2
          go_ret
          exact ⟨ret_int H.out.symm, bnext hbw hb2⟩
        cases g2 : inB p.edges[k].to 0 (p.tasks - 1)
        · have H := bad (by simp [edgeIn, g2])
          clear bad
          go_wp2
          refine wp_region_pure (by kernel_rfl) (by kernel_rfl) ?_
          repeat (go_big_quiet_step ((go_at_call 26; exact pure_same (fun u => l01In_any _ _ _ u.1))))
          refine wpQuiet_nil ?_
          rintro _ ⟨⟨w2, hb2⟩, rfl⟩
          clear hlc
          go_wp2
          go_ret
          exact ⟨ret_int H.out.symm, bnext hbw hb2⟩
        · have S : Hid (∀ j (hj : j < p.edges.length), j < k + 1 → edgeIn p.tasks p.edges[j] = true) := by
            intro j hj hjk
            by_cases e : j = k
            · subst e; simp [edgeIn, g1, g2]
            · exact hok.out j hj (by omega)
          clear bad
          go_wp2
          refine wp_region_pure (by kernel_rfl) (by kernel_rfl) ?_
          repeat (go_big_quiet_step ((go_at_call 26; exact pure_same (fun u => l01In_any _ _ _ u.1))))
          refine wpQuiet_nil ?_
          rintro _ ⟨⟨w2, hb2⟩, rfl⟩
          clear hlc
          go_wp2
          exact ⟨⟨k + 1, by omega, by go_num, S, hb.trans (hb2.mono hb.size)⟩, by simp [intOf]; omega⟩
      · have hin : Hid (edgesIn p) := fun e he => by
          obtain ⟨j, hj, rfl⟩ := List.getElem_of_mem he
          exact hok.out j hj (by omega)
        have hltI : ¬ (k : Int) < (p.edges.length : Int) := by omega
        have hs1 : w.heap.size < wr.heap.size := by omega
        clear hok hk hb1
        go_wp2
        clear hlt hltI
        go_loopw [4] (fun i wr => ∃ k : Nat, k ≤ p.edges.length ∧ i = .int .i64 k ∧ Hid ((p.edges.take k).Nodup) ∧ Below (planBox 81 p (.slice A p.edges.length c) w).heap.size (planBox 81 p (.slice A p.edges.length c) w) wr) (fun i _ => p.edges.length - (intOf i).toNat)
        case atStart => exact ⟨0, Nat.zero_le _, rfl, by show (p.edges.take 0).Nodup; simp, hb⟩
        case round =>
          clear hb x0 x1 x2 x3 x4 hs hbw hs1
          obtain ⟨k, hk, rfl, hok, hb⟩ := hrel
          obtain ⟨x0, x1, x2, x3, x4, hs, hbw⟩ := planBox_cells hb
          by_cases hlt : k < p.edges.length
          · have hltI : (k : Int) < (p.edges.length : Int) := by omega
            obtain ⟨b, o, rfl, -, -, -⟩ := (h.below hbw).edge hlt
            obtain ⟨wo, rfl⟩ : ∃ wo : World, wo = wr := ⟨_, rfl⟩
            go_wp2
            go_loopw [5] (fun i wr => ∃ m : Nat, m ≤ k ∧ i = .int .i64 m ∧ Hid (∀ j (hj : j < p.edges.length), j < m → ¬ p.edges[k] = p.edges[j]) ∧ Below (planBox 81 p (.slice (some ⟨b, o, none⟩) p.edges.length c) w).heap.size (planBox 81 p (.slice (some ⟨b, o, none⟩) p.edges.length c) w) wr) (fun i _ => k - (intOf i).toNat)
            case atStart => exact ⟨0, Nat.zero_le _, rfl, fun j hj h0 => absurd h0 (by omega), hb⟩
            case round =>
              clear hb x0 x1 x2 x3 x4 hs hbw
              obtain ⟨m, hm, rfl, hno, hb⟩ := hrel
              obtain ⟨x0, x1, x2, x3, x4, hs, hbw⟩ := planBox_cells hb
              by_cases hmk : m < k
              · have hmI : (m : Int) < (k : Int) := by omega
                have hml : m < p.edges.length := by omega
                have hmlI : (m : Int) < (p.edges.length : Int) := by omega
                obtain ⟨b1, o1, he1, -, c0, c1⟩ := (h.below hbw).edge hlt
                obtain ⟨b2, o2, he2, -, d0, d1⟩ := (h.below hbw).edge hml
                simp only [Option.some.injEq, Addr.mk.injEq, and_true] at he1 he2
                obtain ⟨rfl, rfl⟩ := he1
                obtain ⟨rfl, rfl⟩ := he2
                by_cases hx : p.edges[k] = p.edges[m]
                · have H : Hid (planFault p = 3) := planFault_twice Hm.out hin.out (fun hnd => by
                    have h1 : (p.edges.take (k + 1)).Nodup := hnd.sublist (List.take_sublist _ _)
                    rw [take_snoc _ k hlt] at h1
                    refine (nodup_snoc.1 h1).2 ?_
                    rw [hx]
                    have : (p.edges.take k)[m]'(by simp; omega) = p.edges[m] := List.getElem_take
                    rw [← this]
                    exact List.getElem_mem _)
                  have e0 : p.edges[m].fr = p.edges[k].fr := by rw [hx]
                  have e1 : p.edges[m].to = p.edges[k].to := by rw [hx]
                  rw [e0] at d0
                  rw [e1] at d1
                  clear hx e0 e1
                  go_wp2
                  go_quiet (fail)
                  go_wp2
                  go_ret
                  exact ⟨ret_int H.out.symm, bdrewN hbw _⟩
                · have S : Hid (∀ j (hj : j < p.edges.length), j < m + 1 → ¬ p.edges[k] = p.edges[j]) := by
                    intro j hj hjm
                    by_cases e : j = m
                    · subst e; exact hx
                    · exact hno.out j hj (by omega)
                  have hx' : ¬ (p.edges[k].fr = p.edges[m].fr ∧ p.edges[k].to = p.edges[m].to) := fun ⟨e0, e1⟩ => hx (by cases hlk : p.edges[k]; cases hlm : p.edges[m]; simp_all)
                  clear hx
                  by_cases e0 : p.edges[k].fr = p.edges[m].fr
                  · have e1 : ¬ p.edges[k].to = p.edges[m].to := fun e => hx' ⟨e0, e⟩
                    have e1' : (p.edges[k].to == p.edges[m].to) = false := beq_eq_false_iff_ne.2 e1
                    rw [← e0] at d0
                    clear hx' e0
                    go_wp2
                    go_quiet (fail)
                    go_wp2
                    exact ⟨⟨m + 1, by omega, by go_num, S, bdrewN hb _⟩, by simp [intOf]; omega⟩
                  · have e0' : (p.edges[k].fr == p.edges[m].fr) = false := beq_eq_false_iff_ne.2 e0
                    clear hx'
                    go_wp2
                    go_quiet (fail)
                    go_wp2
                    exact ⟨⟨m + 1, by omega, by go_num, S, bdrewN hb _⟩, by simp [intOf]; omega⟩
              · have hmI : ¬ (m : Int) < (k : Int) := by omega
                have S : Hid ((p.edges.take (k + 1)).Nodup) := by
                  show (p.edges.take (k + 1)).Nodup
                  rw [take_snoc _ k hlt]
                  refine nodup_snoc.2 ⟨hok.out, fun hmem => ?_⟩
                  obtain ⟨j, hj, hje⟩ := List.getElem_of_mem hmem
                  rw [List.getElem_take] at hje
                  simp at hj
                  exact hno.out j (by omega) (by omega) hje.symm
                go_wp2
                exact ⟨⟨k + 1, by omega, by go_num, S, hb⟩, by simp [intOf]; omega⟩
          · have hltI : ¬ (k : Int) < (p.edges.length : Int) := by omega
            have hnd : Hid p.edges.Nodup := by
              have h1 := hok.out
              rw [List.take_of_length_le (by omega)] at h1
              exact h1
            clear hok hk
            go_wp2
            clear hlt hltI
            go_loopw [6] (fun i wr => ∃ k : Nat, (k : Int) ≤ p.tasks ∧ i = .int .i64 k ∧ Hid (∀ j, j < k → ¬ Pg.Reach (esOf p) j j) ∧ Below (planBox 81 p (.slice A p.edges.length c) w).heap.size (planBox 81 p (.slice A p.edges.length c) w) wr) (fun i _ => p.tasks.toNat - (intOf i).toNat)
            case atStart => exact ⟨0, by omega, rfl, fun j hj => absurd hj (by omega), hb⟩
            case round =>
              clear hb x0 x1 x2 x3 x4 hs hbw
              obtain ⟨k, hk, rfl, hok, hb⟩ := hrel
              obtain ⟨x0, x1, x2, x3, x4, hs, hbw⟩ := planBox_cells hb
              by_cases hlt : (k : Int) < p.tasks
              · go_wp2_with fail
                refine (from_any p (.slice A p.edges.length c) k _ Hm.out hin.out hlt ((h.below hbw).more hbw.size)).mono ?_
                rintro e w2 ⟨v, O, rfl, o1, hb2, hOl, hiff⟩
                have hkO : k < O.length := by omega
                have hlen0 := Lib.hid hOl
                rcases o1.form with ⟨_, e0⟩ | ⟨g, cap, rfl, _, hgl, _, _, _, _⟩
                · exfalso
                  subst e0
                  simp at hkO
                have ck := o1.bool hkO
                have hg : Hid (O.getD k false = O[k]) := by unfold Hid; rw [List.getD_eq_getElem?_getD, List.getElem?_eq_getElem hkO]; rfl
                have Hiff := Lib.hid hiff
                have hkOI : (k : Int) < (O.length : Int) := by omega
                clear hOl hiff
                cases hO : O[k]
                · rw [hO] at ck
                  have S : Hid (∀ j, j < k + 1 → ¬ Pg.Reach (esOf p) j j) := by
                    intro j hj
                    by_cases e : j = k
                    · subst e
                      intro hr
                      have := (Hiff.out j).2 hr
                      rw [hg.out, hO] at this
                      cases this
                    · exact hok.out j (by omega)
                  clear hO
                  go_wp2
                  exact ⟨⟨k + 1, by omega, by go_num, S, hb.trans (hb2.mono hb.size)⟩, by simp [intOf]; omega⟩
                · rw [hO] at ck
                  have H : Hid (planFault p = 4) := planFault_cycle Hm.out hin.out hnd.out ⟨k, by omega, (Hiff.out k).1 (by rw [hg.out, hO])⟩
                  clear hO
                  go_wp2
                  go_ret
                  exact ⟨ret_int H.out.symm, bnext hbw hb2⟩
              · have H : Hid (planFault p = 0) := planFault_zero.2 ⟨Hm.out, hin.out, hnd.out, fun ⟨t, ht, hr⟩ => hok.out t (by omega) hr⟩
                go_wp2
                go_ret
                exact ⟨ret_int H.out.symm, hbw⟩
end Go.Proofs.YtjobmbjadpldfaaGreat
end
