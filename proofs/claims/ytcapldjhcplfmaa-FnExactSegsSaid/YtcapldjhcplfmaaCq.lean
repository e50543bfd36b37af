/-
  Copies of lists of parts. Written by program (cs.py).
-/
import Derived.Test.YtcapldjhcplfmaaCs
import Derived.Test.YtcapldjhcplfmaaHl
namespace Go.Proofs.Ytcapldjhcplfmaa
open Go.RowKit
set_option maxRecDepth 100000
set_option maxHeartbeats 1000000
set_option linter.unusedVariables false
set_option linter.unusedSimpArgs false
theorem DBox.far {b : Nat} {cs : List Value} {w w' : World} {row : Option Nat} (h : DBox b cs w) (hg : w.grownBy w' row) (hne : some b ≠ row) : DBox b cs w' :=
  h.keep hg.size (fun j => hg.cell_far ⟨b, j, none⟩ h.lt hne) (fun j => hg.frozen_far ⟨b, j, none⟩ h.lt hne)

theorem implCopySegs_own (l : List Seg) (s : Sl) (w : World) (hl : cntL cntSeg l ≤ 2000000) (h : RdL segD w w.heap.size s.v l) :
    Calls Try.prog 119 #[.slice s.a s.n s.c] w (OwnPost (Dt.list segD) slV l w) := by
  obtain ⟨A, n, c⟩ := s
  obtain ⟨A', c', hv, -⟩ := h.form
  simp only [Sl.v, Value.slice.injEq] at hv
  obtain ⟨rfl, rfl, rfl⟩ := hv
  have hll : l.length ≤ 2000000 := Nat.le_trans (cntL_len _ _) hl
  have hcc : ∀ k (hk : k < l.length), cntSeg l[k] ≤ 2000000 := fun k hk => by have := cntL_mem (cnt := cntSeg) (List.getElem_mem hk); omega
  clear hl
  obtain ⟨i0, hi0, hz0, hz1, hz2⟩ := info_parts seg_infoD
  go_enter Try.func119, Try.ntmps119
  go_wp2
  go_loopw [3, 8] (fun t i wr => ∃ (k : Nat) (v : Value), k ≤ l.length ∧ i = .int .i64 k ∧ v = t ∧ Hid (Bls segD 126 wr w.heap.size v (l.take k)) ∧ Below w.heap.size w wr) (fun _ i _ => l.length - (intOf i).toNat)
  case atStart => exact ⟨0, _, Nat.zero_le _, rfl, rfl, ⟨[], rfl, Bld.nil _ _ _ _⟩, Below.refl _ _⟩
  case round =>
    obtain ⟨k, v, hk, rfl, rfl, hB0, hb⟩ := hrel
    by_cases hlt : k < l.length
    · obtain ⟨b, o, s', rfl, hbb, hr, c0, c1⟩ := (h.below hb).seg hlt
      have hx : ∀ W, Below wr.heap.size wr W → RdL noteD W W.heap.size s'.v l[k].notes := fun W hW => RdL.more (RdL.below (RdL.more hr hb.size) hW) hW.size
      have hcn : cntL cntNote l[k].notes ≤ 2000000 := hcc k hlt
      obtain ⟨rs, hm, hB⟩ := hB0.out
      have hrl : rs.length = k := by have := congrArg List.length hm; simpa [Nat.min_eq_left hk] using this
      have hO := hB.ow
      have hsz := hb.size
      have hne : v.ownBlock ≠ some wr.heap.size := fun e => by have := hO.within _ e; omega
      have Hrl := Lib.hid hrl
      have hrl' : rs.length ≤ 2000000 := by omega
      have hltI : (k : Int) < (l.length : Int) := by omega
      clear hrl
      have D0 := DBox.new 126 [.int .i64 l[k].fr, .slice s'.a s'.n s'.c] wr rfl
      have B0 := (Below.refl wr.heap.size wr).alloc (Nat.le_refl _) (.cells #[.int .i64 l[k].fr, .slice s'.a s'.n s'.c] 126)
      go_wp2
      generalize hW1 : wr.alloc (.cells #[.int .i64 l[k].fr, .slice s'.a s'.n s'.c] 126) = w1 at *
      clear hW1 c0 c1
      have D := D0
      have B1 := B0
      refine wp_region_last (fun w' => w'.cell? ⟨wr.heap.size, 0, none⟩ = some (.int .i64 l[k].fr) ∧ w'.cell? ⟨wr.heap.size, 1, none⟩ = some (.slice s'.a s'.n s'.c)) 9 (by kernel_rfl) ?_ (fun hHeld => ?_)
      · exact ⟨D.cell 0 _ rfl, D.cell 1 _ rfl⟩
      refine wpAnyL_take (i := 0) (oi := _) (v := ?_) rfl (by kernel_rfl) (by kernel_rfl) (by kernel_rfl) (by kernel_rfl) (fun _ _ _ h => h) hHeld (Or.inl ⟨by rfl, ?_⟩) ?_
      rotate_left
      · intro w hSw
        (try dsimp only at hSw)
        go_simp
        all_goals with_reducible rfl
      try simp only [Act.put, List.setIfInBounds_toArray, List.set_cons_zero, List.set_cons_succ]
      refine wpAnyL_take (i := 1) (oi := _) (v := ?_) rfl (by kernel_rfl) (by kernel_rfl) (by kernel_rfl) (by kernel_rfl) (fun _ _ _ h => h) hHeld (Or.inl ⟨by rfl, ?_⟩) ?_
      rotate_left
      · intro w hSw
        (try dsimp only at hSw)
        go_simp
        all_goals with_reducible rfl
      try simp only [Act.put, List.setIfInBounds_toArray, List.set_cons_zero, List.set_cons_succ]
      refine wpAnyL_take (i := 2) (oi := _) (v := ?_) rfl (by kernel_rfl) (by kernel_rfl) (by kernel_rfl) (by kernel_rfl) (fun _ _ _ h => h) hHeld (Or.inl ⟨by rfl, ?_⟩) ?_
      rotate_left
      · intro w hSw
        (try dsimp only at hSw)
        go_simp
        all_goals with_reducible rfl
      try simp only [Act.put, List.setIfInBounds_toArray, List.set_cons_zero, List.set_cons_succ]
      refine wpAnyL_take (i := 3) (oi := _) (v := ?_) rfl (by kernel_rfl) (by kernel_rfl) (by kernel_rfl) (by kernel_rfl) (fun _ _ _ h => h) hHeld (Or.inl ⟨by rfl, ?_⟩) ?_
      rotate_left
      · intro w hSw
        (try dsimp only at hSw)
        go_simp
        all_goals with_reducible rfl
      try simp only [Act.put, List.setIfInBounds_toArray, List.set_cons_zero, List.set_cons_succ]
      refine wpAnyL_take (i := 4) (oi := _) (v := ?_) rfl (by kernel_rfl) (by kernel_rfl) (by kernel_rfl) (by kernel_rfl) (fun _ _ _ h => h) hHeld (Or.inl ⟨by rfl, ?_⟩) ?_
      rotate_left
      · intro w hSw
        (try dsimp only at hSw)
        go_simp
        all_goals with_reducible rfl
      try simp only [Act.put, List.setIfInBounds_toArray, List.set_cons_zero, List.set_cons_succ]
      refine wpAnyL_one (i := 5) (o := _) rfl (by kernel_rfl) (fun K hK => ?_)
      (go_simp; refine (implCopyNotes_own l[k].notes s' _ hcn (hx _ B1.drew)).mono ?_; rintro e w2 ⟨s2, F2, rfl, o2, n2, b2⟩; (try dsimp only [slV]); have B12 := bnext ((Below.refl w1.heap.size w1).drew) b2; have B2 := bnext B1 B12; have z2 := B12.size; simp only [World.size_drew] at n2; have D2 := D.below B12; have k0 : w2.cell? ⟨wr.heap.size, 0, none⟩ = some (.int .i64 l[k].fr) := D2.cell 0 _ rfl; have k1 : w2.cell? ⟨wr.heap.size, 1, none⟩ = some (.slice s'.a s'.n s'.c) := D2.cell 1 _ rfl; have dl := D2.lt; go_simp)
      refine hK.out _ _ (fun _ => ?_) ?_
      · exact ⟨k0, k1⟩
      clear hK K
      try simp only [Act.put, List.setIfInBounds_toArray, List.set_cons_zero, List.set_cons_succ]
      refine wpAnyL_one (i := 6) (o := _) rfl (by kernel_rfl) (fun K hK => ?_)
      go_simp
      refine hK.out _ _ (fun _ => ?_) ?_
      · exact ⟨k0, k1⟩
      clear hK K
      try simp only [Act.put, List.setIfInBounds_toArray, List.set_cons_zero, List.set_cons_succ]
      refine wpAnyL_one (i := 7) (o := _) rfl (by kernel_rfl) (fun K hK => ?_)
      go_simp
      refine hK.out _ _ (fun _ => ?_) ?_
      · (refine ⟨?_, ?_⟩ <;> first | assumption | go_keep)
      clear hK K
      try simp only [Act.put, List.setIfInBounds_toArray, List.set_cons_zero, List.set_cons_succ]
      refine wpAnyL_one (i := 8) (o := _) rfl (by kernel_rfl) (fun K hK => ?_)
      (refine step_push_all _ segD.enc (by decide) (by rfl) (.tmp 12) (.tmp 19) (by rfl) Try.underlying25 hi0 hz0 hz1 hz2 (by rfl) (v := v) (l := rs) (by rfl) (hO.below (B2.alloc (by omega) _)) (by rfl) (Rd.one segD.enc _ _ (l[k], s2) (by simp) rfl 1 (Nat.le_refl _) (Nat.lt_succ_self _)) (by omega) (by simp) (by decide) (by (try simp only [World.size_alloc]); omega) ?_; intro v5 w5 o5 g5 f5; have D5 := (D2.below ((Below.refl w2.heap.size w2).alloc (Nat.le_refl _) _)).far g5 (fun e => hne e.symm); have m0 : w5.cell? ⟨wr.heap.size, 0, none⟩ = some (.int .i64 l[k].fr) := D5.cell 0 _ rfl; have m1 : w5.cell? ⟨wr.heap.size, 1, none⟩ = some (.slice s'.a s'.n s'.c) := D5.cell 1 _ rfl)
      refine hK.out _ _ (fun _ => ?_) ?_
      · exact ⟨m0, m1⟩
      clear hK K
      try simp only [Act.put, List.setIfInBounds_toArray, List.set_cons_zero, List.set_cons_succ]
      refine wpAnyL_one (i := 9) (o := _) rfl (by kernel_rfl) (fun K hK => ?_)
      go_simp
      refine hK.out _ _ (fun hne => absurd rfl hne) ?_
      clear hK K
      try simp only [Act.put, List.setIfInBounds_toArray, List.set_cons_zero, List.set_cons_succ]
      refine wpAnyL_done (by kernel_rfl) ?_ _
      go_wp2
      have hP := Bld.push1 (d := segD) (x := l[k]) hB B2 o2 (fun b hb' => by have := n2 b hb'; have := B1.size; omega) hsz ((Below.refl _ _).alloc (Nat.le_refl _) _) o5 g5 f5
      refine ⟨⟨k + 1, v5, by omega, by go_num, rfl, ⟨rs ++ [(l[k], s2)], by rw [List.map_append, hm, take_snoc l k hlt]; rfl, hP⟩, ((hb.trans (B2.mono hb.size)).alloc (by omega) _).grown g5 (by simp <;> omega) (fun g hg => (hO.within g hg).1)⟩, by simp [intOf]; omega⟩
    · go_wp2
      go_ret
      have h1 := hB0.out
      rw [List.take_of_length_le (by omega)] at h1
      exact h1.own hb

theorem specCopySegs_own (l : List Seg) (s : Sl) (w : World) (hl : cntL cntSeg l ≤ 2000000) (h : RdL segD w w.heap.size s.v l) :
    Calls Try.prog 118 #[.slice s.a s.n s.c] w (OwnPost (Dt.list segD) slV l w) := by
  obtain ⟨A, n, c⟩ := s
  obtain ⟨A', c', hv, -⟩ := h.form
  simp only [Sl.v, Value.slice.injEq] at hv
  obtain ⟨rfl, rfl, rfl⟩ := hv
  have hll : l.length ≤ 2000000 := Nat.le_trans (cntL_len _ _) hl
  have hcc : ∀ k (hk : k < l.length), cntSeg l[k] ≤ 2000000 := fun k hk => by have := cntL_mem (cnt := cntSeg) (List.getElem_mem hk); omega
  clear hl
  obtain ⟨i0, hi0, hz0, hz1, hz2⟩ := info_parts seg_infoD
  go_enter Try.func118, Try.ntmps118
  go_wp2
  go_loopw [3, 4] (fun t i wr => ∃ (k : Nat) (v : Value), k ≤ l.length ∧ i = .int .i64 k ∧ v = t ∧ Hid (Bls segD 126 wr w.heap.size v (l.take k)) ∧ Below w.heap.size w wr) (fun _ i _ => l.length - (intOf i).toNat)
  case atStart => exact ⟨0, _, Nat.zero_le _, rfl, rfl, ⟨[], rfl, Bld.of_empty (Ow.empty segD.enc 126 w rfl)⟩, (Below.refl _ _).alloc (Nat.le_refl _) _⟩
  case round =>
    obtain ⟨k, v, hk, rfl, rfl, hB0, hb⟩ := hrel
    by_cases hlt : k < l.length
    · obtain ⟨b, o, s', rfl, hbb, hr, c0, c1⟩ := (h.below hb).seg hlt
      have hx : ∀ W, Below wr.heap.size wr W → RdL noteD W W.heap.size s'.v l[k].notes := fun W hW => RdL.more (RdL.below (RdL.more hr hb.size) hW) hW.size
      have hcn : cntL cntNote l[k].notes ≤ 2000000 := hcc k hlt
      obtain ⟨rs, hm, hB⟩ := hB0.out
      have hrl : rs.length = k := by have := congrArg List.length hm; simpa [Nat.min_eq_left hk] using this
      have hO := hB.ow
      have hsz := hb.size
      have hbw : b < wr.heap.size := by omega
      have Hrl := Lib.hid hrl
      have hrl' : rs.length ≤ 2000000 := by omega
      have hltI : (k : Int) < (l.length : Int) := by omega
      clear hrl
      go_wp2
      have B1 := Below.refl wr.heap.size wr
      refine wp_region_last (fun w' => w'.cell? ⟨b, o + k * 2, none⟩ = some (.int .i64 l[k].fr) ∧ w'.cell? ⟨b, o + k * 2 + 1, none⟩ = some (.slice s'.a s'.n s'.c)) 15 (by kernel_rfl) ?_ (fun hHeld => ?_)
      · exact ⟨c0, c1⟩
      refine wpAnyL_take (i := 0) (oi := _) (v := ?_) rfl (by kernel_rfl) (by kernel_rfl) (by kernel_rfl) (by kernel_rfl) (fun _ _ _ h => h) hHeld (Or.inl ⟨by rfl, ?_⟩) ?_
      rotate_left
      · intro w hSw
        (try dsimp only at hSw)
        go_simp
        all_goals with_reducible rfl
      try simp only [Act.put, List.setIfInBounds_toArray, List.set_cons_zero, List.set_cons_succ]
      refine wpAnyL_take (i := 1) (oi := _) (v := ?_) rfl (by kernel_rfl) (by kernel_rfl) (by kernel_rfl) (by kernel_rfl) (fun _ _ _ h => h) hHeld (Or.inl ⟨by rfl, ?_⟩) ?_
      rotate_left
      · intro w hSw
        (try dsimp only at hSw)
        go_simp
        all_goals with_reducible rfl
      try simp only [Act.put, List.setIfInBounds_toArray, List.set_cons_zero, List.set_cons_succ]
      refine wpAnyL_take (i := 2) (oi := _) (v := ?_) rfl (by kernel_rfl) (by kernel_rfl) (by kernel_rfl) (by kernel_rfl) (fun _ _ _ h => h) hHeld (Or.inl ⟨by rfl, ?_⟩) ?_
      rotate_left
      · intro w hSw
        (try dsimp only at hSw)
        go_simp
        all_goals with_reducible rfl
      try simp only [Act.put, List.setIfInBounds_toArray, List.set_cons_zero, List.set_cons_succ]
      refine wpAnyL_take (i := 3) (oi := _) (v := ?_) rfl (by kernel_rfl) (by kernel_rfl) (by kernel_rfl) (by kernel_rfl) (fun _ _ _ h => h) hHeld (Or.inl ⟨by rfl, ?_⟩) ?_
      rotate_left
      · intro w hSw
        (try dsimp only at hSw)
        go_simp
        all_goals with_reducible rfl
      try simp only [Act.put, List.setIfInBounds_toArray, List.set_cons_zero, List.set_cons_succ]
      refine wpAnyL_take (i := 4) (oi := _) (v := ?_) rfl (by kernel_rfl) (by kernel_rfl) (by kernel_rfl) (by kernel_rfl) (fun _ _ _ h => h) hHeld (Or.inl ⟨by rfl, ?_⟩) ?_
      rotate_left
      · intro w hSw
        (try dsimp only at hSw)
        go_simp
        all_goals with_reducible rfl
      try simp only [Act.put, List.setIfInBounds_toArray, List.set_cons_zero, List.set_cons_succ]
      refine wpAnyL_take (i := 5) (oi := _) (v := ?_) rfl (by kernel_rfl) (by kernel_rfl) (by kernel_rfl) (by kernel_rfl) (fun _ _ _ h => h) hHeld (Or.inl ⟨by rfl, ?_⟩) ?_
      rotate_left
      · intro w hSw
        (try dsimp only at hSw)
        go_simp
        all_goals with_reducible rfl
      try simp only [Act.put, List.setIfInBounds_toArray, List.set_cons_zero, List.set_cons_succ]
      refine wpAnyL_take (i := 6) (oi := _) (v := ?_) rfl (by kernel_rfl) (by kernel_rfl) (by kernel_rfl) (by kernel_rfl) (fun _ _ _ h => h) hHeld (Or.inl ⟨by rfl, ?_⟩) ?_
      rotate_left
      · intro w hSw
        (try dsimp only at hSw)
        go_simp
        all_goals with_reducible rfl
      try simp only [Act.put, List.setIfInBounds_toArray, List.set_cons_zero, List.set_cons_succ]
      refine wpAnyL_take (i := 7) (oi := _) (v := ?_) rfl (by kernel_rfl) (by kernel_rfl) (by kernel_rfl) (by kernel_rfl) (fun _ _ _ h => h) hHeld (Or.inl ⟨by rfl, ?_⟩) ?_
      rotate_left
      · intro w hSw
        (try dsimp only at hSw)
        go_simp
        all_goals with_reducible rfl
      try simp only [Act.put, List.setIfInBounds_toArray, List.set_cons_zero, List.set_cons_succ]
      refine wpAnyL_take (i := 8) (oi := _) (v := ?_) rfl (by kernel_rfl) (by kernel_rfl) (by kernel_rfl) (by kernel_rfl) (fun _ _ _ h => h) hHeld (Or.inl ⟨by rfl, ?_⟩) ?_
      rotate_left
      · intro w hSw
        (try dsimp only at hSw)
        go_simp
        all_goals with_reducible rfl
      try simp only [Act.put, List.setIfInBounds_toArray, List.set_cons_zero, List.set_cons_succ]
      refine wpAnyL_take (i := 9) (oi := _) (v := ?_) rfl (by kernel_rfl) (by kernel_rfl) (by kernel_rfl) (by kernel_rfl) (fun _ _ _ h => h) hHeld (Or.inl ⟨by rfl, ?_⟩) ?_
      rotate_left
      · intro w hSw
        (try dsimp only at hSw)
        go_simp
        all_goals with_reducible rfl
      try simp only [Act.put, List.setIfInBounds_toArray, List.set_cons_zero, List.set_cons_succ]
      refine wpAnyL_take (i := 10) (oi := _) (v := ?_) rfl (by kernel_rfl) (by kernel_rfl) (by kernel_rfl) (by kernel_rfl) (fun _ _ _ h => h) hHeld (Or.inl ⟨by rfl, ?_⟩) ?_
      rotate_left
      · intro w hSw
        (try dsimp only at hSw)
        go_simp
        all_goals with_reducible rfl
      try simp only [Act.put, List.setIfInBounds_toArray, List.set_cons_zero, List.set_cons_succ]
      refine wpAnyL_one (i := 11) (o := _) rfl (by kernel_rfl) (fun K hK => ?_)
      (go_simp; refine (specNotes_own l[k].notes s' _ hcn (hx _ B1.drew)).mono ?_; rintro e w2 ⟨s2, F2, rfl, o2, n2, b2⟩; (try dsimp only [slV]); have B12 := bnext ((Below.refl wr.heap.size wr).drew) b2; have B2 := bnext B1 B12; have z2 := B12.size; simp only [World.size_drew] at n2; have k0 : w2.cell? ⟨b, o + k * 2, none⟩ = some (.int .i64 l[k].fr) := (B2.cell (p := ⟨b, o + k * 2, none⟩) hbw).trans c0; have k1 : w2.cell? ⟨b, o + k * 2 + 1, none⟩ = some (.slice s'.a s'.n s'.c) := (B2.cell (p := ⟨b, o + k * 2 + 1, none⟩) hbw).trans c1; have dl : b < w2.heap.size := Nat.lt_of_lt_of_le hbw z2; go_simp)
      refine hK.out _ _ (fun _ => ?_) ?_
      · exact ⟨k0, k1⟩
      clear hK K
      try simp only [Act.put, List.setIfInBounds_toArray, List.set_cons_zero, List.set_cons_succ]
      refine wpAnyL_one (i := 12) (o := _) rfl (by kernel_rfl) (fun K hK => ?_)
      go_simp
      refine hK.out _ _ (fun _ => ?_) ?_
      · exact ⟨k0, k1⟩
      clear hK K
      try simp only [Act.put, List.setIfInBounds_toArray, List.set_cons_zero, List.set_cons_succ]
      refine wpAnyL_one (i := 13) (o := _) rfl (by kernel_rfl) (fun K hK => ?_)
      go_simp
      refine hK.out _ _ (fun _ => ?_) ?_
      · (refine ⟨?_, ?_⟩ <;> first | assumption | go_keep)
      clear hK K
      try simp only [Act.put, List.setIfInBounds_toArray, List.set_cons_zero, List.set_cons_succ]
      refine wpAnyL_one (i := 14) (o := _) rfl (by kernel_rfl) (fun K hK => ?_)
      (refine step_push_all _ segD.enc (by decide) (by rfl) (.tmp 12) (.tmp 25) (by rfl) Try.underlying25 hi0 hz0 hz1 hz2 (by rfl) (v := v) (l := rs) (by rfl) (hO.below (B2.alloc (by omega) _)) (by rfl) (Rd.one segD.enc _ _ (l[k], s2) (by simp) rfl 1 (Nat.le_refl _) (Nat.lt_succ_self _)) (by omega) (by simp) (by decide) (by (try simp only [World.size_alloc]); omega) ?_; intro v5 w5 o5 g5 f5; have B5 := (B2.mono hsz).alloc (by omega) (.cells #[.int .i64 l[k].fr, .slice s2.a s2.n s2.c] 126); have B6 := Below.grown B5 g5 (by rw [World.size_alloc]; omega) (fun g hg => (hO.within g hg).1); have m0 : w5.cell? ⟨b, o + k * 2, none⟩ = some (.int .i64 l[k].fr) := (B6.cell (p := ⟨b, o + k * 2, none⟩) hbb).trans c0; have m1 : w5.cell? ⟨b, o + k * 2 + 1, none⟩ = some (.slice s'.a s'.n s'.c) := (B6.cell (p := ⟨b, o + k * 2 + 1, none⟩) hbb).trans c1)
      refine hK.out _ _ (fun _ => ?_) ?_
      · exact ⟨m0, m1⟩
      clear hK K
      try simp only [Act.put, List.setIfInBounds_toArray, List.set_cons_zero, List.set_cons_succ]
      refine wpAnyL_one (i := 15) (o := _) rfl (by kernel_rfl) (fun K hK => ?_)
      go_simp
      refine hK.out _ _ (fun hne => absurd rfl hne) ?_
      clear hK K
      try simp only [Act.put, List.setIfInBounds_toArray, List.set_cons_zero, List.set_cons_succ]
      refine wpAnyL_done (by kernel_rfl) ?_ _
      go_wp2
      have hP := Bld.push1 (d := segD) (x := l[k]) hB B2 o2 (fun b hb' => by have := n2 b hb'; omega) hsz ((Below.refl _ _).alloc (Nat.le_refl _) _) o5 g5 f5
      refine ⟨⟨k + 1, v5, by omega, by go_num, rfl, ⟨rs ++ [(l[k], s2)], by rw [List.map_append, hm, take_snoc l k hlt]; rfl, hP⟩, ((hb.trans (B2.mono hb.size)).alloc (by omega) _).grown g5 (by simp <;> omega) (fun g hg => (hO.within g hg).1)⟩, by simp [intOf]; omega⟩
    · go_wp2
      go_ret
      have h1 := hB0.out
      rw [List.take_of_length_le (by omega)] at h1
      exact h1.own hb
end Go.Proofs.Ytcapldjhcplfmaa
