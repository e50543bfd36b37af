/-
  Copies of lists of notes; the notes of all parts. Written by program (cs.py).
-/
import Derived.Test.YtcapldjhcplfmaaCn
import Derived.Test.YtcapldjhcplfmaaSg
import Derived.Test.YtcapldjhcplfmaaBx
namespace Go.Proofs.Ytcapldjhcplfmaa
open Go.RowKit
set_option maxRecDepth 100000
set_option maxHeartbeats 1000000
set_option linter.unusedVariables false
set_option linter.unusedSimpArgs false

theorem implCopyNotes_own (l : List Note) (s : Sl) (w : World) (hl : cntL cntNote l ≤ 2000000) (h : RdL noteD w w.heap.size s.v l) :
    Calls Try.prog 104 #[.slice s.a s.n s.c] w (OwnPost (Dt.list noteD) slV l w) := by
  obtain ⟨A, n, c⟩ := s
  obtain ⟨A', c', hv, -⟩ := h.form
  simp only [Sl.v, Value.slice.injEq] at hv
  obtain ⟨rfl, rfl, rfl⟩ := hv
  have hll : l.length ≤ 2000000 := Nat.le_trans (cntL_len _ _) hl
  have hcc : ∀ k (hk : k < l.length), cntNote l[k] ≤ 2000000 := fun k hk => by have := cntL_mem (cnt := cntNote) (List.getElem_mem hk); omega
  clear hl
  obtain ⟨i0, hi0, hz0, hz1, hz2⟩ := info_parts note_infoD
  go_enter Try.func104, Try.ntmps104
  go_wp2
  go_loopw [3, 8] (fun t i wr => ∃ (k : Nat) (v : Value), k ≤ l.length ∧ i = .int .i64 k ∧ v = t ∧ Hid (Bls noteD 134 wr w.heap.size v (l.take k)) ∧ Below w.heap.size w wr) (fun _ i _ => l.length - (intOf i).toNat)
  case atStart => exact ⟨0, _, Nat.zero_le _, rfl, rfl, ⟨[], rfl, Bld.nil _ _ _ _⟩, Below.refl _ _⟩
  case round =>
    obtain ⟨k, v, hk, rfl, rfl, hB0, hb⟩ := hrel
    by_cases hlt : k < l.length
    · obtain ⟨b, o, s', rfl, hbb, hr, c0, c1, c2, c3, c4, c5, c6, c7, c8, c9, c10, c11⟩ := (h.below hb).note hlt
      have hx : ∀ W, Below wr.heap.size wr W → noteD.rd W W.heap.size l[k] s' := fun W hW => noteD.rd_more (noteD.rd_below (noteD.rd_more hr hb.size) hW) hW.size
      obtain ⟨rs, hm, hB⟩ := hB0.out
      have hrl : rs.length = k := by have := congrArg List.length hm; simpa [Nat.min_eq_left hk] using this
      have hO := hB.ow
      have hsz := hb.size
      have B1 := (Below.refl wr.heap.size wr).alloc (Nat.le_refl _) (.cells #[.int .i64 l[k].seq, .int .i64 l[k].deed.kind, .int .i64 l[k].deed.run, .int .i64 l[k].deed.plan.prio, .int .i64 l[k].deed.plan.most, .int .i64 l[k].deed.plan.wait, .int .i64 l[k].deed.plan.tasks, .slice s'.a s'.n s'.c, .int .i64 l[k].deed.task, .int .i64 l[k].deed.try_, .int .i64 l[k].deed.worker, .int .i64 l[k].deed.draw] 134)
      go_wp2_with (first | (go_at_call 143; refine (implCopyNote_own l[k] s' _ (hcc k hlt) (hx _ B1)).mono ?_; rintro e w2 ⟨s2, F2, rfl, o2, n2, b2⟩; have B2 := bnext B1 b2; have z2 := b2.size; (try simp only [World.size_alloc] at z2 n2)) | (at_builtin; refine wpList_push_all _ noteD.enc (by decide) rfl (.tmp 12) (.tmp 15) rfl Try.underlying33 hi0 hz0 hz1 hz2 rfl (v := v) (l := rs) rfl (hO.below (B2.alloc (by omega) _)) rfl (Rd.one noteD.enc _ _ (l[k], s2) rfl rfl 1 (Nat.le_refl _) (Nat.lt_succ_self _)) (by omega) (by simp) (by decide) (by (try simp only [World.size_alloc]); omega) ?_; intro v5 w5 o5 g5 f5))
      have hP := Bld.push1 hB B2 o2 (fun b hb' => by have := n2 b hb'; omega) hsz ((Below.refl _ _).alloc (Nat.le_refl _) _) o5 g5 f5
      refine ⟨⟨k + 1, v5, by omega, by go_num, rfl, ⟨rs ++ [(l[k], s2)], by rw [List.map_append, hm, take_snoc l k hlt]; rfl, hP⟩, ((hb.trans (B2.mono hb.size)).alloc (by omega) _).grown g5 (by simp <;> omega) (fun g hg => (hO.within g hg).1)⟩, by simp [intOf]; omega⟩
    · go_wp2
      go_ret
      have h1 := hB0.out
      rw [List.take_of_length_le (by omega)] at h1
      exact h1.own hb

theorem specNotes_own (l : List Note) (s : Sl) (w : World) (hl : cntL cntNote l ≤ 2000000) (h : RdL noteD w w.heap.size s.v l) :
    Calls Try.prog 103 #[.slice s.a s.n s.c] w (OwnPost (Dt.list noteD) slV l w) := by
  obtain ⟨A, n, c⟩ := s
  obtain ⟨A', c', hv, -⟩ := h.form
  simp only [Sl.v, Value.slice.injEq] at hv
  obtain ⟨rfl, rfl, rfl⟩ := hv
  have hll : l.length ≤ 2000000 := Nat.le_trans (cntL_len _ _) hl
  have hcc : ∀ k (hk : k < l.length), cntNote l[k] ≤ 2000000 := fun k hk => by have := cntL_mem (cnt := cntNote) (List.getElem_mem hk); omega
  clear hl
  obtain ⟨i0, hi0, hz0, hz1, hz2⟩ := info_parts note_infoD
  go_enter Try.func103, Try.ntmps103
  go_wp2
  go_loopw [3, 4] (fun t i wr => ∃ (k : Nat) (v : Value), k ≤ l.length ∧ i = .int .i64 k ∧ v = t ∧ Hid (Bls noteD 134 wr w.heap.size v (l.take k)) ∧ Below w.heap.size w wr) (fun _ i _ => l.length - (intOf i).toNat)
  case atStart => exact ⟨0, _, Nat.zero_le _, rfl, rfl, ⟨[], rfl, Bld.of_empty (Ow.empty noteD.enc 134 w rfl)⟩, (Below.refl _ _).alloc (Nat.le_refl _) _⟩
  case round =>
    obtain ⟨k, v, hk, rfl, rfl, hB0, hb⟩ := hrel
    by_cases hlt : k < l.length
    · obtain ⟨b, o, s', rfl, hbb, hr, c0, c1, c2, c3, c4, c5, c6, c7, c8, c9, c10, c11⟩ := (h.below hb).note hlt
      have hx : ∀ W, Below wr.heap.size wr W → noteD.rd W W.heap.size l[k] s' := fun W hW => noteD.rd_more (noteD.rd_below (noteD.rd_more hr hb.size) hW) hW.size
      obtain ⟨rs, hm, hB⟩ := hB0.out
      have hrl : rs.length = k := by have := congrArg List.length hm; simpa [Nat.min_eq_left hk] using this
      have hO := hB.ow
      have hsz := hb.size
      have B1 := Below.refl wr.heap.size wr
      go_wp2_with (first | (go_at_call 142; refine (specNote_own l[k] s' _ (hcc k hlt) (hx _ B1)).mono ?_; rintro e w2 ⟨s2, F2, rfl, o2, n2, b2⟩; have B2 := bnext B1 b2; have z2 := b2.size; (try simp only [World.size_alloc] at z2 n2)) | (at_builtin; refine wpList_push_all _ noteD.enc (by decide) rfl (.tmp 12) (.tmp 18) rfl Try.underlying33 hi0 hz0 hz1 hz2 rfl (v := v) (l := rs) rfl (hO.below (B2.alloc (by omega) _)) rfl (Rd.one noteD.enc _ _ (l[k], s2) rfl rfl 1 (Nat.le_refl _) (Nat.lt_succ_self _)) (by omega) (by simp) (by decide) (by (try simp only [World.size_alloc]); omega) ?_; intro v5 w5 o5 g5 f5))
      have hP := Bld.push1 hB B2 o2 (fun b hb' => by have := n2 b hb'; omega) hsz ((Below.refl _ _).alloc (Nat.le_refl _) _) o5 g5 f5
      refine ⟨⟨k + 1, v5, by omega, by go_num, rfl, ⟨rs ++ [(l[k], s2)], by rw [List.map_append, hm, take_snoc l k hlt]; rfl, hP⟩, ((hb.trans (B2.mono hb.size)).alloc (by omega) _).grown g5 (by simp <;> omega) (fun g hg => (hO.within g hg).1)⟩, by simp [intOf]; omega⟩
    · go_wp2
      go_ret
      have h1 := hB0.out
      rw [List.take_of_length_le (by omega)] at h1
      exact h1.own hb

theorem implNotesOf_own (l : List Seg) (s : Sl) (w : World) (hl : cntL cntSeg l ≤ 2000000) (h : RdL segD w w.heap.size s.v l) :
    Calls Try.prog 47 #[.slice s.a s.n s.c] w (OwnPost (Dt.list noteD) slV (notesOf l) w) := by
  obtain ⟨A, n, c⟩ := s
  obtain ⟨A', c', hv, -⟩ := h.form
  simp only [Sl.v, Value.slice.injEq] at hv
  obtain ⟨rfl, rfl, rfl⟩ := hv
  have hll : l.length ≤ 2000000 := Nat.le_trans (cntL_len _ _) hl
  have hcc : ∀ k (hk : k < l.length), cntSeg l[k] ≤ 2000000 := fun k hk => by have := cntL_mem (cnt := cntSeg) (List.getElem_mem hk); omega
  have htt : ∀ k, (notesOf (l.take k)).length ≤ 2000000 := fun k => by rw [notesOf_len]; have := totN_take_le l k; have := totN_le l; omega
  clear hl
  obtain ⟨i0, hi0, hz0, hz1, hz2⟩ := info_parts note_infoD
  go_enter Try.func47, Try.ntmps47
  go_wp2
  go_loopw [3, 8] (fun t i wr => ∃ (k : Nat) (v : Value), k ≤ l.length ∧ i = .int .i64 k ∧ v = t ∧ Hid (Bls noteD 134 wr w.heap.size v (notesOf (l.take k))) ∧ Below w.heap.size w wr) (fun _ i _ => l.length - (intOf i).toNat)
  case atStart => exact ⟨0, _, Nat.zero_le _, rfl, rfl, ⟨[], rfl, Bld.nil _ _ _ _⟩, Below.refl _ _⟩
  case round =>
    obtain ⟨k, v, hk, rfl, rfl, hB0, hb⟩ := hrel
    by_cases hlt : k < l.length
    · obtain ⟨b, o, s', rfl, hbb, hr, c0, c1⟩ := (h.below hb).seg hlt
      have hx : ∀ W, Below wr.heap.size wr W → RdL noteD W W.heap.size s'.v l[k].notes := fun W hW => RdL.more (RdL.below (RdL.more hr hb.size) hW) hW.size
      have hcn : cntL cntNote l[k].notes ≤ 2000000 := hcc k hlt
      have hnl : l[k].notes.length ≤ 2000000 := Nat.le_trans (cntL_len cntNote _) hcn
      obtain ⟨rs, hm, hB⟩ := hB0.out
      have hrl : rs.length ≤ 2000000 := by have := congrArg List.length hm; rw [List.length_map] at this; rw [this]; exact htt k
      have hO := hB.ow
      have hsz := hb.size
      have B1 := (Below.refl wr.heap.size wr).alloc (Nat.le_refl _) (.cells #[.int .i64 l[k].fr, .slice s'.a s'.n s'.c] 126)
      go_wp2_with (first | (go_at_call 104; refine (implCopyNotes_own l[k].notes s' _ hcn (hx _ B1)).mono ?_; rintro e w2 ⟨s2, F2, rfl, ⟨ts, H2, G2, hts, hw2, ho2, hF2, hn2⟩, n2, b2⟩; have B2 := bnext B1 b2; have z2 := b2.size; (try simp only [World.size_alloc] at z2 n2); have htl : ts.length ≤ 2000000 := by have := congrArg List.length hts; rw [List.length_map] at this; omega) | (at_builtin; refine wpList_push_all _ noteD.enc (by decide) rfl (.tmp 12) (.tmp 15) rfl Try.underlying33 hi0 hz0 hz1 hz2 rfl (v := v) (l := rs) rfl (hO.below B2) (A := s2.a) (m := s2.n) (c := s2.c) (ys := ts) rfl hw2.rd (by omega) (by omega) (by decide) (by omega) ?_; intro v5 w5 o5 g5 f5))
      subst hF2
      have hP := Bld.push hB B2 ho2 (fun b hb' => by have := n2 b (List.mem_append_right _ hb'); omega) (List.nodup_append.1 hn2).2.1 hsz o5 g5 (by rcases f5 with f5 | f5; exact .inl f5; exact .inr ⟨_, f5, Nat.le_refl _⟩)
      refine ⟨⟨k + 1, v5, by omega, by go_num, rfl, ⟨rs ++ ts, by rw [List.map_append, hm, hts, notesOf_take_succ l k hlt], hP⟩, (hb.trans (B2.mono hb.size)).grown g5 (by omega) (fun g hg => (hO.within g hg).1)⟩, by simp [intOf]; omega⟩
    · go_wp2
      go_ret
      have h1 := hB0.out
      rw [List.take_of_length_le (by omega)] at h1
      exact h1.own hb

theorem specNotesOf_own (l : List Seg) (s : Sl) (w : World) (hl : cntL cntSeg l ≤ 2000000) (h : RdL segD w w.heap.size s.v l) :
    Calls Try.prog 46 #[.slice s.a s.n s.c] w (OwnPost (Dt.list noteD) slV (notesOf l) w) := by
  obtain ⟨A, n, c⟩ := s
  obtain ⟨A', c', hv, -⟩ := h.form
  simp only [Sl.v, Value.slice.injEq] at hv
  obtain ⟨rfl, rfl, rfl⟩ := hv
  have hll : l.length ≤ 2000000 := Nat.le_trans (cntL_len _ _) hl
  have hcc : ∀ k (hk : k < l.length), cntSeg l[k] ≤ 2000000 := fun k hk => by have := cntL_mem (cnt := cntSeg) (List.getElem_mem hk); omega
  have htt : ∀ k, (notesOf (l.take k)).length ≤ 2000000 := fun k => by rw [notesOf_len]; have := totN_take_le l k; have := totN_le l; omega
  clear hl
  obtain ⟨i0, hi0, hz0, hz1, hz2⟩ := info_parts note_infoD
  go_enter Try.func46, Try.ntmps46
  go_wp2
  go_loopw [3, 4] (fun t i wr => ∃ (k : Nat) (v : Value), k ≤ l.length ∧ i = .int .i64 k ∧ v = t ∧ Hid (Bls noteD 134 wr w.heap.size v (notesOf (l.take k))) ∧ Below w.heap.size w wr) (fun _ i _ => l.length - (intOf i).toNat)
  case atStart => exact ⟨0, _, Nat.zero_le _, rfl, rfl, ⟨[], rfl, Bld.of_empty (Ow.empty noteD.enc 134 w rfl)⟩, (Below.refl _ _).alloc (Nat.le_refl _) _⟩
  case round =>
    obtain ⟨k, v, hk, rfl, rfl, hB0, hb⟩ := hrel
    by_cases hlt : k < l.length
    · obtain ⟨b, o, s', rfl, hbb, hr, c0, c1⟩ := (h.below hb).seg hlt
      have hx : ∀ W, Below wr.heap.size wr W → RdL noteD W W.heap.size s'.v l[k].notes := fun W hW => RdL.more (RdL.below (RdL.more hr hb.size) hW) hW.size
      have hcn : cntL cntNote l[k].notes ≤ 2000000 := hcc k hlt
      have hnl : l[k].notes.length ≤ 2000000 := Nat.le_trans (cntL_len cntNote _) hcn
      obtain ⟨rs, hm, hB⟩ := hB0.out
      have hrl : rs.length ≤ 2000000 := by have := congrArg List.length hm; rw [List.length_map] at this; rw [this]; exact htt k
      have hO := hB.ow
      have hsz := hb.size
      have B1 := Below.refl wr.heap.size wr
      go_wp2_with (first | (go_at_call 103; refine (specNotes_own l[k].notes s' _ hcn (hx _ B1)).mono ?_; rintro e w2 ⟨s2, F2, rfl, ⟨ts, H2, G2, hts, hw2, ho2, hF2, hn2⟩, n2, b2⟩; have B2 := bnext B1 b2; have z2 := b2.size; (try simp only [World.size_alloc] at z2 n2); have htl : ts.length ≤ 2000000 := by have := congrArg List.length hts; rw [List.length_map] at this; omega) | (at_builtin; refine wpList_push_all _ noteD.enc (by decide) rfl (.tmp 12) (.tmp 18) rfl Try.underlying33 hi0 hz0 hz1 hz2 rfl (v := v) (l := rs) rfl (hO.below B2) (A := s2.a) (m := s2.n) (c := s2.c) (ys := ts) rfl hw2.rd (by omega) (by omega) (by decide) (by omega) ?_; intro v5 w5 o5 g5 f5))
      subst hF2
      have hP := Bld.push hB B2 ho2 (fun b hb' => by have := n2 b (List.mem_append_right _ hb'); omega) (List.nodup_append.1 hn2).2.1 hsz o5 g5 (by rcases f5 with f5 | f5; exact .inl f5; exact .inr ⟨_, f5, Nat.le_refl _⟩)
      refine ⟨⟨k + 1, v5, by omega, by go_num, rfl, ⟨rs ++ ts, by rw [List.map_append, hm, hts, notesOf_take_succ l k hlt], hP⟩, (hb.trans (B2.mono hb.size)).grown g5 (by omega) (fun g hg => (hO.within g hg).1)⟩, by simp [intOf]; omega⟩
    · go_wp2
      go_ret
      have h1 := hB0.out
      rw [List.take_of_length_le (by omega)] at h1
      exact h1.own hb
end Go.Proofs.Ytcapldjhcplfmaa
