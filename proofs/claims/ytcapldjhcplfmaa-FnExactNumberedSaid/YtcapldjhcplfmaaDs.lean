/-
  Copies of lists of deeds; the deeds that mattered. Written by program (cs.py).
-/
import Derived.Test.YtcapldjhcplfmaaCd
import Derived.Test.YtcapldjhcplfmaaBx
import Derived.Test.YtcapldjhcplfmaaDb
import Derived.Test.YtcapldjhcplfmaaTReply
import Derived.Test.YtcapldjhcplfmaaWi
namespace Go.Proofs.Ytcapldjhcplfmaa
open Go.RowKit
set_option maxRecDepth 100000
set_option maxHeartbeats 1000000
set_option linter.unusedVariables false
set_option linter.unusedSimpArgs false

theorem specDeeds_own (l : List Deed) (s : Sl) (w : World) (hl : cntL cntDeed l ≤ 2000000) (h : RdL deedD w w.heap.size s.v l) :
    Calls Try.prog 87 #[.slice s.a s.n s.c] w (OwnPost (Dt.list deedD) slV l w) := by
  obtain ⟨A, n, c⟩ := s
  obtain ⟨A', c', hv, -⟩ := h.form
  simp only [Sl.v, Value.slice.injEq] at hv
  obtain ⟨rfl, rfl, rfl⟩ := hv
  have hll : l.length ≤ 2000000 := Nat.le_trans (cntL_len _ _) hl
  have hcc : ∀ k (hk : k < l.length), cntDeed l[k] ≤ 2000000 := fun k hk => by have := cntL_mem (cnt := cntDeed) (List.getElem_mem hk); omega
  clear hl
  obtain ⟨i0, hi0, hz0, hz1, hz2⟩ := info_parts deed_infoD
  go_enter Try.func87, Try.ntmps87
  go_wp2
  go_loopw [3, 4] (fun t i wr => ∃ (k : Nat) (v : Value), k ≤ l.length ∧ i = .int .i64 k ∧ v = t ∧ Hid (Bls deedD 132 wr w.heap.size v (l.take k)) ∧ Below w.heap.size w wr) (fun _ i _ => l.length - (intOf i).toNat)
  case atStart => exact ⟨0, _, Nat.zero_le _, rfl, rfl, ⟨[], rfl, Bld.of_empty (Ow.empty deedD.enc 132 w rfl)⟩, (Below.refl _ _).alloc (Nat.le_refl _) _⟩
  case round =>
    obtain ⟨k, v, hk, rfl, rfl, hB0, hb⟩ := hrel
    by_cases hlt : k < l.length
    · obtain ⟨b, o, s', rfl, hbb, hr, c0, c1, c2, c3, c4, c5, c6, c7, c8, c9, c10⟩ := (h.below hb).deed hlt
      have hx : ∀ W, Below wr.heap.size wr W → deedD.rd W W.heap.size l[k] s' := fun W hW => deedD.rd_more (deedD.rd_below (deedD.rd_more hr hb.size) hW) hW.size
      obtain ⟨rs, hm, hB⟩ := hB0.out
      have hrl : rs.length = k := by have := congrArg List.length hm; simpa [Nat.min_eq_left hk] using this
      have hO := hB.ow
      have hsz := hb.size
      have D1 := DBox.new 132 [.int .i64 l[k].kind, .int .i64 l[k].run, .int .i64 l[k].plan.prio, .int .i64 l[k].plan.most, .int .i64 l[k].plan.wait, .int .i64 l[k].plan.tasks, .slice s'.a s'.n s'.c, .int .i64 l[k].task, .int .i64 l[k].try_, .int .i64 l[k].worker, .int .i64 l[k].draw] wr rfl
      have B1 := (Below.refl wr.heap.size wr).alloc (Nat.le_refl _) (.cells #[.int .i64 l[k].kind, .int .i64 l[k].run, .int .i64 l[k].plan.prio, .int .i64 l[k].plan.most, .int .i64 l[k].plan.wait, .int .i64 l[k].plan.tasks, .slice s'.a s'.n s'.c, .int .i64 l[k].task, .int .i64 l[k].try_, .int .i64 l[k].worker, .int .i64 l[k].draw] 132)
      go_wp2_with fail
      refine (specCopyPlan_own l[k].plan s' _ (hcc k hlt) (hx _ B1)).mono ?_
      rintro e w2 ⟨s2, F2, rfl, o2, n2, b2⟩
      have D2 := D1.below b2
      have z2 := b2.size
      simp only [World.size_alloc] at z2 n2
      have B2 := bnext B1 b2
      have zf := D2.free
      have k0 : w2.cell? ⟨wr.heap.size, 0, none⟩ = some (.int .i64 l[k].kind) := D2.cell 0 _ rfl
      have k1 : w2.cell? ⟨wr.heap.size, 1, none⟩ = some (.int .i64 l[k].run) := D2.cell 1 _ rfl
      have k2 : w2.cell? ⟨wr.heap.size, 2, none⟩ = some (.int .i64 l[k].plan.prio) := D2.cell 2 _ rfl
      have k3 : w2.cell? ⟨wr.heap.size, 3, none⟩ = some (.int .i64 l[k].plan.most) := D2.cell 3 _ rfl
      have k4 : w2.cell? ⟨wr.heap.size, 4, none⟩ = some (.int .i64 l[k].plan.wait) := D2.cell 4 _ rfl
      have k5 : w2.cell? ⟨wr.heap.size, 5, none⟩ = some (.int .i64 l[k].plan.tasks) := D2.cell 5 _ rfl
      have k6 : w2.cell? ⟨wr.heap.size, 6, none⟩ = some (.slice s'.a s'.n s'.c) := D2.cell 6 _ rfl
      have k7 : w2.cell? ⟨wr.heap.size, 7, none⟩ = some (.int .i64 l[k].task) := D2.cell 7 _ rfl
      have k8 : w2.cell? ⟨wr.heap.size, 8, none⟩ = some (.int .i64 l[k].try_) := D2.cell 8 _ rfl
      have k9 : w2.cell? ⟨wr.heap.size, 9, none⟩ = some (.int .i64 l[k].worker) := D2.cell 9 _ rfl
      have k10 : w2.cell? ⟨wr.heap.size, 10, none⟩ = some (.int .i64 l[k].draw) := D2.cell 10 _ rfl
      have dl := D2.lt
      clear D1 D2 hx
      have B3 : Below wr.heap.size wr (((((w2.setCell ⟨wr.heap.size, 2, none⟩ (.int .i64 l[k].plan.prio)).setCell ⟨wr.heap.size, 3, none⟩ (.int .i64 l[k].plan.most)).setCell ⟨wr.heap.size, 4, none⟩ (.int .i64 l[k].plan.wait)).setCell ⟨wr.heap.size, 5, none⟩ (.int .i64 l[k].plan.tasks)).setCell ⟨wr.heap.size, 6, none⟩ (.slice s2.a s2.n s2.c)) := by repeat (first | (with_reducible exact B2) | refine Below.setCell ?_ (by simp <;> omega) _ | refine Below.alloc ?_ (by simp <;> omega) _)
      have z3 : (((((w2.setCell ⟨wr.heap.size, 2, none⟩ (.int .i64 l[k].plan.prio)).setCell ⟨wr.heap.size, 3, none⟩ (.int .i64 l[k].plan.most)).setCell ⟨wr.heap.size, 4, none⟩ (.int .i64 l[k].plan.wait)).setCell ⟨wr.heap.size, 5, none⟩ (.int .i64 l[k].plan.tasks)).setCell ⟨wr.heap.size, 6, none⟩ (.slice s2.a s2.n s2.c)).heap.size = w2.heap.size := by simp
      have o3 : deedD.ow (((((w2.setCell ⟨wr.heap.size, 2, none⟩ (.int .i64 l[k].plan.prio)).setCell ⟨wr.heap.size, 3, none⟩ (.int .i64 l[k].plan.most)).setCell ⟨wr.heap.size, 4, none⟩ (.int .i64 l[k].plan.wait)).setCell ⟨wr.heap.size, 5, none⟩ (.int .i64 l[k].plan.tasks)).setCell ⟨wr.heap.size, 6, none⟩ (.slice s2.a s2.n s2.c)) F2 l[k] s2 := by
        repeat (first | (with_reducible exact o2) | refine Dt.ow_set planD ?_ (by intro hm; have := n2 _ hm; (try simp only [World.size_alloc, World.size_setCell] at this); omega) _)
      have Z3 := Lib.hid z3
      clear z3
      go_wp2_with (at_builtin; generalize (((((w2.setCell ⟨wr.heap.size, 2, none⟩ (.int .i64 l[k].plan.prio)).setCell ⟨wr.heap.size, 3, none⟩ (.int .i64 l[k].plan.most)).setCell ⟨wr.heap.size, 4, none⟩ (.int .i64 l[k].plan.wait)).setCell ⟨wr.heap.size, 5, none⟩ (.int .i64 l[k].plan.tasks)).setCell ⟨wr.heap.size, 6, none⟩ (.slice s2.a s2.n s2.c)) = W3 at *; refine wpList_push_all _ deedD.enc (by decide) rfl (.tmp 21) (.tmp 23) rfl Try.underlying35 hi0 hz0 hz1 hz2 rfl (v := v) (l := rs) rfl (hO.below (B3.alloc (by rw [Z3.out]; omega) _)) rfl (Rd.one deedD.enc W3 132 (l[k], s2) Z3.out.symm rfl 1 (Nat.le_refl _) (Nat.lt_succ_self _)) (by omega) (by simp) (by decide) (by rw [World.size_alloc, Z3.out]; omega) ?_; intro v5 w5 o5 g5 f5)
      have z3 := Z3.out
      have hP := Bld.push1 (w1 := W3) hB B3 o3 (fun b hb' => by have := n2 b hb'; omega) hsz ((Below.refl _ _).alloc (Nat.le_refl _) _) o5 g5 f5
      have hW5 : Below w.heap.size w w5 := ((hb.trans (B3.mono hb.size)).alloc (by rw [z3]; omega) _).grown g5 (by rw [World.size_alloc, z3]; omega) (fun g hg => (hO.within g hg).1)
      refine ⟨⟨k + 1, v5, by omega, by go_num, rfl, ⟨rs ++ [(l[k], s2)], by rw [List.map_append, hm, take_snoc l k hlt]; rfl, hP⟩, hW5⟩, by simp [intOf]; omega⟩
    · go_wp2
      go_ret
      have h1 := hB0.out
      rw [List.take_of_length_le (by omega)] at h1
      exact h1.own hb

def mat (r : Reply) : Bool := r.code == 0 || r.code == 9
/-- the deeds whose reply matters -/
def matN : List Deed → List Reply → List Deed
  | d :: l, r :: t => if mat r = true then d :: matN l t else matN l t
  | _, _ => []
theorem matN_nil (l : List Deed) : matN l [] = [] := by cases l <;> rfl
theorem matN_succ : ∀ (l : List Deed) (r : List Reply) (k : Nat) (h : k < l.length) (h' : k < r.length), matN (l.take (k + 1)) (r.take (k + 1)) = matN (l.take k) (r.take k) ++ (if mat r[k] = true then [l[k]] else [])
  | [], _, _, h, _ => absurd h (by simp)
  | _ :: _, [], _, _, h => absurd h (by simp)
  | d :: l, x :: r, 0, _, _ => by simp [matN]
  | d :: l, x :: r, k + 1, h, h' => by
    have ih := matN_succ l r k (by simpa using h) (by simpa using h')
    simp only [List.take_succ_cons, matN, List.getElem_cons_succ]
    by_cases hx : mat x = true
    · rw [if_pos hx, if_pos hx, ih]; rfl
    · rw [if_neg hx, if_neg hx, ih]
theorem matN_take : ∀ (l : List Deed) (r : List Reply) (k : Nat), (l.length ≤ k ∨ r.length ≤ k) → matN (l.take k) (r.take k) = matN l r
  | [], r, k, _ => by simp [matN]
  | d :: l, [], k, _ => by simp [matN_nil]
  | d :: l, x :: r, 0, h => absurd h (by simp)
  | d :: l, x :: r, k + 1, h => by
    have ih := matN_take l r k (by simpa using h)
    simp only [List.take_succ_cons, matN, ih]
theorem matN_len : ∀ (l : List Deed) (r : List Reply), (matN l r).length ≤ l.length
  | [], r => by simp [matN]
  | d :: l, [] => by simp [matN]
  | d :: l, x :: r => by
    have ih := matN_len l r
    simp only [matN, List.length_cons]
    split
    · rw [List.length_cons]; omega
    · omega
theorem matN_cnt : ∀ (l : List Deed) (r : List Reply), cntL cntDeed (matN l r) ≤ cntL cntDeed l
  | [], r => by simp [matN, cntL]
  | d :: l, [] => by simp [matN, cntL]
  | d :: l, x :: r => by
    have ih := matN_cnt l r
    unfold cntL at *
    simp only [matN, List.length_cons, List.map_cons, List.sum_cons]
    split
    · simp only [List.length_cons, List.map_cons, List.sum_cons]; omega
    · omega

theorem implMattered_own (l : List Deed) (s : Sl) (r : List Reply) (s1 : Sl) (w : World) (hl : cntL cntDeed l ≤ 2000000) (hl1 : cntL cntReply r ≤ 2000000) (h : RdL deedD w w.heap.size s.v l) (h1 : RdL replyD w w.heap.size s1.v r) :
    Calls Try.prog 36 #[.slice s.a s.n s.c, .slice s1.a s1.n s1.c] w (OwnPost (Dt.list deedD) slV (matN l r) w) := by
  obtain ⟨A, n, c⟩ := s
  obtain ⟨A', c', hv, -⟩ := h.form
  simp only [Sl.v, Value.slice.injEq] at hv
  obtain ⟨rfl, rfl, rfl⟩ := hv
  obtain ⟨B, m, e⟩ := s1
  obtain ⟨B', e', hv, -⟩ := h1.form
  simp only [Sl.v, Value.slice.injEq] at hv
  obtain ⟨rfl, rfl, rfl⟩ := hv
  have hll : l.length ≤ 2000000 := Nat.le_trans (cntL_len _ _) hl
  have hlr : r.length ≤ 2000000 := Nat.le_trans (cntL_len _ _) hl1
  have hcc : ∀ k (hk : k < l.length), cntDeed l[k] ≤ 2000000 := fun k hk => by have := cntL_mem (cnt := cntDeed) (List.getElem_mem hk); omega
  clear hl hl1
  obtain ⟨i0, hi0, hz0, hz1, hz2⟩ := info_parts deed_infoD
  go_enter Try.func36, Try.ntmps36
  go_wp2
  go_loopw [5, 6] (fun t i wr => ∃ (k : Nat) (v : Value), k ≤ l.length ∧ k ≤ r.length ∧ i = .int .i64 k ∧ v = t ∧ Hid (Bls deedD 132 wr w.heap.size v (matN (l.take k) (r.take k))) ∧ Below w.heap.size w wr) (fun _ i _ => l.length - (intOf i).toNat)
  case atStart => exact ⟨0, _, Nat.zero_le _, Nat.zero_le _, rfl, rfl, ⟨[], by simp [matN], Bld.nil _ _ _ _⟩, Below.refl _ _⟩
  case round =>
    obtain ⟨k, v, hk, hk1, rfl, rfl, hB0, hb⟩ := hrel
    by_cases hlt : k < l.length ∧ k < r.length
    · obtain ⟨hlt, hlt1⟩ := hlt
      obtain ⟨b, o, s', rfl, hbb, hr, c0, c1, c2, c3, c4, c5, c6, c7, c8, c9, c10⟩ := (h.below hb).deed hlt
      obtain ⟨b2, o2, s2', rfl, hbb2, hr2, d0, -⟩ := (h1.below hb).reply hlt1
      have hx : ∀ W, Below wr.heap.size wr W → deedD.rd W W.heap.size l[k] s' := fun W hW => deedD.rd_more (deedD.rd_below (deedD.rd_more hr hb.size) hW) hW.size
      have hs := Lib.hid (matN_succ l r k hlt hlt1)
      by_cases hmt : mat r[k] = true
      · obtain ⟨rs, hm, hB⟩ := hB0.out
        have hrl : rs.length ≤ 2000000 := by have := congrArg List.length hm; rw [List.length_map] at this; have := matN_len (l.take k) (r.take k); rw [List.length_take] at this; omega
        have hO := hB.ow
        have hsz := hb.size
        have B1 := Below.refl wr.heap.size wr
        have hm2 : (rs ++ [(l[k], s')]).map (·.1) = matN (l.take (k + 1)) (r.take (k + 1)) := by rw [hs.out, if_pos hmt, List.map_append, hm]; rfl
        have S : Hid (matN (l.take (k + 1)) (r.take (k + 1)) = rs.map (·.1) ++ [l[k]]) := by rw [List.map_append] at hm2; exact hm2.symm
        clear hs hm hm2
        by_cases hz : r[k].code = 0
        · have t0 : (r[k].code == 0) = true := by simp [hz]
          clear hz hmt
          go_wp2_with (first | (go_at_call 89; refine (implCopyDeed_own l[k] s' _ (hcc k hlt) (hx _ B1)).mono ?_; rintro e w2 ⟨s2, F2, rfl, o2, n2, b2⟩; have B2 := bnext B1 b2; have z2 := b2.size) | (at_builtin; refine wpList_push_all _ deedD.enc (by decide) rfl (.tmp 30) (.tmp 36) rfl Try.underlying35 hi0 hz0 hz1 hz2 rfl (v := v) (l := rs) rfl (hO.below (B2.alloc (by omega) _)) rfl (Rd.one deedD.enc _ _ (l[k], s2) rfl rfl 1 (Nat.le_refl _) (Nat.lt_succ_self _)) (by omega) (by simp) (by decide) (by (try simp only [World.size_alloc]); omega) ?_; intro v5 w5 o5 g5 f5))
          have hP := Bld.push1 hB B2 o2 (fun b hb' => by have := n2 b hb'; omega) hsz ((Below.refl _ _).alloc (Nat.le_refl _) _) o5 g5 f5
          exact ⟨⟨k + 1, v5, by omega, by omega, by go_num, rfl, ⟨rs ++ [(l[k], s2)], by rw [S.out, List.map_append]; rfl, hP⟩, ((hb.trans (B2.mono hb.size)).alloc (by omega) _).grown g5 (by simp <;> omega) (fun g hg => (hO.within g hg).1)⟩, by simp [intOf]; omega⟩
        · have t0 : (r[k].code == 0) = false := by simp [hz]
          have t9 : (r[k].code == 9) = true := by
            unfold mat at hmt
            rw [t0] at hmt
            simpa using hmt
          clear hz hmt
          go_wp2_with (first | (go_at_call 89; refine (implCopyDeed_own l[k] s' _ (hcc k hlt) (hx _ B1)).mono ?_; rintro e w2 ⟨s2, F2, rfl, o2, n2, b2⟩; have B2 := bnext B1 b2; have z2 := b2.size) | (at_builtin; refine wpList_push_all _ deedD.enc (by decide) rfl (.tmp 30) (.tmp 36) rfl Try.underlying35 hi0 hz0 hz1 hz2 rfl (v := v) (l := rs) rfl (hO.below (B2.alloc (by omega) _)) rfl (Rd.one deedD.enc _ _ (l[k], s2) rfl rfl 1 (Nat.le_refl _) (Nat.lt_succ_self _)) (by omega) (by simp) (by decide) (by (try simp only [World.size_alloc]); omega) ?_; intro v5 w5 o5 g5 f5))
          have hP := Bld.push1 hB B2 o2 (fun b hb' => by have := n2 b hb'; omega) hsz ((Below.refl _ _).alloc (Nat.le_refl _) _) o5 g5 f5
          exact ⟨⟨k + 1, v5, by omega, by omega, by go_num, rfl, ⟨rs ++ [(l[k], s2)], by rw [S.out, List.map_append]; rfl, hP⟩, ((hb.trans (B2.mono hb.size)).alloc (by omega) _).grown g5 (by simp <;> omega) (fun g hg => (hO.within g hg).1)⟩, by simp [intOf]; omega⟩
      · have t0 : (r[k].code == 0) = false := by unfold mat at hmt; simp at hmt; simp [hmt]
        have t9 : (r[k].code == 9) = false := by unfold mat at hmt; simp at hmt; simp [hmt]
        have S : Hid (matN (l.take (k + 1)) (r.take (k + 1)) = matN (l.take k) (r.take k)) := by show _ = _; rw [hs.out, if_neg hmt, List.append_nil]
        clear hmt hs
        go_wp2
        exact ⟨⟨k + 1, v, by omega, by omega, by go_num, rfl, by show Bls _ _ _ _ _ _; rw [S.out]; exact hB0.out, hb⟩, by simp [intOf]; omega⟩
    · have hn : ¬ ((k : Int) < min (l.length : Int) (r.length : Int)) := by omega
      have hk2 : k = l.length ∨ k = r.length := by omega
      have hB1 := hB0.out
      rw [matN_take l r k (by omega)] at hB1
      have HB := Lib.hid hB1
      clear hB1 hB0
      go_wp2
      all_goals
        go_ret
        exact HB.out.own hb

theorem specMattered_own (l : List Deed) (s : Sl) (r : List Reply) (s1 : Sl) (w : World) (hl : cntL cntDeed l ≤ 2000000) (hl1 : cntL cntReply r ≤ 2000000) (h : RdL deedD w w.heap.size s.v l) (h1 : RdL replyD w w.heap.size s1.v r) :
    Calls Try.prog 34 #[.slice s.a s.n s.c, .slice s1.a s1.n s1.c] w (OwnPost (Dt.list deedD) slV (matN l r) w) := by
  obtain ⟨A, n, c⟩ := s
  obtain ⟨A', c', hv, -⟩ := h.form
  simp only [Sl.v, Value.slice.injEq] at hv
  obtain ⟨rfl, rfl, rfl⟩ := hv
  obtain ⟨B, m, e⟩ := s1
  obtain ⟨B', e', hv, -⟩ := h1.form
  simp only [Sl.v, Value.slice.injEq] at hv
  obtain ⟨rfl, rfl, rfl⟩ := hv
  have hll : l.length ≤ 2000000 := Nat.le_trans (cntL_len _ _) hl
  have hlr : r.length ≤ 2000000 := Nat.le_trans (cntL_len _ _) hl1
  have hmc : cntL cntDeed (matN l r) ≤ 2000000 := Nat.le_trans (matN_cnt l r) hl
  clear hl hl1
  obtain ⟨i0, hi0, hz0, hz1, hz2⟩ := info_parts deed_infoD
  go_enter Try.func34, Try.ntmps34
  go_wp2
  go_loopw [5, 6] (fun t i wr => ∃ (k : Nat) (v : Value), k ≤ l.length ∧ k ≤ r.length ∧ i = .int .i64 k ∧ v = t ∧ Hid (∃ rs : List (Deed × Sl), rs.map (·.1) = matN (l.take k) (r.take k) ∧ Ow deedD.enc 132 wr w.heap.size v rs ∧ ∀ q ∈ rs, deedD.rd w w.heap.size q.1 q.2) ∧ Below w.heap.size w wr) (fun _ i _ => l.length - (intOf i).toNat)
  case atStart => exact ⟨0, _, Nat.zero_le _, Nat.zero_le _, rfl, rfl, ⟨[], by simp [matN], Ow.empty deedD.enc 132 w rfl, fun q hq => by cases hq⟩, (Below.refl _ _).alloc (Nat.le_refl _) _⟩
  case round =>
    obtain ⟨k, v, hk, hk1, rfl, rfl, hB0, hb⟩ := hrel
    by_cases hlt : k < l.length ∧ k < r.length
    · obtain ⟨hlt, hlt1⟩ := hlt
      have hlti : (k : Int) < (l.length : Int) := by omega
      have hlti1 : (k : Int) < (r.length : Int) := by omega
      obtain ⟨b9, o9, s', he9, hbb9, hr9, e9⟩ := h.deed hlt
      obtain ⟨b, o, s9, rfl, hbb, hr, c0, c1, c2, c3, c4, c5, c6', c7, c8, c9, c10⟩ := (h.below hb).deed hlt
      obtain ⟨b2, o2, s2', rfl, hbb2, hr2, d0, -⟩ := (h1.below hb).reply hlt1
      have c6 : wr.cell? ⟨b, o + k * 11 + 6, none⟩ = some (.slice s'.a s'.n s'.c) := by
        simp only [Option.some.injEq, Addr.mk.injEq, and_true] at he9
        obtain ⟨rfl, rfl⟩ := he9
        exact (hb.cell (p := ⟨b, o + k * 11 + 6, none⟩) hbb).trans e9.2.2.2.2.2.2.1
      clear he9 e9 c6' hr
      have hs := Lib.hid (matN_succ l r k hlt hlt1)
      by_cases hmt : mat r[k] = true
      · obtain ⟨rs, hm, hO, hrd⟩ := hB0.out
        have hrl : rs.length ≤ 2000000 := by have := congrArg List.length hm; rw [List.length_map] at this; have := matN_len (l.take k) (r.take k); rw [List.length_take] at this; omega
        have hsz := hb.size
        have S : Hid ((rs ++ [(l[k], s')]).map (·.1) = matN (l.take (k + 1)) (r.take (k + 1))) := by show _ = _; rw [hs.out, if_pos hmt, List.map_append, hm]; rfl
        have R : Hid (∀ q ∈ rs ++ [(l[k], s')], deedD.rd w w.heap.size q.1 q.2) := by
          intro q hq
          rcases List.mem_append.1 hq with hq | hq
          · exact hrd q hq
          · rw [List.mem_singleton] at hq
            subst hq
            exact hr9
        clear hs hm hrd
        by_cases hz : r[k].code = 0
        · have t0 : (r[k].code == 0) = true := by simp [hz]
          clear hz hmt
          go_wp2_with (at_builtin; refine wpList_push_all _ deedD.enc (by decide) rfl (.tmp 34) (.tmp 39) rfl Try.underlying35 hi0 hz0 hz1 hz2 rfl (v := v) (l := rs) rfl (hO.below ((Below.refl _ _).alloc (Nat.le_refl _) _)) rfl (Rd.one deedD.enc _ _ (l[k], s') rfl rfl 1 (Nat.le_refl _) (Nat.lt_succ_self _)) (by omega) (by simp) (by decide) (by (try simp only [World.size_alloc]); omega) ?_; intro v5 w5 o5 g5 f5)
          exact ⟨⟨k + 1, v5, by omega, by omega, by go_num, rfl, ⟨_, S.out, o5, R.out⟩, (hb.alloc hb.size _).grown g5 (by simp <;> omega) (fun g hg => (hO.within g hg).1)⟩, by simp [intOf]; omega⟩
        · have t0 : (r[k].code == 0) = false := by simp [hz]
          have t9 : (r[k].code == 9) = true := by
            unfold mat at hmt
            rw [t0] at hmt
            simpa using hmt
          clear hz hmt
          go_wp2_with (at_builtin; refine wpList_push_all _ deedD.enc (by decide) rfl (.tmp 34) (.tmp 39) rfl Try.underlying35 hi0 hz0 hz1 hz2 rfl (v := v) (l := rs) rfl (hO.below ((Below.refl _ _).alloc (Nat.le_refl _) _)) rfl (Rd.one deedD.enc _ _ (l[k], s') rfl rfl 1 (Nat.le_refl _) (Nat.lt_succ_self _)) (by omega) (by simp) (by decide) (by (try simp only [World.size_alloc]); omega) ?_; intro v5 w5 o5 g5 f5)
          exact ⟨⟨k + 1, v5, by omega, by omega, by go_num, rfl, ⟨_, S.out, o5, R.out⟩, (hb.alloc hb.size _).grown g5 (by simp <;> omega) (fun g hg => (hO.within g hg).1)⟩, by simp [intOf]; omega⟩
      · have t0 : (r[k].code == 0) = false := by unfold mat at hmt; simp at hmt; simp [hmt]
        have t9 : (r[k].code == 9) = false := by unfold mat at hmt; simp at hmt; simp [hmt]
        have S : Hid (matN (l.take (k + 1)) (r.take (k + 1)) = matN (l.take k) (r.take k)) := by show _ = _; rw [hs.out, if_neg hmt, List.append_nil]
        clear hmt hs
        go_wp2
        exact ⟨⟨k + 1, v, by omega, by omega, by go_num, rfl, by rw [S.out]; exact hB0.out, hb⟩, by simp [intOf]; omega⟩
    · obtain ⟨rs, hm, hO, hrd⟩ := hB0.out
      rw [matN_take l r k (by omega)] at hm
      obtain ⟨A9, c9, rfl, -⟩ := id (Rd.of_own hO)
      have hL : RdL deedD wr wr.heap.size (Sl.v ⟨A9, rs.length, c9⟩) (matN l r) := ⟨rs, hm, Rd.of_own hO, fun q hq => deedD.rd_more (deedD.rd_below (hrd q hq) hb) hb.size⟩
      have HL := Lib.hid hL
      clear hm hrd hO hB0 hL
      have hbs := hb.size
      have fin : ∀ e w2, OwnPost (Dt.list deedD) slV (matN l r) wr e w2 → OwnPost (Dt.list deedD) slV (matN l r) w e w2 := by
        rintro e w2 ⟨s2, F2, rfl, o2, n2, b2⟩
        exact ⟨s2, F2, rfl, o2, fun b hb' => by have := n2 b hb'; omega, bnext hb b2⟩
      by_cases hz : k < l.length
      · have hn : ¬ (k < r.length) := by omega
        have hz1 : (k : Int) < (l.length : Int) := by omega
        have hn1 : ¬ ((k : Int) < (r.length : Int)) := by omega
        go_wp2_with (go_at_call 87; refine (specDeeds_own (matN l r) ⟨A9, rs.length, c9⟩ wr hmc HL.out).mono ?_; intro e w2 hp; obtain ⟨s2, F2, rfl, o2, n2, b2⟩ := fin e w2 hp; clear fin)
        go_ret
        exact ⟨s2, F2, rfl, o2, n2, b2⟩
      · have hz1 : ¬ ((k : Int) < (l.length : Int)) := by omega
        go_wp2_with (go_at_call 87; refine (specDeeds_own (matN l r) ⟨A9, rs.length, c9⟩ wr hmc HL.out).mono ?_; intro e w2 hp; obtain ⟨s2, F2, rfl, o2, n2, b2⟩ := fin e w2 hp; clear fin)
        go_ret
        exact ⟨s2, F2, rfl, o2, n2, b2⟩
end Go.Proofs.Ytcapldjhcplfmaa
