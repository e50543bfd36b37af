/-
  Segs: notes in parts. Written by program (cs.py).
-/
import Derived.Test.YtcapldjhcplfmaaCq
import Derived.Test.YtcapldjhcplfmaaQs
namespace Go.Proofs.Ytcapldjhcplfmaa
open Go.RowKit
set_option maxRecDepth 100000
set_option maxHeartbeats 1000000
set_option linter.unusedVariables false
set_option linter.unusedSimpArgs false

attribute [local go_sem] slV
def partAt (l : List Note) (m i : Nat) : Seg := ⟨seqAt l (i * m), (l.drop (i * m)).take m⟩
def cutN (l : List Note) (m k : Nat) : List Seg := (List.range k).map (partAt l m)
def cutAll (l : List Note) (m : Nat) : List Seg := cutN l m ((l.length + m - 1) / m)
def segsOf (l : List Note) (n : Int) : List Seg := if inB n 1 400 = true ∧ l.length ≤ 400 ∧ segsOk (cutAll l n.toNat) = true then cutAll l n.toNat else []
theorem cutN_succ (l : List Note) (m k : Nat) : cutN l m (k + 1) = cutN l m k ++ [partAt l m k] := by
  unfold cutN
  rw [List.range_succ, List.map_append]
  rfl
theorem cutN_len (l : List Note) (m k : Nat) : (cutN l m k).length = k := by simp [cutN]
theorem cut_end {len m k : Nat} (hm : 0 < m) (h1 : len ≤ k * m) (h2 : k = 0 ∨ (k - 1) * m < len) : (len + m - 1) / m = k := by
  refine Nat.div_eq_of_lt_le ?_ ?_
  · rcases h2 with rfl | h2
    · simp
    · by_cases h0 : k = 0
      · subst h0; simp
      · obtain ⟨j, rfl⟩ : ∃ j, k = j + 1 := ⟨k - 1, by omega⟩
        rw [Nat.add_sub_cancel] at h2
        rw [Nat.succ_mul]
        omega
  · rw [Nat.succ_mul]
    omega
theorem cntL_append {α : Type} (cnt : α → Nat) (l r : List α) : cntL cnt (l ++ r) = cntL cnt l + cntL cnt r := by
  unfold cntL
  rw [List.length_append, List.map_append, List.sum_append]
  omega
theorem cutN_cnt (l : List Note) (m : Nat) : ∀ k, cntL cntSeg (cutN l m k) + 0 ≤ cntL cntNote (l.take (k * m)) + k
  | 0 => by simp [cutN, cntL]
  | k + 1 => by
    have ih := cutN_cnt l m k
    rw [cutN_succ, cntL_append, Nat.succ_mul, List.take_add, cntL_append]
    have : cntL cntSeg [partAt l m k] = 1 + cntL cntNote ((l.drop (k * m)).take m) := by simp [cntL, cntSeg, partAt]
    omega
theorem cntL_take_le {α : Type} (cnt : α → Nat) (l : List α) (k : Nat) : cntL cnt (l.take k) ≤ cntL cnt l := by
  conv => rhs; rw [← List.take_append_drop k l, cntL_append]
  omega
theorem cntL_drop_le {α : Type} (cnt : α → Nat) (l : List α) (k : Nat) : cntL cnt (l.drop k) ≤ cntL cnt l := by
  conv => rhs; rw [← List.take_append_drop k l, cntL_append]
  omega
theorem div_le_len {len m : Nat} (hm : 0 < m) : (len + m - 1) / m ≤ len := by
  rw [Nat.div_le_iff_le_mul_add_pred hm]
  rcases len with _ | len
  · simp
  · have : len + 1 ≤ m * (len + 1) := Nat.le_mul_of_pos_left _ hm
    omega
theorem cutAll_cnt (l : List Note) (m : Nat) (hm : 0 < m) (hl : l.length ≤ 400) : cntL cntSeg (cutAll l m) ≤ cntL cntNote l + 400 := by
  have h1 := cutN_cnt l m ((l.length + m - 1) / m)
  have h2 := cntL_take_le cntNote l ((l.length + m - 1) / m * m)
  have h3 := div_le_len (len := l.length) hm
  unfold cutAll
  omega
theorem segsOf_cnt (l : List Note) (n : Int) : cntL cntSeg (segsOf l n) ≤ cntL cntNote l + 400 := by
  unfold segsOf
  split
  · rename_i h
    refine cutAll_cnt l n.toNat ?_ h.2.1
    have := h.1
    simp only [inB, Bool.and_eq_true, decide_eq_true_eq] at this
    omega
  · simp [cntL]
theorem RdL.sub {α : Type} {d : Dt α} {w : World} {B b o n c a e : Nat} {l : List α} (h : RdL d w B (.slice (some ⟨b, o, none⟩) n c) l) (h1 : a ≤ e) (h2 : e ≤ l.length) : RdL d w B (.slice (some ⟨b, o + a * d.enc.sz, none⟩) (e - a) (c - a)) ((l.drop a).take (e - a)) := by
  obtain ⟨rs, rfl, ⟨A', c', hv, hcap, hA⟩, ha⟩ := h
  simp only [Value.slice.injEq] at hv
  obtain ⟨rfl, rfl, rfl⟩ := hv
  rw [List.length_map] at h2
  refine ⟨(rs.drop a).take (e - a), by rw [List.map_take, List.map_drop], ⟨_, c - a, by rw [List.length_take, List.length_drop, Nat.min_eq_left (by omega)], by rw [List.length_take, List.length_drop]; omega, fun hp => ?_⟩, fun r hr => ha r (List.mem_of_mem_drop (List.mem_of_mem_take hr))⟩
  rw [List.length_take, List.length_drop] at hp
  obtain ⟨b', o', he, hlt, hc⟩ := hA (by omega)
  simp only [Option.some.injEq, Addr.mk.injEq, and_true] at he
  obtain ⟨rfl, rfl⟩ := he
  refine ⟨b, o + a * d.enc.sz, rfl, hlt, fun k hk j u hu => ?_⟩
  rw [List.length_take, List.length_drop] at hk
  rw [List.getElem_take, List.getElem_drop] at hu
  have := hc (a + k) (by omega) j u hu
  rw [Nat.add_mul] at this
  rw [show o + a * d.enc.sz + k * d.enc.sz + j = o + (a * d.enc.sz + k * d.enc.sz) + j from by omega]
  exact this
theorem part_take {l : List Note} {a m e : Nat} (he : e = min l.length (a + m)) : (l.drop a).take (e - a) = (l.drop a).take m := by
  by_cases h : a + m ≤ l.length
  · rw [show e - a = m from by omega]
  · rw [List.take_of_length_le (by rw [List.length_drop]; omega), List.take_of_length_le (by rw [List.length_drop]; omega)]

theorem implSegs_own (l : List Note) (s : Sl) (n : Int) (w : World) (hl : cntL cntNote l ≤ 1048576) (h : RdL noteD w w.heap.size s.v l) :
    Calls Try.prog 58 #[.slice s.a s.n s.c, .int .i64 n] w (OwnPost (Dt.list segD) slV (segsOf l n) w) := by
  obtain ⟨A, n', c⟩ := s
  obtain ⟨A', c', hv, -⟩ := h.form
  simp only [Sl.v, Value.slice.injEq] at hv
  obtain ⟨rfl, rfl, rfl⟩ := hv
  have hll : l.length ≤ 2000000 := Nat.le_trans (cntL_len cntNote _) (by omega)
  cases h1 : inB n 1 400
  case false =>
    have H := Lib.hid (show segsOf l n = [] by simp [segsOf, h1])
    go_enter Try.func58, Try.ntmps58
    go_wp2_with (go_at_call 83; refine (within_any _ _ _ _).mono ?_; rintro e w' ⟨rfl, rfl⟩)
    go_ret
    rw [H.out]
    exact ⟨⟨_, 0, _⟩, [], rfl, OwL.nil _ _ _ _, (fun b hb' => by cases hb'), (by repeat (first | exact Below.refl _ _ | refine Below.alloc ?_ (by simp <;> omega) _))⟩
  have hn : 1 ≤ n ∧ n ≤ 400 := by
    have := h1
    simp only [inB, Bool.and_eq_true, decide_eq_true_eq] at this
    exact this
  by_cases h2 : l.length ≤ 400
  case neg =>
    have H := Lib.hid (show segsOf l n = [] by simp [segsOf, h2])
    go_enter Try.func58, Try.ntmps58
    go_wp2_with (go_at_call 83; refine (within_any _ _ _ _).mono ?_; rintro e w' ⟨rfl, rfl⟩)
    go_ret
    rw [H.out]
    exact ⟨⟨_, 0, _⟩, [], rfl, OwL.nil _ _ _ _, (fun b hb' => by cases hb'), (by repeat (first | exact Below.refl _ _ | refine Below.alloc ?_ (by simp <;> omega) _))⟩
  obtain ⟨m, rfl⟩ : ∃ m : Nat, n = (m : Int) := ⟨n.toNat, by omega⟩
  have H := Lib.hid (show segsOf l (m : Int) = if segsOk (cutAll l m) = true then cutAll l m else [] by simp [segsOf, h1, h2])
  have hm : 1 ≤ m ∧ m ≤ 400 := by omega
  have hcut := cutAll_cnt l m hm.1 h2
  obtain ⟨i0, hi0, hz0, hz1, hz2⟩ := info_parts seg_infoD
  go_enter Try.func58, Try.ntmps58
  go_wp2_with (go_at_call 83; refine (within_any _ _ _ _).mono ?_; rintro e w' ⟨rfl, rfl⟩)
  go_loopw [5, 6] (fun t i wr => ∃ (k a : Nat) (v : Value), Hid (a = k * m) ∧ a < l.length + m ∧ i = .int .i64 a ∧ v = t ∧ Hid (k = 0 ∨ (k - 1) * m < l.length) ∧ Hid (Bls segD 126 wr w.heap.size v (cutN l m k)) ∧ Below w.heap.size w wr) (fun _ i _ => l.length + m - (intOf i).toNat)
  case atStart => exact ⟨0, 0, _, by show 0 = 0 * m; simp, by omega, rfl, rfl, .inl rfl, ⟨[], rfl, Bld.nil _ _ _ _⟩, Below.refl _ _⟩
  case round =>
    obtain ⟨k, a, v, ha, ham, rfl, rfl, hk, hB0, hb⟩ := hrel
    by_cases hlt : a < l.length
    · have hrd := h.below hb
      obtain ⟨b, o, s', rfl, hbb, hr, c0, -⟩ := hrd.note hlt
      obtain ⟨rs, hmm, hB⟩ := hB0.out
      have hrl : rs.length = k := by have := congrArg List.length hmm; rw [List.length_map, cutN_len] at this; exact this
      have hkl : k ≤ 800 := by
        have := ha.out
        have h9 : k * 1 ≤ k * m := Nat.mul_le_mul_left k hm.1
        omega
      have hrl' : rs.length ≤ 2000000 := by omega
      have hO := hB.ow
      have hsz := hb.size
      have hbw : b < wr.heap.size := by omega
      obtain ⟨e, he⟩ : ∃ e, e = min l.length (a + m) := ⟨_, rfl⟩
      have hmin : (if IntKind.i64.wrap ((a : Int) + (m : Int)) < (l.length : Int) then IntKind.i64.wrap ((a : Int) + (m : Int)) else (l.length : Int)) = (e : Int) := by
        rw [show IntKind.i64.wrap ((a : Int) + (m : Int)) = (a : Int) + (m : Int) from IntWalk.i64_in _ (by omega)]
        split <;> omega
      have hal : a ≤ l.length := by omega
      have hae : a < e := by omega
      have hel : e ≤ l.length := by omega
      have hcap : l.length ≤ c := by
        obtain ⟨_, c9, hv9, hc9⟩ := hrd.form
        simp only [Sl.v, Value.slice.injEq] at hv9
        omega
      have hca : ¬ c = a := by omega
      have hec : e ≤ c := by omega
      have hae2 : a ≤ e := by omega
      have hsub : RdL noteD wr w.heap.size (.slice (some ⟨b, o + a * 12, none⟩) (e - a) (c - a)) ((l.drop a).take m) := by
        have := hrd.sub (a := a) (e := e) (by omega) hel
        rw [part_take he] at this
        exact this
      have hcn : cntL cntNote ((l.drop a).take m) ≤ 2000000 := Nat.le_trans (cntL_take_le _ _ _) (Nat.le_trans (cntL_drop_le _ _ _) (by omega))
      have hx : ∀ W, Below wr.heap.size wr W → RdL noteD W W.heap.size (Sl.v ⟨some ⟨b, o + a * 12, none⟩, e - a, c - a⟩) ((l.drop a).take m) := fun W hW => RdL.more (RdL.below (RdL.more hsub hb.size) hW) hW.size
      have hpa := Lib.hid (show partAt l m k = ⟨l[a].seq, (l.drop a).take m⟩ by unfold partAt; rw [← ha.out, seqAt_get hlt])
      have Hrl := Lib.hid hrl
      have He := Lib.hid he
      have hltI : (a : Int) < (l.length : Int) := by omega
      have haeI : (a : Int) ≤ (e : Int) := by omega
      have helI : (e : Int) ≤ (l.length : Int) := by omega
      have hcapI : (e : Int) ≤ (c : Int) := by omega
      clear hrl he hrd hr hsub
      go_wp2
      refine wp_region_last (fun w' => w'.cell? ⟨b, o + a * 12, none⟩ = some (.int .i64 l[a].seq)) 19 (by kernel_rfl) ?_ (fun hHeld => ?_)
      · exact c0
      refine wpAnyL_take (i := 0) (oi := _) (v := ?_) rfl (by kernel_rfl) (by kernel_rfl) (by kernel_rfl) (by kernel_rfl) (fun _ _ _ h => h) hHeld (Or.inl ⟨by rfl, ?_⟩) ?_
      rotate_left
      · intro w hSw
        (try dsimp only at hSw)
        go_simp
        all_goals with_reducible rfl
      try simp only [Act.put, List.setIfInBounds_toArray, List.set_cons_zero, List.set_cons_succ]
      refine wpAnyL_take (i := 1) (oi := _) (v := ?_) rfl (by kernel_rfl) (by kernel_rfl) (by kernel_rfl) (by kernel_rfl) (fun _ _ _ h => h) hHeld (Or.inl ⟨by rfl, ?_⟩) ?_
      rotate_left
      · intro w hSw
        (try dsimp only at hSw)
        go_simp
        all_goals with_reducible rfl
      try simp only [Act.put, List.setIfInBounds_toArray, List.set_cons_zero, List.set_cons_succ]
      refine wpAnyL_take (i := 2) (oi := _) (v := ?_) rfl (by kernel_rfl) (by kernel_rfl) (by kernel_rfl) (by kernel_rfl) (fun _ _ _ h => h) hHeld (Or.inl ⟨by rfl, ?_⟩) ?_
      rotate_left
      · intro w hSw
        (try dsimp only at hSw)
        go_simp
        all_goals with_reducible rfl
      try simp only [Act.put, List.setIfInBounds_toArray, List.set_cons_zero, List.set_cons_succ]
      refine wpAnyL_take (i := 3) (oi := _) (v := ?_) rfl (by kernel_rfl) (by kernel_rfl) (by kernel_rfl) (by kernel_rfl) (fun _ _ _ h => h) hHeld (Or.inl ⟨by rfl, ?_⟩) ?_
      rotate_left
      · intro w hSw
        (try dsimp only at hSw)
        go_simp
        all_goals with_reducible rfl
      try simp only [Act.put, List.setIfInBounds_toArray, List.set_cons_zero, List.set_cons_succ]
      refine wpAnyL_take (i := 4) (oi := _) (v := ?_) rfl (by kernel_rfl) (by kernel_rfl) (by kernel_rfl) (by kernel_rfl) (fun _ _ _ h => h) hHeld (Or.inl ⟨by rfl, ?_⟩) ?_
      rotate_left
      · intro w hSw
        (try dsimp only at hSw)
        go_simp
        all_goals with_reducible rfl
      try simp only [Act.put, List.setIfInBounds_toArray, List.set_cons_zero, List.set_cons_succ]
      refine wpAnyL_take (i := 5) (oi := _) (v := ?_) rfl (by kernel_rfl) (by kernel_rfl) (by kernel_rfl) (by kernel_rfl) (fun _ _ _ h => h) hHeld (Or.inl ⟨by rfl, ?_⟩) ?_
      rotate_left
      · intro w hSw
        (try dsimp only at hSw)
        go_simp
        all_goals with_reducible rfl
      try simp only [Act.put, List.setIfInBounds_toArray, List.set_cons_zero, List.set_cons_succ]
      refine wpAnyL_take (i := 6) (oi := _) (v := ?_) rfl (by kernel_rfl) (by kernel_rfl) (by kernel_rfl) (by kernel_rfl) (fun _ _ _ h => h) hHeld (Or.inl ⟨by rfl, ?_⟩) ?_
      rotate_left
      · intro w hSw
        (try dsimp only at hSw)
        go_simp
        all_goals with_reducible rfl
      try simp only [Act.put, List.setIfInBounds_toArray, List.set_cons_zero, List.set_cons_succ]
      refine wpAnyL_take (i := 7) (oi := _) (v := ?_) rfl (by kernel_rfl) (by kernel_rfl) (by kernel_rfl) (by kernel_rfl) (fun _ _ _ h => h) hHeld (Or.inl ⟨by rfl, ?_⟩) ?_
      rotate_left
      · intro w hSw
        (try dsimp only at hSw)
        go_simp
        all_goals with_reducible rfl
      try simp only [Act.put, List.setIfInBounds_toArray, List.set_cons_zero, List.set_cons_succ]
      refine wpAnyL_take (i := 8) (oi := _) (v := ?_) rfl (by kernel_rfl) (by kernel_rfl) (by kernel_rfl) (by kernel_rfl) (fun _ _ _ h => h) hHeld (Or.inl ⟨by rfl, ?_⟩) ?_
      rotate_left
      · intro w hSw
        (try dsimp only at hSw)
        go_simp
        all_goals with_reducible rfl
      try simp only [Act.put, List.setIfInBounds_toArray, List.set_cons_zero, List.set_cons_succ]
      refine wpAnyL_take (i := 9) (oi := _) (v := ?_) rfl (by kernel_rfl) (by kernel_rfl) (by kernel_rfl) (by kernel_rfl) (fun _ _ _ h => h) hHeld (Or.inl ⟨by rfl, ?_⟩) ?_
      rotate_left
      · intro w hSw
        (try dsimp only at hSw)
        go_simp
        all_goals with_reducible rfl
      try simp only [Act.put, List.setIfInBounds_toArray, List.set_cons_zero, List.set_cons_succ]
      refine wpAnyL_take (i := 10) (oi := _) (v := ?_) rfl (by kernel_rfl) (by kernel_rfl) (by kernel_rfl) (by kernel_rfl) (fun _ _ _ h => h) hHeld (Or.inl ⟨by rfl, ?_⟩) ?_
      rotate_left
      · intro w hSw
        (try dsimp only at hSw)
        go_simp
        all_goals with_reducible rfl
      try simp only [Act.put, List.setIfInBounds_toArray, List.set_cons_zero, List.set_cons_succ]
      refine wpAnyL_take (i := 11) (oi := _) (v := ?_) rfl (by kernel_rfl) (by kernel_rfl) (by kernel_rfl) (by kernel_rfl) (fun _ _ _ h => h) hHeld (Or.inl ⟨by rfl, ?_⟩) ?_
      rotate_left
      · intro w hSw
        (try dsimp only at hSw)
        go_simp
        all_goals with_reducible rfl
      try simp only [Act.put, List.setIfInBounds_toArray, List.set_cons_zero, List.set_cons_succ]
      refine wpAnyL_take (i := 12) (oi := _) (v := ?_) rfl (by kernel_rfl) (by kernel_rfl) (by kernel_rfl) (by kernel_rfl) (fun _ _ _ h => h) hHeld (Or.inl ⟨by rfl, ?_⟩) ?_
      rotate_left
      · intro w hSw
        (try dsimp only at hSw)
        go_simp
        all_goals with_reducible rfl
      try simp only [Act.put, List.setIfInBounds_toArray, List.set_cons_zero, List.set_cons_succ]
      refine wpAnyL_take (i := 13) (oi := _) (v := ?_) rfl (by kernel_rfl) (by kernel_rfl) (by kernel_rfl) (by kernel_rfl) (fun _ _ _ h => h) hHeld (Or.inl ⟨by rfl, ?_⟩) ?_
      rotate_left
      · intro w hSw
        (try dsimp only at hSw)
        go_simp
        all_goals with_reducible rfl
      try simp only [Act.put, List.setIfInBounds_toArray, List.set_cons_zero, List.set_cons_succ]
      refine wpAnyL_take (i := 14) (oi := _) (v := ?_) rfl (by kernel_rfl) (by kernel_rfl) (by kernel_rfl) (by kernel_rfl) (fun _ _ _ h => h) hHeld (Or.inl ⟨by rfl, ?_⟩) ?_
      rotate_left
      · intro w hSw
        (try dsimp only at hSw)
        go_simp
        all_goals with_reducible rfl
      try simp only [Act.put, List.setIfInBounds_toArray, List.set_cons_zero, List.set_cons_succ]
      refine wpAnyL_one (i := 15) (o := _) rfl (by kernel_rfl) (fun K hK => ?_)
      (go_simp; refine (implCopyNotes_own ((l.drop a).take m) ⟨some ⟨b, o + a * 12, none⟩, e - a, c - a⟩ _ hcn (hx _ (Below.refl wr.heap.size wr).drew)).mono ?_; rintro e9 w2 ⟨s2, F2, rfl, o2, n2, b2⟩; (try dsimp only [slV]); have B2 := bnext ((Below.refl wr.heap.size wr).drew) b2; have z2 := B2.size; simp only [World.size_drew] at n2; have k0 : w2.cell? ⟨b, o + a * 12, none⟩ = some (.int .i64 l[a].seq) := (B2.cell (p := ⟨b, o + a * 12, none⟩) hbw).trans c0; have dl : b < w2.heap.size := Nat.lt_of_lt_of_le hbw z2; go_simp)
      refine hK.out _ _ (fun _ => ?_) ?_
      · exact k0
      clear hK K
      try simp only [Act.put, List.setIfInBounds_toArray, List.set_cons_zero, List.set_cons_succ]
      refine wpAnyL_one (i := 16) (o := _) rfl (by kernel_rfl) (fun K hK => ?_)
      go_simp
      refine hK.out _ _ (fun _ => ?_) ?_
      · exact k0
      clear hK K
      try simp only [Act.put, List.setIfInBounds_toArray, List.set_cons_zero, List.set_cons_succ]
      refine wpAnyL_one (i := 17) (o := _) rfl (by kernel_rfl) (fun K hK => ?_)
      go_simp
      refine hK.out _ _ (fun _ => ?_) ?_
      · (first | assumption | go_keep)
      clear hK K
      try simp only [Act.put, List.setIfInBounds_toArray, List.set_cons_zero, List.set_cons_succ]
      refine wpAnyL_one (i := 18) (o := _) rfl (by kernel_rfl) (fun K hK => ?_)
      (refine step_push_all _ segD.enc (by decide) (by rfl) (.tmp 22) (.tmp 39) (by rfl) Try.underlying25 hi0 hz0 hz1 hz2 (by rfl) (v := v) (l := rs) (by rfl) (hO.below (B2.alloc (by omega) _)) (by rfl) (Rd.one segD.enc _ _ (⟨l[a].seq, (l.drop a).take m⟩, s2) (by simp) rfl 1 (Nat.le_refl _) (Nat.lt_succ_self _)) (by omega) (by simp) (by decide) (by (try simp only [World.size_alloc]); omega) ?_; intro v5 w5 o5 g5 f5; have B5 := (B2.mono hsz).alloc (by omega) (.cells #[.int .i64 l[a].seq, .slice s2.a s2.n s2.c] 126); have B6 := Below.grown B5 g5 (by rw [World.size_alloc]; omega) (fun g hg => (hO.within g hg).1); have m0 : w5.cell? ⟨b, o + a * 12, none⟩ = some (.int .i64 l[a].seq) := (B6.cell (p := ⟨b, o + a * 12, none⟩) hbb).trans c0)
      refine hK.out _ _ (fun _ => ?_) ?_
      · exact m0
      clear hK K
      try simp only [Act.put, List.setIfInBounds_toArray, List.set_cons_zero, List.set_cons_succ]
      refine wpAnyL_one (i := 19) (o := _) rfl (by kernel_rfl) (fun K hK => ?_)
      go_simp
      refine hK.out _ _ (fun hne => absurd rfl hne) ?_
      clear hK K
      try simp only [Act.put, List.setIfInBounds_toArray, List.set_cons_zero, List.set_cons_succ]
      refine wpAnyL_done (by kernel_rfl) ?_ _
      go_wp2
      have hP := Bld.push1 (d := segD) (x := ⟨l[a].seq, (l.drop a).take m⟩) hB B2 o2 (fun b hb' => by have := n2 b hb'; omega) hsz ((Below.refl _ _).alloc (Nat.le_refl _) _) o5 g5 f5
      refine ⟨⟨k + 1, a + m, v5, ?_, by omega, by go_num, rfl, .inr ?_, ⟨rs ++ [(⟨l[a].seq, (l.drop a).take m⟩, s2)], by rw [List.map_append, hmm, cutN_succ, hpa.out]; rfl, hP⟩, ((hb.trans (B2.mono hb.size)).alloc (by omega) _).grown g5 (by simp <;> omega) (fun g hg => (hO.within g hg).1)⟩, by simp [intOf]; omega⟩
      · show a + m = (k + 1) * m
        rw [Nat.succ_mul, ha.out]
      · show (k + 1 - 1) * m < l.length
        rw [Nat.add_sub_cancel, ← ha.out]
        exact hlt
    · have hfin := Lib.hid (show cutN l m k = cutAll l m by unfold cutAll; rw [cut_end hm.1 (by have := ha.out; omega) hk.out])
      have hB1 := hB0.out
      rw [hfin.out] at hB1
      obtain ⟨s9, F9, hv9, o9, n9, b9⟩ := hB1.own hb
      injection hv9 with hv9
      obtain ⟨A9, n9', c9⟩ := s9
      obtain ⟨_, _, hq9, -⟩ := OwL.form o9
      simp only [slV, Sl.v, Value.slice.injEq] at hv9 hq9
      obtain ⟨rfl, rfl, rfl⟩ := hq9
      subst hv9
      have hC := implSegsOk_own (cutAll l m) ⟨A9, (cutAll l m).length, c9⟩ wr (by omega) (OwL.rd o9)
      clear hB1 hB0
      cases hok : segsOk (cutAll l m)
      · rw [hok] at hC
        have E := Lib.hid (show segsOf l (m : Int) = [] by rw [H.out, hok]; simp)
        clear hok
        go_wp2_with (go_at_call 20; refine hC.mono ?_; rintro e9 w9 ⟨rfl, b10⟩)
        go_ret
        rw [E.out]
        exact ⟨⟨_, 0, _⟩, [], rfl, OwL.nil _ _ _ _, (fun b hb' => by cases hb'), bnext b9 b10⟩
      · rw [hok] at hC
        have E := Lib.hid (show segsOf l (m : Int) = cutAll l m by rw [H.out, hok]; simp)
        clear hok
        go_wp2_with (go_at_call 20; refine hC.mono ?_; rintro e9 w9 ⟨rfl, b10⟩)
        go_ret
        rw [E.out]
        exact ⟨⟨A9, (cutAll l m).length, c9⟩, F9, rfl, OwL.below o9 b10, n9, bnext b9 b10⟩

theorem specSegs_own (l : List Note) (s : Sl) (n : Int) (w : World) (hl : cntL cntNote l ≤ 1048576) (h : RdL noteD w w.heap.size s.v l) :
    Calls Try.prog 56 #[.slice s.a s.n s.c, .int .i64 n] w (OwnPost (Dt.list segD) slV (segsOf l n) w) := by
  obtain ⟨A, n', c⟩ := s
  obtain ⟨A', c', hv, -⟩ := h.form
  simp only [Sl.v, Value.slice.injEq] at hv
  obtain ⟨rfl, rfl, rfl⟩ := hv
  have hll : l.length ≤ 2000000 := Nat.le_trans (cntL_len cntNote _) (by omega)
  cases h1 : inB n 1 400
  case false =>
    have H := Lib.hid (show segsOf l n = [] by simp [segsOf, h1])
    go_enter Try.func56, Try.ntmps56
    go_wp2_with (go_at_call 81; refine (l01In_any _ _ _ _).mono ?_; rintro e w' ⟨rfl, rfl⟩)
    go_ret
    rw [H.out]
    exact ⟨⟨_, 0, _⟩, [], rfl, OwL.nil _ _ _ _, (fun b hb' => by cases hb'), (by repeat (first | exact Below.refl _ _ | refine Below.alloc ?_ (by simp <;> omega) _))⟩
  have hn : 1 ≤ n ∧ n ≤ 400 := by
    have := h1
    simp only [inB, Bool.and_eq_true, decide_eq_true_eq] at this
    exact this
  by_cases h2 : l.length ≤ 400
  case neg =>
    have H := Lib.hid (show segsOf l n = [] by simp [segsOf, h2])
    go_enter Try.func56, Try.ntmps56
    go_wp2_with (go_at_call 81; refine (l01In_any _ _ _ _).mono ?_; rintro e w' ⟨rfl, rfl⟩)
    go_ret
    rw [H.out]
    exact ⟨⟨_, 0, _⟩, [], rfl, OwL.nil _ _ _ _, (fun b hb' => by cases hb'), (by repeat (first | exact Below.refl _ _ | refine Below.alloc ?_ (by simp <;> omega) _))⟩
  obtain ⟨m, rfl⟩ : ∃ m : Nat, n = (m : Int) := ⟨n.toNat, by omega⟩
  have H := Lib.hid (show segsOf l (m : Int) = if segsOk (cutAll l m) = true then cutAll l m else [] by simp [segsOf, h1, h2])
  have hm : 1 ≤ m ∧ m ≤ 400 := by omega
  have hcut := cutAll_cnt l m hm.1 h2
  obtain ⟨i0, hi0, hz0, hz1, hz2⟩ := info_parts seg_infoD
  go_enter Try.func56, Try.ntmps56
  go_wp2_with (go_at_call 81; refine (l01In_any _ _ _ _).mono ?_; rintro e w' ⟨rfl, rfl⟩)
  go_loopw [5, 6] (fun t i wr => ∃ (k a : Nat) (v : Value), Hid (a = k * m) ∧ a < l.length + m ∧ i = .int .i64 a ∧ v = t ∧ Hid (k = 0 ∨ (k - 1) * m < l.length) ∧ Hid (Bls segD 126 wr w.heap.size v (cutN l m k)) ∧ Below w.heap.size w wr) (fun _ i _ => l.length + m - (intOf i).toNat)
  case atStart => exact ⟨0, 0, _, by show 0 = 0 * m; simp, by omega, rfl, rfl, .inl rfl, ⟨[], rfl, Bld.of_empty (Ow.empty segD.enc 126 w rfl)⟩, (Below.refl _ _).alloc (Nat.le_refl _) _⟩
  case round =>
    obtain ⟨k, a, v, ha, ham, rfl, rfl, hk, hB0, hb⟩ := hrel
    by_cases hlt : a < l.length
    · have hrd := h.below hb
      obtain ⟨b, o, s', rfl, hbb, hr, c0, -⟩ := hrd.note hlt
      obtain ⟨rs, hmm, hB⟩ := hB0.out
      have hrl : rs.length = k := by have := congrArg List.length hmm; rw [List.length_map, cutN_len] at this; exact this
      have hkl : k ≤ 800 := by
        have := ha.out
        have h9 : k * 1 ≤ k * m := Nat.mul_le_mul_left k hm.1
        omega
      have hrl' : rs.length ≤ 2000000 := by omega
      have hO := hB.ow
      have hsz := hb.size
      have hbw : b < wr.heap.size := by omega
      obtain ⟨e, he⟩ : ∃ e, e = min l.length (a + m) := ⟨_, rfl⟩
      have hmin : (if IntKind.i64.wrap ((a : Int) + (m : Int)) < (l.length : Int) then IntKind.i64.wrap ((a : Int) + (m : Int)) else (l.length : Int)) = (e : Int) := by
        rw [show IntKind.i64.wrap ((a : Int) + (m : Int)) = (a : Int) + (m : Int) from IntWalk.i64_in _ (by omega)]
        split <;> omega
      have hal : a ≤ l.length := by omega
      have hae : a < e := by omega
      have hel : e ≤ l.length := by omega
      have hcap : l.length ≤ c := by
        obtain ⟨_, c9, hv9, hc9⟩ := hrd.form
        simp only [Sl.v, Value.slice.injEq] at hv9
        omega
      have hca : ¬ c = a := by omega
      have hec : e ≤ c := by omega
      have hae2 : a ≤ e := by omega
      have hsub : RdL noteD wr w.heap.size (.slice (some ⟨b, o + a * 12, none⟩) (e - a) (c - a)) ((l.drop a).take m) := by
        have := hrd.sub (a := a) (e := e) (by omega) hel
        rw [part_take he] at this
        exact this
      have hcn : cntL cntNote ((l.drop a).take m) ≤ 2000000 := Nat.le_trans (cntL_take_le _ _ _) (Nat.le_trans (cntL_drop_le _ _ _) (by omega))
      have hx : ∀ W, Below wr.heap.size wr W → RdL noteD W W.heap.size (Sl.v ⟨some ⟨b, o + a * 12, none⟩, e - a, c - a⟩) ((l.drop a).take m) := fun W hW => RdL.more (RdL.below (RdL.more hsub hb.size) hW) hW.size
      have hpa := Lib.hid (show partAt l m k = ⟨l[a].seq, (l.drop a).take m⟩ by unfold partAt; rw [← ha.out, seqAt_get hlt])
      have Hrl := Lib.hid hrl
      have He := Lib.hid he
      have hltI : (a : Int) < (l.length : Int) := by omega
      have haeI : (a : Int) ≤ (e : Int) := by omega
      have helI : (e : Int) ≤ (l.length : Int) := by omega
      have hcapI : (e : Int) ≤ (c : Int) := by omega
      clear hrl he hrd hr hsub
      clear hmin
      by_cases hcs : l.length < a + m
      · have hel2 : e = l.length := by have := He.out; omega
        subst hel2
        have hcsI : (l.length : Int) < (a : Int) + (m : Int) := by omega
        go_wp2
        refine wp_region_last (fun w' => w'.cell? ⟨b, o + a * 12, none⟩ = some (.int .i64 l[a].seq)) 14 (by kernel_rfl) ?_ (fun hHeld => ?_)
        · exact c0
        refine wpAnyL_take (i := 0) (oi := _) (v := ?_) rfl (by kernel_rfl) (by kernel_rfl) (by kernel_rfl) (by kernel_rfl) (fun _ _ _ h => h) hHeld (Or.inl ⟨by rfl, ?_⟩) ?_
        rotate_left
        · intro w hSw
          (try dsimp only at hSw)
          go_simp
          all_goals with_reducible rfl
        try simp only [Act.put, List.setIfInBounds_toArray, List.set_cons_zero, List.set_cons_succ]
        refine wpAnyL_take (i := 1) (oi := _) (v := ?_) rfl (by kernel_rfl) (by kernel_rfl) (by kernel_rfl) (by kernel_rfl) (fun _ _ _ h => h) hHeld (Or.inl ⟨by rfl, ?_⟩) ?_
        rotate_left
        · intro w hSw
          (try dsimp only at hSw)
          go_simp
          all_goals with_reducible rfl
        try simp only [Act.put, List.setIfInBounds_toArray, List.set_cons_zero, List.set_cons_succ]
        refine wpAnyL_take (i := 2) (oi := _) (v := ?_) rfl (by kernel_rfl) (by kernel_rfl) (by kernel_rfl) (by kernel_rfl) (fun _ _ _ h => h) hHeld (Or.inl ⟨by rfl, ?_⟩) ?_
        rotate_left
        · intro w hSw
          (try dsimp only at hSw)
          go_simp
          all_goals with_reducible rfl
        try simp only [Act.put, List.setIfInBounds_toArray, List.set_cons_zero, List.set_cons_succ]
        refine wpAnyL_take (i := 3) (oi := _) (v := ?_) rfl (by kernel_rfl) (by kernel_rfl) (by kernel_rfl) (by kernel_rfl) (fun _ _ _ h => h) hHeld (Or.inl ⟨by rfl, ?_⟩) ?_
        rotate_left
        · intro w hSw
          (try dsimp only at hSw)
          go_simp
          all_goals with_reducible rfl
        try simp only [Act.put, List.setIfInBounds_toArray, List.set_cons_zero, List.set_cons_succ]
        refine wpAnyL_take (i := 4) (oi := _) (v := ?_) rfl (by kernel_rfl) (by kernel_rfl) (by kernel_rfl) (by kernel_rfl) (fun _ _ _ h => h) hHeld (Or.inl ⟨by rfl, ?_⟩) ?_
        rotate_left
        · intro w hSw
          (try dsimp only at hSw)
          go_simp
          all_goals with_reducible rfl
        try simp only [Act.put, List.setIfInBounds_toArray, List.set_cons_zero, List.set_cons_succ]
        refine wpAnyL_take (i := 5) (oi := _) (v := ?_) rfl (by kernel_rfl) (by kernel_rfl) (by kernel_rfl) (by kernel_rfl) (fun _ _ _ h => h) hHeld (Or.inl ⟨by rfl, ?_⟩) ?_
        rotate_left
        · intro w hSw
          (try dsimp only at hSw)
          go_simp
          all_goals with_reducible rfl
        try simp only [Act.put, List.setIfInBounds_toArray, List.set_cons_zero, List.set_cons_succ]
        refine wpAnyL_take (i := 6) (oi := _) (v := ?_) rfl (by kernel_rfl) (by kernel_rfl) (by kernel_rfl) (by kernel_rfl) (fun _ _ _ h => h) hHeld (Or.inl ⟨by rfl, ?_⟩) ?_
        rotate_left
        · intro w hSw
          (try dsimp only at hSw)
          go_simp
          all_goals with_reducible rfl
        try simp only [Act.put, List.setIfInBounds_toArray, List.set_cons_zero, List.set_cons_succ]
        refine wpAnyL_take (i := 7) (oi := _) (v := ?_) rfl (by kernel_rfl) (by kernel_rfl) (by kernel_rfl) (by kernel_rfl) (fun _ _ _ h => h) hHeld (Or.inl ⟨by rfl, ?_⟩) ?_
        rotate_left
        · intro w hSw
          (try dsimp only at hSw)
          go_simp
          all_goals with_reducible rfl
        try simp only [Act.put, List.setIfInBounds_toArray, List.set_cons_zero, List.set_cons_succ]
        refine wpAnyL_take (i := 8) (oi := _) (v := ?_) rfl (by kernel_rfl) (by kernel_rfl) (by kernel_rfl) (by kernel_rfl) (fun _ _ _ h => h) hHeld (Or.inl ⟨by rfl, ?_⟩) ?_
        rotate_left
        · intro w hSw
          (try dsimp only at hSw)
          go_simp
          all_goals with_reducible rfl
        try simp only [Act.put, List.setIfInBounds_toArray, List.set_cons_zero, List.set_cons_succ]
        refine wpAnyL_take (i := 9) (oi := _) (v := ?_) rfl (by kernel_rfl) (by kernel_rfl) (by kernel_rfl) (by kernel_rfl) (fun _ _ _ h => h) hHeld (Or.inl ⟨by rfl, ?_⟩) ?_
        rotate_left
        · intro w hSw
          (try dsimp only at hSw)
          go_simp
          all_goals with_reducible rfl
        try simp only [Act.put, List.setIfInBounds_toArray, List.set_cons_zero, List.set_cons_succ]
        refine wpAnyL_one (i := 10) (o := _) rfl (by kernel_rfl) (fun K hK => ?_)
        (go_simp; refine (specNotes_own ((l.drop a).take m) ⟨some ⟨b, o + a * 12, none⟩, l.length - a, c - a⟩ _ hcn (hx _ (Below.refl wr.heap.size wr).drew)).mono ?_; rintro e9 w2 ⟨s2, F2, rfl, o2, n2, b2⟩; (try dsimp only [slV]); have B2 := bnext ((Below.refl wr.heap.size wr).drew) b2; have z2 := B2.size; simp only [World.size_drew] at n2; have k0 : w2.cell? ⟨b, o + a * 12, none⟩ = some (.int .i64 l[a].seq) := (B2.cell (p := ⟨b, o + a * 12, none⟩) hbw).trans c0; have dl : b < w2.heap.size := Nat.lt_of_lt_of_le hbw z2; go_simp)
        refine hK.out _ _ (fun _ => ?_) ?_
        · exact k0
        clear hK K
        try simp only [Act.put, List.setIfInBounds_toArray, List.set_cons_zero, List.set_cons_succ]
        refine wpAnyL_one (i := 11) (o := _) rfl (by kernel_rfl) (fun K hK => ?_)
        go_simp
        refine hK.out _ _ (fun _ => ?_) ?_
        · exact k0
        clear hK K
        try simp only [Act.put, List.setIfInBounds_toArray, List.set_cons_zero, List.set_cons_succ]
        refine wpAnyL_one (i := 12) (o := _) rfl (by kernel_rfl) (fun K hK => ?_)
        go_simp
        refine hK.out _ _ (fun _ => ?_) ?_
        · (first | assumption | go_keep)
        clear hK K
        try simp only [Act.put, List.setIfInBounds_toArray, List.set_cons_zero, List.set_cons_succ]
        refine wpAnyL_one (i := 13) (o := _) rfl (by kernel_rfl) (fun K hK => ?_)
        (refine step_push_all _ segD.enc (by decide) (by rfl) (.tmp 34) (.tmp 46) (by rfl) Try.underlying25 hi0 hz0 hz1 hz2 (by rfl) (v := v) (l := rs) (by rfl) (hO.below (B2.alloc (by omega) _)) (by rfl) (Rd.one segD.enc _ _ (⟨l[a].seq, (l.drop a).take m⟩, s2) (by simp) rfl 1 (Nat.le_refl _) (Nat.lt_succ_self _)) (by omega) (by simp) (by decide) (by (try simp only [World.size_alloc]); omega) ?_; intro v5 w5 o5 g5 f5; have B5 := (B2.mono hsz).alloc (by omega) (.cells #[.int .i64 l[a].seq, .slice s2.a s2.n s2.c] 126); have B6 := Below.grown B5 g5 (by rw [World.size_alloc]; omega) (fun g hg => (hO.within g hg).1); have m0 : w5.cell? ⟨b, o + a * 12, none⟩ = some (.int .i64 l[a].seq) := (B6.cell (p := ⟨b, o + a * 12, none⟩) hbb).trans c0)
        refine hK.out _ _ (fun _ => ?_) ?_
        · exact m0
        clear hK K
        try simp only [Act.put, List.setIfInBounds_toArray, List.set_cons_zero, List.set_cons_succ]
        refine wpAnyL_one (i := 14) (o := _) rfl (by kernel_rfl) (fun K hK => ?_)
        go_simp
        refine hK.out _ _ (fun hne => absurd rfl hne) ?_
        clear hK K
        try simp only [Act.put, List.setIfInBounds_toArray, List.set_cons_zero, List.set_cons_succ]
        refine wpAnyL_done (by kernel_rfl) ?_ _
        go_wp2
        have hP := Bld.push1 (d := segD) (x := ⟨l[a].seq, (l.drop a).take m⟩) hB B2 o2 (fun b hb' => by have := n2 b hb'; omega) hsz ((Below.refl _ _).alloc (Nat.le_refl _) _) o5 g5 f5
        refine ⟨⟨k + 1, a + m, v5, ?_, by omega, by go_num, rfl, .inr ?_, ⟨rs ++ [(⟨l[a].seq, (l.drop a).take m⟩, s2)], by rw [List.map_append, hmm, cutN_succ, hpa.out]; rfl, hP⟩, ((hb.trans (B2.mono hb.size)).alloc (by omega) _).grown g5 (by simp <;> omega) (fun g hg => (hO.within g hg).1)⟩, by simp [intOf]; omega⟩
        · show a + m = (k + 1) * m
          rw [Nat.succ_mul, ha.out]
        · show (k + 1 - 1) * m < l.length
          rw [Nat.add_sub_cancel, ← ha.out]
          exact hlt
      · have hel2 : e = a + m := by have := He.out; omega
        subst hel2
        have hcsI : ¬ ((l.length : Int) < (a : Int) + (m : Int)) := by omega
        rw [Nat.add_sub_cancel_left] at hx
        have hT0 : (0 : Int) ≤ (a : Int) + (m : Int) := by omega
        have hT1 : (a : Int) + (m : Int) ≤ (c : Int) := by omega
        have hT : ((a : Int) + (m : Int)).toNat = a + m := by omega
        have hT2 : a ≤ a + m := by omega
        go_wp2
        refine wp_region_last (fun w' => w'.cell? ⟨b, o + a * 12, none⟩ = some (.int .i64 l[a].seq)) 14 (by kernel_rfl) ?_ (fun hHeld => ?_)
        · exact c0
        refine wpAnyL_take (i := 0) (oi := _) (v := ?_) rfl (by kernel_rfl) (by kernel_rfl) (by kernel_rfl) (by kernel_rfl) (fun _ _ _ h => h) hHeld (Or.inl ⟨by rfl, ?_⟩) ?_
        rotate_left
        · intro w hSw
          (try dsimp only at hSw)
          go_simp
          all_goals with_reducible rfl
        try simp only [Act.put, List.setIfInBounds_toArray, List.set_cons_zero, List.set_cons_succ]
        refine wpAnyL_take (i := 1) (oi := _) (v := ?_) rfl (by kernel_rfl) (by kernel_rfl) (by kernel_rfl) (by kernel_rfl) (fun _ _ _ h => h) hHeld (Or.inl ⟨by rfl, ?_⟩) ?_
        rotate_left
        · intro w hSw
          (try dsimp only at hSw)
          go_simp
          all_goals with_reducible rfl
        try simp only [Act.put, List.setIfInBounds_toArray, List.set_cons_zero, List.set_cons_succ]
        refine wpAnyL_take (i := 2) (oi := _) (v := ?_) rfl (by kernel_rfl) (by kernel_rfl) (by kernel_rfl) (by kernel_rfl) (fun _ _ _ h => h) hHeld (Or.inl ⟨by rfl, ?_⟩) ?_
        rotate_left
        · intro w hSw
          (try dsimp only at hSw)
          go_simp
          all_goals with_reducible rfl
        try simp only [Act.put, List.setIfInBounds_toArray, List.set_cons_zero, List.set_cons_succ]
        refine wpAnyL_take (i := 3) (oi := _) (v := ?_) rfl (by kernel_rfl) (by kernel_rfl) (by kernel_rfl) (by kernel_rfl) (fun _ _ _ h => h) hHeld (Or.inl ⟨by rfl, ?_⟩) ?_
        rotate_left
        · intro w hSw
          (try dsimp only at hSw)
          go_simp
          all_goals with_reducible rfl
        try simp only [Act.put, List.setIfInBounds_toArray, List.set_cons_zero, List.set_cons_succ]
        refine wpAnyL_take (i := 4) (oi := _) (v := ?_) rfl (by kernel_rfl) (by kernel_rfl) (by kernel_rfl) (by kernel_rfl) (fun _ _ _ h => h) hHeld (Or.inl ⟨by rfl, ?_⟩) ?_
        rotate_left
        · intro w hSw
          (try dsimp only at hSw)
          go_simp
          all_goals with_reducible rfl
        try simp only [Act.put, List.setIfInBounds_toArray, List.set_cons_zero, List.set_cons_succ]
        refine wpAnyL_take (i := 5) (oi := _) (v := ?_) rfl (by kernel_rfl) (by kernel_rfl) (by kernel_rfl) (by kernel_rfl) (fun _ _ _ h => h) hHeld (Or.inl ⟨by rfl, ?_⟩) ?_
        rotate_left
        · intro w hSw
          (try dsimp only at hSw)
          go_simp
          all_goals with_reducible rfl
        try simp only [Act.put, List.setIfInBounds_toArray, List.set_cons_zero, List.set_cons_succ]
        refine wpAnyL_take (i := 6) (oi := _) (v := ?_) rfl (by kernel_rfl) (by kernel_rfl) (by kernel_rfl) (by kernel_rfl) (fun _ _ _ h => h) hHeld (Or.inl ⟨by rfl, ?_⟩) ?_
        rotate_left
        · intro w hSw
          (try dsimp only at hSw)
          go_simp
          all_goals with_reducible rfl
        try simp only [Act.put, List.setIfInBounds_toArray, List.set_cons_zero, List.set_cons_succ]
        refine wpAnyL_take (i := 7) (oi := _) (v := ?_) rfl (by kernel_rfl) (by kernel_rfl) (by kernel_rfl) (by kernel_rfl) (fun _ _ _ h => h) hHeld (Or.inl ⟨by rfl, ?_⟩) ?_
        rotate_left
        · intro w hSw
          (try dsimp only at hSw)
          go_simp
          all_goals with_reducible rfl
        try simp only [Act.put, List.setIfInBounds_toArray, List.set_cons_zero, List.set_cons_succ]
        refine wpAnyL_take (i := 8) (oi := _) (v := ?_) rfl (by kernel_rfl) (by kernel_rfl) (by kernel_rfl) (by kernel_rfl) (fun _ _ _ h => h) hHeld (Or.inl ⟨by rfl, ?_⟩) ?_
        rotate_left
        · intro w hSw
          (try dsimp only at hSw)
          go_simp
          all_goals with_reducible rfl
        try simp only [Act.put, List.setIfInBounds_toArray, List.set_cons_zero, List.set_cons_succ]
        refine wpAnyL_take (i := 9) (oi := _) (v := ?_) rfl (by kernel_rfl) (by kernel_rfl) (by kernel_rfl) (by kernel_rfl) (fun _ _ _ h => h) hHeld (Or.inl ⟨by rfl, ?_⟩) ?_
        rotate_left
        · intro w hSw
          (try dsimp only at hSw)
          go_simp
          all_goals with_reducible rfl
        try simp only [Act.put, List.setIfInBounds_toArray, List.set_cons_zero, List.set_cons_succ]
        refine wpAnyL_one (i := 10) (o := _) rfl (by kernel_rfl) (fun K hK => ?_)
        (go_simp; refine (specNotes_own ((l.drop a).take m) ⟨some ⟨b, o + a * 12, none⟩, m, c - a⟩ _ hcn (hx _ (Below.refl wr.heap.size wr).drew)).mono ?_; rintro e9 w2 ⟨s2, F2, rfl, o2, n2, b2⟩; (try dsimp only [slV]); have B2 := bnext ((Below.refl wr.heap.size wr).drew) b2; have z2 := B2.size; simp only [World.size_drew] at n2; have k0 : w2.cell? ⟨b, o + a * 12, none⟩ = some (.int .i64 l[a].seq) := (B2.cell (p := ⟨b, o + a * 12, none⟩) hbw).trans c0; have dl : b < w2.heap.size := Nat.lt_of_lt_of_le hbw z2; go_simp)
        refine hK.out _ _ (fun _ => ?_) ?_
        · exact k0
        clear hK K
        try simp only [Act.put, List.setIfInBounds_toArray, List.set_cons_zero, List.set_cons_succ]
        refine wpAnyL_one (i := 11) (o := _) rfl (by kernel_rfl) (fun K hK => ?_)
        go_simp
        refine hK.out _ _ (fun _ => ?_) ?_
        · exact k0
        clear hK K
        try simp only [Act.put, List.setIfInBounds_toArray, List.set_cons_zero, List.set_cons_succ]
        refine wpAnyL_one (i := 12) (o := _) rfl (by kernel_rfl) (fun K hK => ?_)
        go_simp
        refine hK.out _ _ (fun _ => ?_) ?_
        · (first | assumption | go_keep)
        clear hK K
        try simp only [Act.put, List.setIfInBounds_toArray, List.set_cons_zero, List.set_cons_succ]
        refine wpAnyL_one (i := 13) (o := _) rfl (by kernel_rfl) (fun K hK => ?_)
        (refine step_push_all _ segD.enc (by decide) (by rfl) (.tmp 34) (.tmp 46) (by rfl) Try.underlying25 hi0 hz0 hz1 hz2 (by rfl) (v := v) (l := rs) (by rfl) (hO.below (B2.alloc (by omega) _)) (by rfl) (Rd.one segD.enc _ _ (⟨l[a].seq, (l.drop a).take m⟩, s2) (by simp) rfl 1 (Nat.le_refl _) (Nat.lt_succ_self _)) (by omega) (by simp) (by decide) (by (try simp only [World.size_alloc]); omega) ?_; intro v5 w5 o5 g5 f5; have B5 := (B2.mono hsz).alloc (by omega) (.cells #[.int .i64 l[a].seq, .slice s2.a s2.n s2.c] 126); have B6 := Below.grown B5 g5 (by rw [World.size_alloc]; omega) (fun g hg => (hO.within g hg).1); have m0 : w5.cell? ⟨b, o + a * 12, none⟩ = some (.int .i64 l[a].seq) := (B6.cell (p := ⟨b, o + a * 12, none⟩) hbb).trans c0)
        refine hK.out _ _ (fun _ => ?_) ?_
        · exact m0
        clear hK K
        try simp only [Act.put, List.setIfInBounds_toArray, List.set_cons_zero, List.set_cons_succ]
        refine wpAnyL_one (i := 14) (o := _) rfl (by kernel_rfl) (fun K hK => ?_)
        go_simp
        refine hK.out _ _ (fun hne => absurd rfl hne) ?_
        clear hK K
        try simp only [Act.put, List.setIfInBounds_toArray, List.set_cons_zero, List.set_cons_succ]
        refine wpAnyL_done (by kernel_rfl) ?_ _
        go_wp2
        have hP := Bld.push1 (d := segD) (x := ⟨l[a].seq, (l.drop a).take m⟩) hB B2 o2 (fun b hb' => by have := n2 b hb'; omega) hsz ((Below.refl _ _).alloc (Nat.le_refl _) _) o5 g5 f5
        refine ⟨⟨k + 1, a + m, v5, ?_, by omega, by go_num, rfl, .inr ?_, ⟨rs ++ [(⟨l[a].seq, (l.drop a).take m⟩, s2)], by rw [List.map_append, hmm, cutN_succ, hpa.out]; rfl, hP⟩, ((hb.trans (B2.mono hb.size)).alloc (by omega) _).grown g5 (by simp <;> omega) (fun g hg => (hO.within g hg).1)⟩, by simp [intOf]; omega⟩
        · show a + m = (k + 1) * m
          rw [Nat.succ_mul, ha.out]
        · show (k + 1 - 1) * m < l.length
          rw [Nat.add_sub_cancel, ← ha.out]
          exact hlt
    · have hfin := Lib.hid (show cutN l m k = cutAll l m by unfold cutAll; rw [cut_end hm.1 (by have := ha.out; omega) hk.out])
      have hB1 := hB0.out
      rw [hfin.out] at hB1
      obtain ⟨s9, F9, hv9, o9, n9, b9⟩ := hB1.own hb
      injection hv9 with hv9
      obtain ⟨A9, n9', c9⟩ := s9
      obtain ⟨_, _, hq9, -⟩ := OwL.form o9
      simp only [slV, Sl.v, Value.slice.injEq] at hv9 hq9
      obtain ⟨rfl, rfl, rfl⟩ := hq9
      subst hv9
      have hC := specSegsOk_own (cutAll l m) ⟨A9, (cutAll l m).length, c9⟩ wr (by omega) (OwL.rd o9)
      clear hB1 hB0
      cases hok : segsOk (cutAll l m)
      · rw [hok] at hC
        have E := Lib.hid (show segsOf l (m : Int) = [] by rw [H.out, hok]; simp)
        clear hok
        go_wp2_with (go_at_call 18; refine hC.mono ?_; rintro e9 w9 ⟨rfl, b10⟩)
        go_ret
        rw [E.out]
        exact ⟨⟨_, 0, _⟩, [], rfl, OwL.nil _ _ _ _, (fun b hb' => by cases hb'), (bnext b9 b10).alloc (bnext b9 b10).size _⟩
      · rw [hok] at hC
        have E := Lib.hid (show segsOf l (m : Int) = cutAll l m by rw [H.out, hok]; simp)
        clear hok
        go_wp2_with (go_at_call 18; refine hC.mono ?_; rintro e9 w9 ⟨rfl, b10⟩)
        go_ret
        rw [E.out]
        exact ⟨⟨A9, (cutAll l m).length, c9⟩, F9, rfl, OwL.below o9 b10, n9, bnext b9 b10⟩
end Go.Proofs.Ytcapldjhcplfmaa
