/-
  Segs: notes in parts. Written by program (cs.py). SegFor of the reference and of the program. Yards that are right: the program's walk. Deeds at a yard: the plain words. DeedOk of the reference. Written by program (vh.py). Notes in parts: all are there, and with old parts let go there is still all that is needed behind a number. Plain. Yards that are right: the reference's walk.
-/
import Derived.Test.YtonlnjdempbfoaaZParts4
import Derived.Deep.Cut
section
namespace Go.Proofs.Ytonlnjdempbfoaa
open Go.RowKit
set_option maxRecDepth 100000
set_option maxHeartbeats 1000000
set_option linter.unusedVariables false
set_option linter.unusedSimpArgs false
attribute [local go_sem] slV
def partAt (l : List Note) (m i : Nat) : Seg := ⟨seqAt l (i * m), (l.drop (i * m)).take m⟩
def cutN (l : List Note) (m k : Nat) : List Seg := (List.range k).map (partAt l m)
def cutAll (l : List Note) (m : Nat) : List Seg := cutN l m ((l.length + m - 1) / m)
def segsOf (l : List Note) (n : Int) : List Seg := if inB n 1 400 = true ∧ l.length ≤ 400 ∧ segsOk (cutAll l n.toNat) = true then cutAll l n.toNat else []
theorem cutN_succ (l : List Note) (m k : Nat) : cutN l m (k + 1) = cutN l m k ++ [partAt l m k] := by
 unfold cutN
 rw [List.range_succ, List.map_append]
 rfl
theorem cutN_len (l : List Note) (m k : Nat) : (cutN l m k).length = k := by simp [cutN]
theorem cut_end {len m k : Nat} (hm : 0 < m) (h1 : len ≤ k * m) (h2 : k = 0 ∨ (k - 1) * m < len) : (len + m - 1) / m = k := by
 refine Nat.div_eq_of_lt_le ?_ ?_
 ·rcases h2 with rfl | h2
  ·simp
  ·by_cases h0 : k = 0
   ·subst h0; simp
   ·obtain ⟨j, rfl⟩ : ∃ j, k = j + 1 := ⟨k - 1, by omega⟩
    rw [Nat.add_sub_cancel] at h2
    rw [Nat.succ_mul]
    omega
 ·rw [Nat.succ_mul]
  omega
theorem cntL_append {α : Type} (cnt : α → Nat) (l r : List α) : cntL cnt (l ++ r) = cntL cnt l + cntL cnt r := by
 unfold cntL
 rw [List.length_append, List.map_append, List.sum_append]
 omega
theorem cutN_cnt (l : List Note) (m : Nat) : ∀ k, cntL cntSeg (cutN l m k) + 0 ≤ cntL cntNote (l.take (k * m)) + k
 | 0 => by simp [cutN, cntL]
 | k + 1 => by
  have ih := cutN_cnt l m k
  rw [cutN_succ, cntL_append, Nat.succ_mul, List.take_add, cntL_append]
  have : cntL cntSeg [partAt l m k] = 1 + cntL cntNote ((l.drop (k * m)).take m) := by simp [cntL, cntSeg, partAt]
  omega
theorem cntL_take_le {α : Type} (cnt : α → Nat) (l : List α) (k : Nat) : cntL cnt (l.take k) ≤ cntL cnt l := by
 conv => rhs; rw [← List.take_append_drop k l, cntL_append]
 omega
theorem cntL_drop_le {α : Type} (cnt : α → Nat) (l : List α) (k : Nat) : cntL cnt (l.drop k) ≤ cntL cnt l := by
 conv => rhs; rw [← List.take_append_drop k l, cntL_append]
 omega
theorem div_le_len {len m : Nat} (hm : 0 < m) : (len + m - 1) / m ≤ len := by
 rw [Nat.div_le_iff_le_mul_add_pred hm]
 rcases len with _ | len
 ·simp
 ·have : len + 1 ≤ m * (len + 1) := Nat.le_mul_of_pos_left _ hm
  omega
theorem cutAll_cnt (l : List Note) (m : Nat) (hm : 0 < m) (hl : l.length ≤ 400) : cntL cntSeg (cutAll l m) ≤ cntL cntNote l + 400 := by
 have h1 := cutN_cnt l m ((l.length + m - 1) / m)
 have h2 := cntL_take_le cntNote l ((l.length + m - 1) / m * m)
 have h3 := div_le_len (len := l.length) hm
 unfold cutAll
 omega
theorem RdL.sub {α : Type} {d : Dt α} {w : World} {B b o n c a e : Nat} {l : List α} (h : RdL d w B (.slice (some ⟨b, o, none⟩) n c) l) (h1 : a ≤ e) (h2 : e ≤ l.length) : RdL d w B (.slice (some ⟨b, o + a * d.enc.sz, none⟩) (e - a) (c - a)) ((l.drop a).take (e - a)) := by
 obtain ⟨rs, rfl, ⟨A', c', hv, hcap, hA⟩, ha⟩ := h
 simp only [Value.slice.injEq] at hv
 obtain ⟨rfl, rfl, rfl⟩ := hv
 rw [List.length_map] at h2
 refine ⟨(rs.drop a).take (e - a), by rw [List.map_take, List.map_drop], ⟨_, c - a, by rw [List.length_take, List.length_drop, Nat.min_eq_left (by omega)], by rw [List.length_take, List.length_drop]; omega, fun hp => ?_⟩, fun r hr => ha r (List.mem_of_mem_drop (List.mem_of_mem_take hr))⟩
 rw [List.length_take, List.length_drop] at hp
 obtain ⟨b', o', he, hlt, hc⟩ := hA (by omega)
 simp only [Option.some.injEq, Addr.mk.injEq, and_true] at he
 obtain ⟨rfl, rfl⟩ := he
 refine ⟨b, o + a * d.enc.sz, rfl, hlt, fun k hk j u hu => ?_⟩
 rw [List.length_take, List.length_drop] at hk
 rw [List.getElem_take, List.getElem_drop] at hu
 have := hc (a + k) (by omega) j u hu
 rw [Nat.add_mul] at this
 rw [show o + a * d.enc.sz + k * d.enc.sz + j = o + (a * d.enc.sz + k * d.enc.sz) + j from by omega]
 exact this
theorem part_take {l : List Note} {a m e : Nat} (he : e = min l.length (a + m)) : (l.drop a).take (e - a) = (l.drop a).take m := by
 by_cases h : a + m ≤ l.length
 ·rw [show e - a = m from by omega]
 ·rw [List.take_of_length_le (by rw [List.length_drop]; omega), List.take_of_length_le (by rw [List.length_drop]; omega)]
theorem implSegs_own (l : List Note) (s : Sl) (n : Int) (w : World) (hl : cntL cntNote l ≤ 1048576) (h : RdL noteD w w.heap.size s.v l) :
  Calls Try.prog 7 #[.slice s.a s.n s.c, .int .i64 n] w (OwnPost (Dt.list segD) slV (segsOf l n) w) := by
 obtain ⟨A, n', c⟩ := s
 obtain ⟨A', c', hv, -⟩ := h.form
 simp only [Sl.v, Value.slice.injEq] at hv
 obtain ⟨rfl, rfl, rfl⟩ := hv
 have hll : l.length ≤ 2000000 := Nat.le_trans (cntL_len cntNote _) (by omega)
 cases h1 : inB n 1 400
 case false =>
  have H := Lib.hid (show segsOf l n = [] by simp [segsOf, h1])
  go_enter Try.func7, Try.ntmps7
  go_wp2_with (go_at_call 21; refine (within_any _ _ _ _).mono ?_; rintro e w' ⟨rfl, rfl⟩)
  go_ret
  rw [H.out]
  exact ⟨⟨_, 0, _⟩, [], rfl, OwL.nil _ _ _ _, (fun b hb' => by cases hb'), (by repeat (first | exact Below.refl _ _ | refine Below.alloc ?_ (by simp <;> omega) _))⟩
 have hn : 1 ≤ n ∧ n ≤ 400 := by
  have := h1
  simp only [inB, Bool.and_eq_true, decide_eq_true_eq] at this
  exact this
 by_cases h2 : l.length ≤ 400
 case neg =>
  have H := Lib.hid (show segsOf l n = [] by simp [segsOf, h2])
  go_enter Try.func7, Try.ntmps7
  go_wp2_with (go_at_call 21; refine (within_any _ _ _ _).mono ?_; rintro e w' ⟨rfl, rfl⟩)
  go_ret
  rw [H.out]
  exact ⟨⟨_, 0, _⟩, [], rfl, OwL.nil _ _ _ _, (fun b hb' => by cases hb'), (by repeat (first | exact Below.refl _ _ | refine Below.alloc ?_ (by simp <;> omega) _))⟩
 obtain ⟨m, rfl⟩ : ∃ m : Nat, n = (m : Int) := ⟨n.toNat, by omega⟩
 have H := Lib.hid (show segsOf l (m : Int) = if segsOk (cutAll l m) = true then cutAll l m else [] by simp [segsOf, h1, h2])
 have hm : 1 ≤ m ∧ m ≤ 400 := by omega
 have hcut := cutAll_cnt l m hm.1 h2
 obtain ⟨i0, hi0, hz0, hz1, hz2⟩ := info_parts seg_infoD
 go_enter Try.func7, Try.ntmps7
 go_wp2_with (go_at_call 21; refine (within_any _ _ _ _).mono ?_; rintro e w' ⟨rfl, rfl⟩)
 go_loopw [5, 6] (fun t i wr => ∃ (k a : Nat) (v : Value), Hid (a = k * m) ∧ a < l.length + m ∧ i = .int .i64 a ∧ v = t ∧ Hid (k = 0 ∨ (k - 1) * m < l.length) ∧ Hid (Bls segD 51 wr w.heap.size v (cutN l m k)) ∧ Below w.heap.size w wr) (fun _ i _ => l.length + m - (intOf i).toNat)
 case atStart => exact ⟨0, 0, _, by show 0 = 0 * m; simp, by omega, rfl, rfl, .inl rfl, ⟨[], rfl, Bld.nil _ _ _ _⟩, Below.refl _ _⟩
 case round =>
  obtain ⟨k, a, v, ha, ham, rfl, rfl, hk, hB0, hb⟩ := hrel
  by_cases hlt : a < l.length
  ·have hrd := h.below hb
   obtain ⟨b, o, s', rfl, hbb, hr, c0, -⟩ := hrd.note hlt
   obtain ⟨rs, hmm, hB⟩ := hB0.out
   have hrl : rs.length = k := by have := congrArg List.length hmm; rw [List.length_map, cutN_len] at this; exact this
   have hkl : k ≤ 800 := by
    have := ha.out
    have h9 : k * 1 ≤ k * m := Nat.mul_le_mul_left k hm.1
    omega
   have hrl' : rs.length ≤ 2000000 := by omega
   have hO := hB.ow
   have hsz := hb.size
   have hbw : b < wr.heap.size := by omega
   obtain ⟨e, he⟩ : ∃ e, e = min l.length (a + m) := ⟨_, rfl⟩
   have hmin : (if IntKind.i64.wrap ((a : Int) + (m : Int)) < (l.length : Int) then IntKind.i64.wrap ((a : Int) + (m : Int)) else (l.length : Int)) = (e : Int) := by
    rw [show IntKind.i64.wrap ((a : Int) + (m : Int)) = (a : Int) + (m : Int) from IntWalk.i64_in _ (by omega)]
    split <;> omega
   have hal : a ≤ l.length := by omega
   have hae : a < e := by omega
   have hel : e ≤ l.length := by omega
   have hcap : l.length ≤ c := by
    obtain ⟨_, c9, hv9, hc9⟩ := hrd.form
    simp only [Sl.v, Value.slice.injEq] at hv9
    omega
   have hca : ¬ c = a := by omega
   have hec : e ≤ c := by omega
   have hae2 : a ≤ e := by omega
   have hsub : RdL noteD wr w.heap.size (.slice (some ⟨b, o + a * 12, none⟩) (e - a) (c - a)) ((l.drop a).take m) := by
    have := hrd.sub (a := a) (e := e) (by omega) hel
    rw [part_take he] at this
    exact this
   have hcn : cntL cntNote ((l.drop a).take m) ≤ 2000000 := Nat.le_trans (cntL_take_le _ _ _) (Nat.le_trans (cntL_drop_le _ _ _) (by omega))
   have hx : ∀ W, Below wr.heap.size wr W → RdL noteD W W.heap.size (Sl.v ⟨some ⟨b, o + a * 12, none⟩, e - a, c - a⟩) ((l.drop a).take m) := fun W hW => RdL.more (RdL.below (RdL.more hsub hb.size) hW) hW.size
   have hpa := Lib.hid (show partAt l m k = ⟨l[a].seq, (l.drop a).take m⟩ by unfold partAt; rw [← ha.out, seqAt_get hlt])
   have Hrl := Lib.hid hrl
   have He := Lib.hid he
   have hltI : (a : Int) < (l.length : Int) := by omega
   have haeI : (a : Int) ≤ (e : Int) := by omega
   have helI : (e : Int) ≤ (l.length : Int) := by omega
   have hcapI : (e : Int) ≤ (c : Int) := by omega
   clear hrl he hrd hr hsub
   go_wp2
   refine wp_region_last (fun w' => w'.cell? ⟨b, o + a * 12, none⟩ = some (.int .i64 l[a].seq)) 19 (by kernel_rfl) ?_ (fun hHeld => ?_)
   ·exact c0
   refine aT 0 hHeld ?_
   try simp only [pS]
   refine aT 1 hHeld ?_
   try simp only [pS]
   refine aT 2 hHeld ?_
   try simp only [pS]
   refine aT 3 hHeld ?_
   try simp only [pS]
   refine aT 4 hHeld ?_
   try simp only [pS]
   refine aT 5 hHeld ?_
   try simp only [pS]
   refine aT 6 hHeld ?_
   try simp only [pS]
   refine aT 7 hHeld ?_
   try simp only [pS]
   refine aT 8 hHeld ?_
   try simp only [pS]
   refine aT 9 hHeld ?_
   try simp only [pS]
   refine aT 10 hHeld ?_
   try simp only [pS]
   refine aT 11 hHeld ?_
   try simp only [pS]
   refine aT 12 hHeld ?_
   try simp only [pS]
   refine aT 13 hHeld ?_
   try simp only [pS]
   refine aT 14 hHeld ?_
   try simp only [pS]
   refine oT 15 (fun K hK => ?_)
   (go_simp; refine (implCopyNotes_own ((l.drop a).take m) ⟨some ⟨b, o + a * 12, none⟩, e - a, c - a⟩ _ hcn (hx _ (Below.refl wr.heap.size wr).drew)).mono ?_; rintro e9 w2 ⟨s2, F2, rfl, o2, n2, b2⟩; (try dsimp only [slV]); have B2 := bnext ((Below.refl wr.heap.size wr).drew) b2; have z2 := B2.size; simp only [World.size_drew] at n2; have k0 : w2.cell? ⟨b, o + a * 12, none⟩ = some (.int .i64 l[a].seq) := (B2.cell (p := ⟨b, o + a * 12, none⟩) hbw).trans c0; have dl : b < w2.heap.size := Nat.lt_of_lt_of_le hbw z2; go_simp)
   refine hK.out _ _ (fun _ => ?_) ?_
   ·exact k0
   clear hK K
   try simp only [pS]
   refine oT 16 (fun K hK => ?_)
   go_simp
   refine hK.out _ _ (fun _ => ?_) ?_
   ·exact k0
   clear hK K
   try simp only [pS]
   refine oT 17 (fun K hK => ?_)
   go_simp
   refine hK.out _ _ (fun _ => ?_) ?_
   ·(first | assumption | go_keep)
   clear hK K
   try simp only [pS]
   refine oT 18 (fun K hK => ?_)
   (refine step_push_all _ segD.enc (by decide) (by rfl) (.tmp 22) (.tmp 39) (by rfl) Try.underlying28 hi0 hz0 hz1 hz2 (by rfl) (v := v) (l := rs) (by rfl) (hO.below (B2.alloc (by omega) _)) (by rfl) (Rd.one segD.enc _ _ (⟨l[a].seq, (l.drop a).take m⟩, s2) (by simp) rfl 1 (Nat.le_refl _) (Nat.lt_succ_self _)) (by omega) (by simp) (by decide) (by (try simp only [World.size_alloc]); omega) ?_; intro v5 w5 o5 g5 f5; have B5 := (B2.mono hsz).alloc (by omega) (.cells #[.int .i64 l[a].seq, .slice s2.a s2.n s2.c] 51); have B6 := Below.grown B5 g5 (by rw [World.size_alloc]; omega) (fun g hg => (hO.within g hg).1); have m0 : w5.cell? ⟨b, o + a * 12, none⟩ = some (.int .i64 l[a].seq) := (B6.cell (p := ⟨b, o + a * 12, none⟩) hbb).trans c0)
   refine hK.out _ _ (fun _ => ?_) ?_
   ·exact m0
   clear hK K
   try simp only [pS]
   refine oT 19 (fun K hK => ?_)
   go_simp
   refine hK.out _ _ (fun hne => absurd rfl hne) ?_
   clear hK K
   try simp only [pS]
   refine wpAnyL_done (by kernel_rfl) ?_ _
   go_wp2
   have hP := Bld.push1 (d := segD) (x := ⟨l[a].seq, (l.drop a).take m⟩) hB B2 o2 (fun b hb' => by have := n2 b hb'; omega) hsz ((Below.refl _ _).alloc (Nat.le_refl _) _) o5 g5 f5
   refine ⟨⟨k + 1, a + m, v5, ?_, by omega, by go_num, rfl, .inr ?_, ⟨rs ++ [(⟨l[a].seq, (l.drop a).take m⟩, s2)], by rw [List.map_append, hmm, cutN_succ, hpa.out]; rfl, hP⟩, ((hb.trans (B2.mono hb.size)).alloc (by omega) _).grown g5 (by simp <;> omega) (fun g hg => (hO.within g hg).1)⟩, by simp [intOf]; omega⟩
   ·show a + m = (k + 1) * m
    rw [Nat.succ_mul, ha.out]
   ·show (k + 1 - 1) * m < l.length
    rw [Nat.add_sub_cancel, ← ha.out]
    exact hlt
  ·have hfin := Lib.hid (show cutN l m k = cutAll l m by unfold cutAll; rw [cut_end hm.1 (by have := ha.out; omega) hk.out])
   have hB1 := hB0.out
   rw [hfin.out] at hB1
   obtain ⟨s9, F9, hv9, o9, n9, b9⟩ := hB1.own hb
   injection hv9 with hv9
   obtain ⟨A9, n9', c9⟩ := s9
   obtain ⟨_, _, hq9, -⟩ := OwL.form o9
   simp only [slV, Sl.v, Value.slice.injEq] at hv9 hq9
   obtain ⟨rfl, rfl, rfl⟩ := hq9
   subst hv9
   have hC := implSegsOk_own (cutAll l m) ⟨A9, (cutAll l m).length, c9⟩ wr (by omega) (OwL.rd o9)
   clear hB1 hB0
   cases hok : segsOk (cutAll l m)
   ·rw [hok] at hC
    have E := Lib.hid (show segsOf l (m : Int) = [] by rw [H.out, hok]; simp)
    clear hok
    go_wp2_with (go_at_call 8; refine hC.mono ?_; rintro e9 w9 ⟨rfl, b10⟩)
    go_ret
    rw [E.out]
    exact ⟨⟨_, 0, _⟩, [], rfl, OwL.nil _ _ _ _, (fun b hb' => by cases hb'), bnext b9 b10⟩
   ·rw [hok] at hC
    have E := Lib.hid (show segsOf l (m : Int) = cutAll l m by rw [H.out, hok]; simp)
    clear hok
    go_wp2_with (go_at_call 8; refine hC.mono ?_; rintro e9 w9 ⟨rfl, b10⟩)
    go_ret
    rw [E.out]
    exact ⟨⟨A9, (cutAll l m).length, c9⟩, F9, rfl, OwL.below o9 b10, n9, bnext b9 b10⟩
theorem specSegs_own (l : List Note) (s : Sl) (n : Int) (w : World) (hl : cntL cntNote l ≤ 1048576) (h : RdL noteD w w.heap.size s.v l) :
  Calls Try.prog 16 #[.slice s.a s.n s.c, .int .i64 n] w (OwnPost (Dt.list segD) slV (segsOf l n) w) := by
 obtain ⟨A, n', c⟩ := s
 obtain ⟨A', c', hv, -⟩ := h.form
 simp only [Sl.v, Value.slice.injEq] at hv
 obtain ⟨rfl, rfl, rfl⟩ := hv
 have hll : l.length ≤ 2000000 := Nat.le_trans (cntL_len cntNote _) (by omega)
 cases h1 : inB n 1 400
 case false =>
  have H := Lib.hid (show segsOf l n = [] by simp [segsOf, h1])
  go_enter Try.func16, Try.ntmps16
  go_wp2_with (go_at_call 30; refine (l01In_any _ _ _ _).mono ?_; rintro e w' ⟨rfl, rfl⟩)
  go_ret
  rw [H.out]
  exact ⟨⟨_, 0, _⟩, [], rfl, OwL.nil _ _ _ _, (fun b hb' => by cases hb'), (by repeat (first | exact Below.refl _ _ | refine Below.alloc ?_ (by simp <;> omega) _))⟩
 have hn : 1 ≤ n ∧ n ≤ 400 := by
  have := h1
  simp only [inB, Bool.and_eq_true, decide_eq_true_eq] at this
  exact this
 by_cases h2 : l.length ≤ 400
 case neg =>
  have H := Lib.hid (show segsOf l n = [] by simp [segsOf, h2])
  go_enter Try.func16, Try.ntmps16
  go_wp2_with (go_at_call 30; refine (l01In_any _ _ _ _).mono ?_; rintro e w' ⟨rfl, rfl⟩)
  go_ret
  rw [H.out]
  exact ⟨⟨_, 0, _⟩, [], rfl, OwL.nil _ _ _ _, (fun b hb' => by cases hb'), (by repeat (first | exact Below.refl _ _ | refine Below.alloc ?_ (by simp <;> omega) _))⟩
 obtain ⟨m, rfl⟩ : ∃ m : Nat, n = (m : Int) := ⟨n.toNat, by omega⟩
 have H := Lib.hid (show segsOf l (m : Int) = if segsOk (cutAll l m) = true then cutAll l m else [] by simp [segsOf, h1, h2])
 have hm : 1 ≤ m ∧ m ≤ 400 := by omega
 have hcut := cutAll_cnt l m hm.1 h2
 obtain ⟨i0, hi0, hz0, hz1, hz2⟩ := info_parts seg_infoD
 go_enter Try.func16, Try.ntmps16
 go_wp2_with (go_at_call 30; refine (l01In_any _ _ _ _).mono ?_; rintro e w' ⟨rfl, rfl⟩)
 go_loopw [5, 6] (fun t i wr => ∃ (k a : Nat) (v : Value), Hid (a = k * m) ∧ a < l.length + m ∧ i = .int .i64 a ∧ v = t ∧ Hid (k = 0 ∨ (k - 1) * m < l.length) ∧ Hid (Bls segD 51 wr w.heap.size v (cutN l m k)) ∧ Below w.heap.size w wr) (fun _ i _ => l.length + m - (intOf i).toNat)
 case atStart => exact ⟨0, 0, _, by show 0 = 0 * m; simp, by omega, rfl, rfl, .inl rfl, ⟨[], rfl, Bld.of_empty (Ow.empty segD.enc 51 w rfl)⟩, (Below.refl _ _).alloc (Nat.le_refl _) _⟩
 case round =>
  obtain ⟨k, a, v, ha, ham, rfl, rfl, hk, hB0, hb⟩ := hrel
  by_cases hlt : a < l.length
  ·have hrd := h.below hb
   obtain ⟨b, o, s', rfl, hbb, hr, c0, -⟩ := hrd.note hlt
   obtain ⟨rs, hmm, hB⟩ := hB0.out
   have hrl : rs.length = k := by have := congrArg List.length hmm; rw [List.length_map, cutN_len] at this; exact this
   have hkl : k ≤ 800 := by
    have := ha.out
    have h9 : k * 1 ≤ k * m := Nat.mul_le_mul_left k hm.1
    omega
   have hrl' : rs.length ≤ 2000000 := by omega
   have hO := hB.ow
   have hsz := hb.size
   have hbw : b < wr.heap.size := by omega
   obtain ⟨e, he⟩ : ∃ e, e = min l.length (a + m) := ⟨_, rfl⟩
   have hmin : (if IntKind.i64.wrap ((a : Int) + (m : Int)) < (l.length : Int) then IntKind.i64.wrap ((a : Int) + (m : Int)) else (l.length : Int)) = (e : Int) := by
    rw [show IntKind.i64.wrap ((a : Int) + (m : Int)) = (a : Int) + (m : Int) from IntWalk.i64_in _ (by omega)]
    split <;> omega
   have hal : a ≤ l.length := by omega
   have hae : a < e := by omega
   have hel : e ≤ l.length := by omega
   have hcap : l.length ≤ c := by
    obtain ⟨_, c9, hv9, hc9⟩ := hrd.form
    simp only [Sl.v, Value.slice.injEq] at hv9
    omega
   have hca : ¬ c = a := by omega
   have hec : e ≤ c := by omega
   have hae2 : a ≤ e := by omega
   have hsub : RdL noteD wr w.heap.size (.slice (some ⟨b, o + a * 12, none⟩) (e - a) (c - a)) ((l.drop a).take m) := by
    have := hrd.sub (a := a) (e := e) (by omega) hel
    rw [part_take he] at this
    exact this
   have hcn : cntL cntNote ((l.drop a).take m) ≤ 2000000 := Nat.le_trans (cntL_take_le _ _ _) (Nat.le_trans (cntL_drop_le _ _ _) (by omega))
   have hx : ∀ W, Below wr.heap.size wr W → RdL noteD W W.heap.size (Sl.v ⟨some ⟨b, o + a * 12, none⟩, e - a, c - a⟩) ((l.drop a).take m) := fun W hW => RdL.more (RdL.below (RdL.more hsub hb.size) hW) hW.size
   have hpa := Lib.hid (show partAt l m k = ⟨l[a].seq, (l.drop a).take m⟩ by unfold partAt; rw [← ha.out, seqAt_get hlt])
   have Hrl := Lib.hid hrl
   have He := Lib.hid he
   have hltI : (a : Int) < (l.length : Int) := by omega
   have haeI : (a : Int) ≤ (e : Int) := by omega
   have helI : (e : Int) ≤ (l.length : Int) := by omega
   have hcapI : (e : Int) ≤ (c : Int) := by omega
   clear hrl he hrd hr hsub
   clear hmin
   by_cases hcs : l.length < a + m
   ·have hel2 : e = l.length := by have := He.out; omega
    subst hel2
    have hcsI : (l.length : Int) < (a : Int) + (m : Int) := by omega
    go_wp2
    refine wp_region_last (fun w' => w'.cell? ⟨b, o + a * 12, none⟩ = some (.int .i64 l[a].seq)) 14 (by kernel_rfl) ?_ (fun hHeld => ?_)
    ·exact c0
    refine aT 0 hHeld ?_
    try simp only [pS]
    refine aT 1 hHeld ?_
    try simp only [pS]
    refine aT 2 hHeld ?_
    try simp only [pS]
    refine aT 3 hHeld ?_
    try simp only [pS]
    refine aT 4 hHeld ?_
    try simp only [pS]
    refine aT 5 hHeld ?_
    try simp only [pS]
    refine aT 6 hHeld ?_
    try simp only [pS]
    refine aT 7 hHeld ?_
    try simp only [pS]
    refine aT 8 hHeld ?_
    try simp only [pS]
    refine aT 9 hHeld ?_
    try simp only [pS]
    refine oT 10 (fun K hK => ?_)
    (go_simp; refine (specNotes_own ((l.drop a).take m) ⟨some ⟨b, o + a * 12, none⟩, l.length - a, c - a⟩ _ hcn (hx _ (Below.refl wr.heap.size wr).drew)).mono ?_; rintro e9 w2 ⟨s2, F2, rfl, o2, n2, b2⟩; (try dsimp only [slV]); have B2 := bnext ((Below.refl wr.heap.size wr).drew) b2; have z2 := B2.size; simp only [World.size_drew] at n2; have k0 : w2.cell? ⟨b, o + a * 12, none⟩ = some (.int .i64 l[a].seq) := (B2.cell (p := ⟨b, o + a * 12, none⟩) hbw).trans c0; have dl : b < w2.heap.size := Nat.lt_of_lt_of_le hbw z2; go_simp)
    refine hK.out _ _ (fun _ => ?_) ?_
    ·exact k0
    clear hK K
    try simp only [pS]
    refine oT 11 (fun K hK => ?_)
    go_simp
    refine hK.out _ _ (fun _ => ?_) ?_
    ·exact k0
    clear hK K
    try simp only [pS]
    refine oT 12 (fun K hK => ?_)
    go_simp
    refine hK.out _ _ (fun _ => ?_) ?_
    ·(first | assumption | go_keep)
    clear hK K
    try simp only [pS]
    refine oT 13 (fun K hK => ?_)
    (refine step_push_all _ segD.enc (by decide) (by rfl) (.tmp 34) (.tmp 46) (by rfl) Try.underlying28 hi0 hz0 hz1 hz2 (by rfl) (v := v) (l := rs) (by rfl) (hO.below (B2.alloc (by omega) _)) (by rfl) (Rd.one segD.enc _ _ (⟨l[a].seq, (l.drop a).take m⟩, s2) (by simp) rfl 1 (Nat.le_refl _) (Nat.lt_succ_self _)) (by omega) (by simp) (by decide) (by (try simp only [World.size_alloc]); omega) ?_; intro v5 w5 o5 g5 f5; have B5 := (B2.mono hsz).alloc (by omega) (.cells #[.int .i64 l[a].seq, .slice s2.a s2.n s2.c] 51); have B6 := Below.grown B5 g5 (by rw [World.size_alloc]; omega) (fun g hg => (hO.within g hg).1); have m0 : w5.cell? ⟨b, o + a * 12, none⟩ = some (.int .i64 l[a].seq) := (B6.cell (p := ⟨b, o + a * 12, none⟩) hbb).trans c0)
    refine hK.out _ _ (fun _ => ?_) ?_
    ·exact m0
    clear hK K
    try simp only [pS]
    refine oT 14 (fun K hK => ?_)
    go_simp
    refine hK.out _ _ (fun hne => absurd rfl hne) ?_
    clear hK K
    try simp only [pS]
    refine wpAnyL_done (by kernel_rfl) ?_ _
    go_wp2
    have hP := Bld.push1 (d := segD) (x := ⟨l[a].seq, (l.drop a).take m⟩) hB B2 o2 (fun b hb' => by have := n2 b hb'; omega) hsz ((Below.refl _ _).alloc (Nat.le_refl _) _) o5 g5 f5
    refine ⟨⟨k + 1, a + m, v5, ?_, by omega, by go_num, rfl, .inr ?_, ⟨rs ++ [(⟨l[a].seq, (l.drop a).take m⟩, s2)], by rw [List.map_append, hmm, cutN_succ, hpa.out]; rfl, hP⟩, ((hb.trans (B2.mono hb.size)).alloc (by omega) _).grown g5 (by simp <;> omega) (fun g hg => (hO.within g hg).1)⟩, by simp [intOf]; omega⟩
    ·show a + m = (k + 1) * m
     rw [Nat.succ_mul, ha.out]
    ·show (k + 1 - 1) * m < l.length
     rw [Nat.add_sub_cancel, ← ha.out]
     exact hlt
   ·have hel2 : e = a + m := by have := He.out; omega
    subst hel2
    have hcsI : ¬ ((l.length : Int) < (a : Int) + (m : Int)) := by omega
    rw [Nat.add_sub_cancel_left] at hx
    have hT0 : (0 : Int) ≤ (a : Int) + (m : Int) := by omega
    have hT1 : (a : Int) + (m : Int) ≤ (c : Int) := by omega
    have hT : ((a : Int) + (m : Int)).toNat = a + m := by omega
    have hT2 : a ≤ a + m := by omega
    go_wp2
    refine wp_region_last (fun w' => w'.cell? ⟨b, o + a * 12, none⟩ = some (.int .i64 l[a].seq)) 14 (by kernel_rfl) ?_ (fun hHeld => ?_)
    ·exact c0
    refine aT 0 hHeld ?_
    try simp only [pS]
    refine aT 1 hHeld ?_
    try simp only [pS]
    refine aT 2 hHeld ?_
    try simp only [pS]
    refine aT 3 hHeld ?_
    try simp only [pS]
    refine aT 4 hHeld ?_
    try simp only [pS]
    refine aT 5 hHeld ?_
    try simp only [pS]
    refine aT 6 hHeld ?_
    try simp only [pS]
    refine aT 7 hHeld ?_
    try simp only [pS]
    refine aT 8 hHeld ?_
    try simp only [pS]
    refine aT 9 hHeld ?_
    try simp only [pS]
    refine oT 10 (fun K hK => ?_)
    (go_simp; refine (specNotes_own ((l.drop a).take m) ⟨some ⟨b, o + a * 12, none⟩, m, c - a⟩ _ hcn (hx _ (Below.refl wr.heap.size wr).drew)).mono ?_; rintro e9 w2 ⟨s2, F2, rfl, o2, n2, b2⟩; (try dsimp only [slV]); have B2 := bnext ((Below.refl wr.heap.size wr).drew) b2; have z2 := B2.size; simp only [World.size_drew] at n2; have k0 : w2.cell? ⟨b, o + a * 12, none⟩ = some (.int .i64 l[a].seq) := (B2.cell (p := ⟨b, o + a * 12, none⟩) hbw).trans c0; have dl : b < w2.heap.size := Nat.lt_of_lt_of_le hbw z2; go_simp)
    refine hK.out _ _ (fun _ => ?_) ?_
    ·exact k0
    clear hK K
    try simp only [pS]
    refine oT 11 (fun K hK => ?_)
    go_simp
    refine hK.out _ _ (fun _ => ?_) ?_
    ·exact k0
    clear hK K
    try simp only [pS]
    refine oT 12 (fun K hK => ?_)
    go_simp
    refine hK.out _ _ (fun _ => ?_) ?_
    ·(first | assumption | go_keep)
    clear hK K
    try simp only [pS]
    refine oT 13 (fun K hK => ?_)
    (refine step_push_all _ segD.enc (by decide) (by rfl) (.tmp 34) (.tmp 46) (by rfl) Try.underlying28 hi0 hz0 hz1 hz2 (by rfl) (v := v) (l := rs) (by rfl) (hO.below (B2.alloc (by omega) _)) (by rfl) (Rd.one segD.enc _ _ (⟨l[a].seq, (l.drop a).take m⟩, s2) (by simp) rfl 1 (Nat.le_refl _) (Nat.lt_succ_self _)) (by omega) (by simp) (by decide) (by (try simp only [World.size_alloc]); omega) ?_; intro v5 w5 o5 g5 f5; have B5 := (B2.mono hsz).alloc (by omega) (.cells #[.int .i64 l[a].seq, .slice s2.a s2.n s2.c] 51); have B6 := Below.grown B5 g5 (by rw [World.size_alloc]; omega) (fun g hg => (hO.within g hg).1); have m0 : w5.cell? ⟨b, o + a * 12, none⟩ = some (.int .i64 l[a].seq) := (B6.cell (p := ⟨b, o + a * 12, none⟩) hbb).trans c0)
    refine hK.out _ _ (fun _ => ?_) ?_
    ·exact m0
    clear hK K
    try simp only [pS]
    refine oT 14 (fun K hK => ?_)
    go_simp
    refine hK.out _ _ (fun hne => absurd rfl hne) ?_
    clear hK K
    try simp only [pS]
    refine wpAnyL_done (by kernel_rfl) ?_ _
    go_wp2
    have hP := Bld.push1 (d := segD) (x := ⟨l[a].seq, (l.drop a).take m⟩) hB B2 o2 (fun b hb' => by have := n2 b hb'; omega) hsz ((Below.refl _ _).alloc (Nat.le_refl _) _) o5 g5 f5
    refine ⟨⟨k + 1, a + m, v5, ?_, by omega, by go_num, rfl, .inr ?_, ⟨rs ++ [(⟨l[a].seq, (l.drop a).take m⟩, s2)], by rw [List.map_append, hmm, cutN_succ, hpa.out]; rfl, hP⟩, ((hb.trans (B2.mono hb.size)).alloc (by omega) _).grown g5 (by simp <;> omega) (fun g hg => (hO.within g hg).1)⟩, by simp [intOf]; omega⟩
    ·show a + m = (k + 1) * m
     rw [Nat.succ_mul, ha.out]
    ·show (k + 1 - 1) * m < l.length
     rw [Nat.add_sub_cancel, ← ha.out]
     exact hlt
  ·have hfin := Lib.hid (show cutN l m k = cutAll l m by unfold cutAll; rw [cut_end hm.1 (by have := ha.out; omega) hk.out])
   have hB1 := hB0.out
   rw [hfin.out] at hB1
   obtain ⟨s9, F9, hv9, o9, n9, b9⟩ := hB1.own hb
   injection hv9 with hv9
   obtain ⟨A9, n9', c9⟩ := s9
   obtain ⟨_, _, hq9, -⟩ := OwL.form o9
   simp only [slV, Sl.v, Value.slice.injEq] at hv9 hq9
   obtain ⟨rfl, rfl, rfl⟩ := hq9
   subst hv9
   have hC := specSegsOk_own (cutAll l m) ⟨A9, (cutAll l m).length, c9⟩ wr (by omega) (OwL.rd o9)
   clear hB1 hB0
   cases hok : segsOk (cutAll l m)
   ·rw [hok] at hC
    have E := Lib.hid (show segsOf l (m : Int) = [] by rw [H.out, hok]; simp)
    clear hok
    go_wp2_with (go_at_call 29; refine hC.mono ?_; rintro e9 w9 ⟨rfl, b10⟩)
    go_ret
    rw [E.out]
    exact ⟨⟨_, 0, _⟩, [], rfl, OwL.nil _ _ _ _, (fun b hb' => by cases hb'), (bnext b9 b10).alloc (bnext b9 b10).size _⟩
   ·rw [hok] at hC
    have E := Lib.hid (show segsOf l (m : Int) = cutAll l m by rw [H.out, hok]; simp)
    clear hok
    go_wp2_with (go_at_call 29; refine hC.mono ?_; rintro e9 w9 ⟨rfl, b10⟩)
    go_ret
    rw [E.out]
    exact ⟨⟨A9, (cutAll l m).length, c9⟩, F9, rfl, OwL.below o9 b10, n9, bnext b9 b10⟩
end Go.Proofs.Ytonlnjdempbfoaa
end
section
namespace Go.Proofs.Ytonlnjdempbfoaa
open Go.RowKit
set_option maxRecDepth 100000
set_option maxHeartbeats 2000000
set_option linter.unusedVariables false
set_option linter.unusedSimpArgs false
theorem segFor_no {l : List Seg} {q : Int} (h : segsOk l = false) : segFor l q = -1 := by simp [segFor, h]
theorem segFor_found {l : List Seg} {q : Int} {k : Nat} (ho : segsOk l = true) (hk : k < l.length) (h : ∀ j (hj : j < l.length), j < k → hasNo q l[j] = false) (hp : hasNo q l[k] = true) : segFor l q = k := by
 unfold segFor
 rw [if_pos ho]
 exact idxOf_found hk (fun j hj => h j (by omega) hj) hp
theorem segFor_none {l : List Seg} {q : Int} (ho : segsOk l = true) (h : ∀ j (hj : j < l.length), hasNo q l[j] = false) : segFor l q = -1 := by
 unfold segFor
 rw [if_pos ho]
 exact idxOf_none h
theorem specSegFor_own (l : List Seg) (s : Sl) (q : Int) (w : World) (hl : cntL cntSeg l ≤ 2000000) (h : RdL segD w w.heap.size s.v l) :
  Calls Try.prog 15 #[.slice s.a s.n s.c, .int .i64 q] w fun e w' => e = .returned (.int .i64 (segFor l q)) ∧ Below w.heap.size w w' := by
 obtain ⟨A, n, c⟩ := s
 obtain ⟨A', c', hv, -⟩ := h.form
 simp only [Sl.v, Value.slice.injEq] at hv
 obtain ⟨rfl, rfl, rfl⟩ := hv
 have hll : l.length ≤ 2000000 := Nat.le_trans (cntL_len _ _) hl
 have hcc : ∀ k (hk : k < l.length), cntSeg l[k] ≤ 2000000 := fun k hk => by have := cntL_mem (cnt := cntSeg) (List.getElem_mem hk); omega
 have hC := specSegsOk_own l ⟨A, l.length, c⟩ w hl h
 cases hok : segsOk l
 case false =>
  have H := Lib.hid (segFor_no (q := q) hok)
  rw [hok] at hC
  go_enter Try.func15, Try.ntmps15
  go_wp2_with (go_at_call 29; refine hC.mono ?_; rintro e w1 ⟨rfl, b1⟩)
  go_ret
  exact ⟨ret_int H.out.symm, b1⟩
 rw [hok] at hC
 have Hok := Lib.hid hok
 obtain ⟨-, -, hfit⟩ := segsOk_get hok
 clear hok
 go_enter Try.func15, Try.ntmps15
 go_wp2_with (go_at_call 29; refine hC.mono ?_; rintro e w1 ⟨rfl, b1⟩)
 clear hC
 have h' := h.below b1
 go_loop [5] (fun i => ∃ (k : Nat), k ≤ l.length ∧ i = .int .i64 k ∧ Hid (∀ j (hj : j < l.length), j < k → hasNo q l[j] = false)) (fun i => l.length - (intOf i).toNat)
 case atStart => exact ⟨0, Nat.zero_le _, rfl, fun j hj h0 => absurd h0 (by omega)⟩
 case round =>
  obtain ⟨k, hk, rfl, hno⟩ := hrel
  by_cases hlt : k < l.length
  ·obtain ⟨b, o, s', rfl, hbb, hr0, c0, c1⟩ := h'.seg hlt
   have hr : RdL noteD w1 w.heap.size s'.v l[k].notes := hr0
   obtain ⟨A2, n2, c2⟩ := s'
   obtain ⟨_, _, hv2, -⟩ := hr.form
   simp only [Sl.v, Value.slice.injEq] at hv2
   obtain ⟨rfl, rfl, rfl⟩ := hv2
   clear hr0
   have hnl : l[k].notes.length ≤ 2000000 := Nat.le_trans (cntL_len cntNote _) (hcc k hlt)
   have hf := Lib.hid (segFit_get hlt (hfit k hlt)).2
   go_wp2
   go_loop [6] (fun j => ∃ (i : Nat), i ≤ l[k].notes.length ∧ j = .int .i64 i ∧ Hid (∀ a (ha : a < l[k].notes.length), a < i → ¬ l[k].notes[a].seq = q)) (fun j => l[k].notes.length - (intOf j).toNat)
   case atStart => exact ⟨0, Nat.zero_le _, rfl, fun a ha h0 => absurd h0 (by omega)⟩
   case round =>
    obtain ⟨i, hi, rfl, hni⟩ := hrel
    by_cases hli : i < l[k].notes.length
    ·obtain ⟨b2, o2, s2, rfl, hbb2, hr2, d0, -⟩ := hr.note hli
     by_cases e1 : l[k].notes[i].seq = q
     ·have H := Lib.hid (segFor_found Hok.out hlt (fun j hj h0 => hno.out j hj h0) ((hasNo_iff hf.out q).2 ⟨i, hli, e1⟩))
      have t4 : (l[k].notes[i].seq == q) = true := by simp [e1]
      clear e1
      go_wp2
      go_ret
      exact ⟨ret_int H.out.symm, b1⟩
     ·have t4 : (l[k].notes[i].seq == q) = false := by simp [e1]
      have S : Hid (∀ a (ha : a < l[k].notes.length), a < i + 1 → ¬ l[k].notes[a].seq = q) := by
       intro a ha h0
       by_cases e : a = i
       ·subst e; exact e1
       ·exact hni.out a ha (by omega)
      clear e1
      go_wp2
      exact ⟨⟨i + 1, by omega, by go_num, S⟩, by simp [intOf]; omega⟩
    ·have S : Hid (∀ j (hj : j < l.length), j < k + 1 → hasNo q l[j] = false) := by
      intro j hj h0
      by_cases e : j = k
      ·subst e
       rw [← Bool.not_eq_true, hasNo_iff hf.out]
       rintro ⟨a, ha, e⟩
       exact hni.out a ha (by omega) e
      ·exact hno.out j hj (by omega)
     go_wp2
     exact ⟨⟨k + 1, by omega, by go_num, S⟩, by simp [intOf]; omega⟩
  ·have H := Lib.hid (segFor_none Hok.out (fun j hj => hno.out j hj (by omega)))
   go_wp2
   go_ret
   exact ⟨ret_int H.out.symm, b1⟩
theorem implSegFor_own (l : List Seg) (s : Sl) (q : Int) (w : World) (hl : cntL cntSeg l ≤ 2000000) (h : RdL segD w w.heap.size s.v l) :
  Calls Try.prog 12 #[.slice s.a s.n s.c, .int .i64 q] w fun e w' => e = .returned (.int .i64 (segFor l q)) ∧ Below w.heap.size w w' := by
 obtain ⟨A, n, c⟩ := s
 obtain ⟨A', c', hv, -⟩ := h.form
 simp only [Sl.v, Value.slice.injEq] at hv
 obtain ⟨rfl, rfl, rfl⟩ := hv
 have hll : l.length ≤ 2000000 := Nat.le_trans (cntL_len _ _) hl
 have hcc : ∀ k (hk : k < l.length), cntSeg l[k] ≤ 2000000 := fun k hk => by have := cntL_mem (cnt := cntSeg) (List.getElem_mem hk); omega
 have hC := implSegsOk_own l ⟨A, l.length, c⟩ w hl h
 cases hok : segsOk l
 case false =>
  have H := Lib.hid (segFor_no (q := q) hok)
  rw [hok] at hC
  go_enter Try.func12, Try.ntmps12
  go_wp2_with (go_at_call 8; refine hC.mono ?_; rintro e w1 ⟨rfl, b1⟩)
  go_ret
  exact ⟨ret_int H.out.symm, b1⟩
 rw [hok] at hC
 have Hok := Lib.hid hok
 obtain ⟨-, -, hfit⟩ := segsOk_get hok
 clear hok
 go_enter Try.func12, Try.ntmps12
 go_wp2_with (go_at_call 8; refine hC.mono ?_; rintro e w0 ⟨rfl, b1⟩)
 clear hC
 go_loopw [12] (fun i wr => ∃ (k : Nat), k ≤ l.length ∧ i = .int .i64 k ∧ Hid (∀ j (hj : j < l.length), j < k → hasNo q l[j] = false) ∧ Below w.heap.size w wr) (fun i _ => l.length - (intOf i).toNat)
 case atStart => exact ⟨0, Nat.zero_le _, rfl, fun j hj h0 => absurd h0 (by omega), b1⟩
 case round =>
  obtain ⟨k, hk, rfl, hno, hb⟩ := hrel
  by_cases hlt : k < l.length
  ·obtain ⟨b, o, s', rfl, hbb, hr0, c0, c1⟩ := (h.below hb).seg hlt
   have hr : RdL noteD wr w.heap.size s'.v l[k].notes := hr0
   obtain ⟨A2, n2, c2⟩ := s'
   obtain ⟨_, _, hv2, -⟩ := hr.form
   simp only [Sl.v, Value.slice.injEq] at hv2
   obtain ⟨rfl, rfl, rfl⟩ := hv2
   have hnl : l[k].notes.length ≤ 2000000 := Nat.le_trans (cntL_len cntNote _) (hcc k hlt)
   obtain ⟨hfi, hf⟩ := segFit_get hlt (hfit k hlt)
   have hin : 1 ≤ l[k].fr ∧ l[k].fr ≤ 1000000000 := by
    have := hfi
    simp only [inB, Bool.and_eq_true, decide_eq_true_eq] at this
    exact this
   have heo := Lib.hid (show endO l[k] = l[k].fr + l[k].notes.length from rfl)
   have hs := hb.size
   have hbw : b < wr.heap.size := by omega
   have hbb' : b < (wr.alloc (.cells #[.int .i64 l[k].fr, .slice A2 l[k].notes.length c2] 51)).heap.size := by simp; omega
   have hlc := later_cell (wr.alloc (.cells #[.int .i64 l[k].fr, .slice A2 l[k].notes.length c2] 51))
   have hnew : wr.heap.size < (wr.alloc (.cells #[.int .i64 l[k].fr, .slice A2 l[k].notes.length c2] 51)).heap.size := by simp
   have hba : Below w.heap.size w (wr.alloc (.cells #[.int .i64 l[k].fr, .slice A2 l[k].notes.length c2] 51)) := hb.alloc hb.size _
   have hxp : ∀ W, Below (wr.alloc (.cells #[.int .i64 l[k].fr, .slice A2 l[k].notes.length c2] 51)).heap.size (wr.alloc (.cells #[.int .i64 l[k].fr, .slice A2 l[k].notes.length c2] 51)) W → segD.rd W W.heap.size l[k] ⟨A2, l[k].notes.length, c2⟩ := fun W hW => segD.rd_more (segD.rd_below hr0 (Below.mono (bnext ((Below.refl _ _).alloc (Nat.le_refl _) _) hW) hb.size)) (Nat.le_trans (by simp; omega) hW.size)
   have e0 : -9223372036854775808 ≤ endO l[k] - 1 ∧ endO l[k] - 1 ≤ 9223372036854775807 := by rw [heo.out]; omega
   have ew : IntKind.i64.wrap (endO l[k] - 1) = endO l[k] - 1 := IntWalk.i64_in _ (by omega)
   by_cases hz : 0 < l[k].notes.length
   ·have hzi : (0 : Int) < (l[k].notes.length : Int) := by omega
    have t3 : decide ((0 : Int) < (l[k].notes.length : Int)) = true := by simp; omega
    cases t5 : inB q l[k].fr (endO l[k] - 1)
    ·have S : Hid (∀ j (hj : j < l.length), j < k + 1 → hasNo q l[j] = false) := by
      intro j hj h0
      by_cases e : j = k
      ·subst e; unfold hasNo; rw [t5]; simp
      ·exact hno.out j hj (by omega)
     go_wp2
     refine wp_region_pure (by kernel_rfl) (by kernel_rfl) ?_
     repeat (go_big_quiet_step ((first
      | (go_at_call 21; exact pure_same (fun u => within_any _ _ _ u.1))
      | (go_at_call 23; rename_i x; have h1 := endOf_own l[k] ⟨A2, l[k].notes.length, c2⟩ x.1 hfi hf (hcc _ hlt) (hxp x.1 x.2); exact pure_of h1))))
     refine wpQuiet_nil ?_
     rintro w1 ⟨u1, e1⟩
     have hb1 := u1.2
     rw [← e1] at hb1
     clear e1 u1 hlc
     go_wp2
     exact ⟨⟨k + 1, by omega, by go_num, S, bnext hba hb1⟩, by simp [intOf]; omega⟩
    ·have H := Lib.hid (segFor_found Hok.out hlt (fun j hj h0 => hno.out j hj h0) (show hasNo q l[k] = true by unfold hasNo; rw [t5]; simp [hz]))
     go_wp2
     refine wp_region_pure (by kernel_rfl) (by kernel_rfl) ?_
     repeat (go_big_quiet_step ((first
      | (go_at_call 21; exact pure_same (fun u => within_any _ _ _ u.1))
      | (go_at_call 23; rename_i x; have h1 := endOf_own l[k] ⟨A2, l[k].notes.length, c2⟩ x.1 hfi hf (hcc _ hlt) (hxp x.1 x.2); exact pure_of h1))))
     refine wpQuiet_nil ?_
     rintro w1 ⟨u1, e1⟩
     have hb1 := u1.2
     rw [← e1] at hb1
     clear e1 u1 hlc
     go_wp2
     go_ret
     exact ⟨ret_int H.out.symm, bnext hba hb1⟩
   ·have t3 : decide ((0 : Int) < (l[k].notes.length : Int)) = false := decide_eq_false (by omega)
    have S : Hid (∀ j (hj : j < l.length), j < k + 1 → hasNo q l[j] = false) := by
     intro j hj h0
     by_cases e : j = k
     ·subst e; unfold hasNo; simp [hz]
     ·exact hno.out j hj (by omega)
    go_wp2
    refine wp_region_pure (by kernel_rfl) (by kernel_rfl) ?_
    repeat (go_big_quiet_step ((go_at_call 21; exact pure_same (fun u => within_any _ _ _ u.1))))
    refine wpQuiet_nil ?_
    rintro w1 ⟨u1, e1⟩
    have hb1 := u1.2
    rw [← e1] at hb1
    clear e1 u1 hlc
    go_wp2
    exact ⟨⟨k + 1, by omega, by go_num, S, bnext hba hb1⟩, by simp [intOf]; omega⟩
  ·have H := Lib.hid (segFor_none Hok.out (fun j hj => hno.out j hj (by omega)))
   go_wp2
   go_ret
   exact ⟨ret_int H.out.symm, hb⟩
end Go.Proofs.Ytonlnjdempbfoaa
end
section
namespace Go.Proofs.Ytonlnjdempbfoaa
open Go.RowKit
set_option maxRecDepth 100000
set_option maxHeartbeats 4000000
set_option linter.unusedVariables false
set_option linter.unusedSimpArgs false
/-- the numbers of the entries ahead of a place -/
def seqsN (l : List Entry) (k : Nat) : List Nat := (l.take k).map fun e => e.seq.toNat
theorem seqsN_succ (l : List Entry) (k : Nat) (hk : k < l.length) : seqsN l (k + 1) = seqsN l k ++ [l[k].seq.toNat] := by
 unfold seqsN
 rw [take_snoc l k hk, List.map_append]
 rfl
theorem seqsN_nodup {l : List Entry} (h : ∀ j (hj : j < l.length), l[j].seq.toNat ∉ seqsN l j) : (l.map (·.seq)).Nodup := by
 have : ∀ k, k ≤ l.length → (seqsN l k).Nodup := by
  intro k
  induction k with
  | zero => intro _; simp [seqsN]
  | succ k ih =>
   intro hk
   rw [seqsN_succ l k (by omega), List.nodup_append]
   refine ⟨ih (by omega), by simp, fun a ha b hb e => ?_⟩
   have hb' : b = l[k].seq.toNat := by simpa using hb
   subst hb'
   subst e
   exact h k (by omega) ha
 have h2 := this l.length (Nat.le_refl _)
 unfold seqsN at h2
 rw [List.take_length] at h2
 have e : (l.map fun e => e.seq.toNat) = (l.map (·.seq)).map Int.toNat := by rw [List.map_map]; rfl
 rw [e] at h2
 exact List.Pairwise.of_map _ (fun a b hne e => hne (by rw [e])) h2
theorem nodup_seqsN {l : List Entry} (h : (l.map (·.seq)).Nodup) (hp : ∀ e ∈ l, 1 ≤ e.seq) {k : Nat} (hk : k < l.length) : l[k].seq.toNat ∉ seqsN l k := by
 intro hm
 unfold seqsN at hm
 obtain ⟨x, hx, he⟩ := List.mem_map.1 hm
 obtain ⟨j, hj, rfl⟩ := List.getElem_of_mem hx
 rw [List.length_take] at hj
 rw [List.getElem_take] at he
 have h1 := hp _ (List.getElem_mem (show j < l.length by omega))
 have h2 := hp _ (List.getElem_mem hk)
 have e : l[j].seq = l[k].seq := by omega
 have h3 := List.pairwise_iff_getElem.1 h j k (by rw [List.length_map]; omega) (by rw [List.length_map]; omega) (by omega)
 rw [List.getElem_map, List.getElem_map] at h3
 exact h3 e
theorem wait_of {p : Plan} (h : planFault p = 0) : 1 ≤ p.wait ∧ p.wait ≤ 20 := by
 have := (planFault_zero.1 h).1
 simp only [manyOk, Bool.and_eq_true] at this
 exact inB_iff.1 this.2
/-- what a yard that is right has to be, step by step -/
def entsOk (q : Int) (l : List Entry) (k : Nat) : Prop := ∀ j (hj : j < l.length), j < k → (1 ≤ l[j].seq ∧ l[j].seq ≤ q - 1) ∧ l[j].seq.toNat ∉ seqsN l j
theorem ents_step {q : Int} {l : List Entry} {k : Nat} (h : entsOk q l k) (hk : k < l.length) (h1 : inB l[k].seq 1 (q - 1) = true) (h2 : l[k].seq.toNat ∉ seqsN l k) : entsOk q l (k + 1) := by
 intro j hj hjk
 by_cases e : j = k
 ·subst e; exact ⟨inB_iff.1 h1, h2⟩
 ·exact h j hj (by omega)
def runsRight (y : Yard) (k : Nat) : Prop := ∀ j (hj : j < y.runs.length), j < k → runP y.runs[j] ∧ runAt y y.runs[j].id = j ∧ standP y.now y.runs[j] (entriesOf y)
theorem yard_of {y : Yard} (h1 : inB y.now 0 999999980 = true) (h2 : inB y.seq 1 1000000000 = true) (h3 : y.shelf.length = 4) (h4 : ∀ k (hk : k < y.shelf.length), shelfP y.shelf[k]) (h5 : entsOk y.seq (entriesOf y) (entriesOf y).length) (h6 : y.runs.length ≤ 8) (h7 : runsRight y y.runs.length) :
  yardP y ↔ slotsOf y ≤ 40 := by
 constructor
 ·intro h; exact h.2.2.2.2.2.2.2.2.2
 ·intro h
  refine ⟨inB_iff.1 h1, inB_iff.1 h2, h3, fun l hl => ?_, fun e he => ?_, seqsN_nodup (fun j hj => (h5 j hj hj).2), h6, fun k hk => ⟨(h7 k hk hk).1, (h7 k hk hk).2.1⟩, fun r hr => ?_, h⟩
  ·obtain ⟨k, hk, rfl⟩ := List.getElem_of_mem hl
   exact h4 k hk
  ·obtain ⟨k, hk, rfl⟩ := List.getElem_of_mem he
   exact (h5 k hk hk).1
  ·obtain ⟨k, hk, rfl⟩ := List.getElem_of_mem hr
   exact (h7 k hk hk).2.2
end Go.Proofs.Ytonlnjdempbfoaa
end
section
namespace Go.Proofs.Ytonlnjdempbfoaa
open Go.RowKit
set_option maxRecDepth 100000
set_option linter.unusedVariables false
set_option linter.unusedSimpArgs false
/-- one task of a list is turned -/
def modT (l : List Task) (t : Nat) (f : Task → Task) : List Task := l.set t (f (l.getD t ⟨0, 0, 0, 0⟩))
theorem modT_len (l : List Task) (t : Nat) (f : Task → Task) : (modT l t f).length = l.length := by unfold modT; rw [List.length_set]
/-- a run that is new -/
def newTask (p : Plan) (t : Nat) : Task :=
 let n := (beforeL (esOf p) p.tasks.toNat t).length
 ⟨if n = 0 then 2 else 1, n, 0, 0⟩
def newRun (id : Int) (p : Plan) : Run := ⟨id, p, 1, (List.range p.tasks.toNat).map (newTask p)⟩
theorem newRun_len (id : Int) (p : Plan) : (newRun id p).tasks.length = p.tasks.toNat := by unfold newRun; simp
/-- a task of a run is done -/
def needLess (x : Task) : Task := ⟨if x.need - 1 = 0 then 2 else x.state, x.need - 1, x.try_, x.until_⟩
def doneT (r : Run) (t : Nat) : List Task := (behindL (esOf r.plan) r.plan.tasks.toNat t).foldl (fun l b => modT l b needLess) (modT r.tasks t fun x => ⟨4, x.need, x.try_, 0⟩)
def doneR (r : Run) (t : Nat) : Run := ⟨r.id, r.plan, stL (doneT r t), doneT r t⟩
/-- all that is not done, but what failed, is left -/
def leaveX (x : Task) : Task := if x.state ≠ 4 ∧ x.state ≠ 5 then ⟨6, x.need, x.try_, 0⟩ else x
def leaveR (r : Run) (st : Int) : Run := ⟨r.id, r.plan, st, r.tasks.map leaveX⟩
/-- a task of a run fails -/
def failsR (r : Run) (t : Nat) : Run :=
 if (taskAt r t).try_ < r.plan.most then ⟨r.id, r.plan, r.state, modT r.tasks t fun x => ⟨2, x.need, x.try_, 0⟩⟩
 else leaveR ⟨r.id, r.plan, r.state, modT r.tasks t fun x => ⟨5, x.need, x.try_, 0⟩⟩ 3
/-- a task of a run is handed out -/
def startR (r : Run) (t : Nat) (now : Int) : Run := ⟨r.id, r.plan, r.state, modT r.tasks t fun x => ⟨3, x.need, x.try_ + 1, now + r.plan.wait⟩⟩
/-- a task of a run is laid on the run's shelf -/
def layT (y : Yard) (r : Run) (t : Nat) : Yard := ⟨y.now, y.seq + 1, y.shelf.set (shelfNo r.id) (putE (y.shelf.getD (shelfNo r.id) []) ⟨r.plan.prio, y.seq, r.id, t⟩), y.runs⟩
/-- those tasks that stand ready, and did not before -/
def newly (was r : Run) (n : Nat) : List Nat := (List.range n).filter fun t => (taskAt r t).state == 2 && !((taskAt was t).state == 2)
def layY (y : Yard) (was r : Run) : Yard := (newly was r r.tasks.length).foldl (fun y t => layT y r t) y
def zeroRun : Run := ⟨0, ⟨0, 0, 0, 0, []⟩, 0, []⟩
/-- a run of the yard is otherwise -/
def turnY (y : Yard) (k : Nat) (r : Run) : Yard := layY ⟨y.now, y.seq, y.shelf, y.runs.set k r⟩ (y.runs.getD k zeroRun) r
theorem newly_succ (was r : Run) (n : Nat) : newly was r (n + 1) = newly was r n ++ (if (taskAt r n).state = 2 ∧ ¬ (taskAt was n).state = 2 then [n] else []) := by
 unfold newly
 rw [List.range_succ, List.filter_append]
 congr 1
 by_cases h1 : (taskAt r n).state = 2 <;> by_cases h2 : (taskAt was n).state = 2 <;> simp [h1, h2]
theorem layT_shelf (y : Yard) (r : Run) (t : Nat) : (layT y r t).shelf.length = y.shelf.length := by unfold layT; simp
theorem fold_lay (r : Run) : ∀ (l : List Nat) (y : Yard), (l.foldl (fun y t => layT y r t) y).now = y.now ∧ (l.foldl (fun y t => layT y r t) y).runs = y.runs ∧ (l.foldl (fun y t => layT y r t) y).shelf.length = y.shelf.length ∧ (l.foldl (fun y t => layT y r t) y).seq = y.seq + l.length
 | [], y => ⟨rfl, rfl, rfl, by simp⟩
 | t :: l, y => by
  obtain ⟨h1, h2, h3, h4⟩ := fold_lay r l (layT y r t)
  refine ⟨by rw [List.foldl_cons, h1]; rfl, by rw [List.foldl_cons, h2]; rfl, by rw [List.foldl_cons, h3, layT_shelf], ?_⟩
  rw [List.foldl_cons, h4, List.length_cons, show (layT y r t).seq = y.seq + 1 from rfl]
  push_cast
  omega
/-- the yard with one shelf swept -/
noncomputable def sweptY (y : Yard) (i : Nat) : Yard := ⟨y.now, y.seq, y.shelf.set i ((y.shelf.getD i []).filter fun e => freshB y e), y.runs⟩
def victims (home draw : Int) : List Nat :=
 let d := (max draw 0 % 3).toNat
 (List.range 3).map fun i => ((home.toNat + 1 + (d + i) % 3) % 4)
/-- half of a victim's shelf is taken, where one's own is empty -/
noncomputable def takeY_ (home : Nat) (y : Yard) (v : Nat) : Yard :=
 if (y.shelf.getD home []).length = 0 then
  let z := sweptY y v
  let l := z.shelf.getD v []
  ⟨z.now, z.seq, (z.shelf.set v (l.drop (halfN l))).set home (mergedE ((z.shelf.set v (l.drop (halfN l))).getD home []) (l.take (halfN l))), z.runs⟩
 else y
end Go.Proofs.Ytonlnjdempbfoaa
end
section
namespace Go.Proofs.Ytonlnjdempbfoaa
open Go.RowKit
set_option maxRecDepth 100000
set_option maxHeartbeats 800000
set_option linter.unusedVariables false
set_option linter.unusedSimpArgs false
theorem specDeedOk1 (d : Deed) (s : Sl) (w : World) (hk : d.kind = 1) (h : deedD.rd w w.heap.size d s) :
  Calls Try.prog 45 #[deedW d s] w fun e w' => e = .returned (.bool (deedOk d)) ∧ Below w.heap.size w w' := by
 have h2 : planD.rd w w.heap.size d.plan s := h
 have HR := Lib.hid (show ∀ W, Below w.heap.size w W → planD.rd W W.heap.size d.plan s from fun W hW => planD.rd_more (planD.rd_below h2 hW) hW.size)
 clear h h2
 obtain ⟨A, n, c⟩ := s
 obtain ⟨kd, rn, p, tk, ty, wk, dr⟩ := d
 obtain rfl : kd = 1 := hk
 have X := DBox.new 37 [.int .i64 1, .int .i64 rn, .int .i64 p.prio, .int .i64 p.most, .int .i64 p.wait, .int .i64 p.tasks, .slice A n c, .int .i64 tk, .int .i64 ty, .int .i64 wk, .int .i64 dr] w (b := w.heap.size) rfl
 have B0 : Below w.heap.size w (w.alloc (.cells #[.int .i64 1, .int .i64 rn, .int .i64 p.prio, .int .i64 p.most, .int .i64 p.wait, .int .i64 p.tasks, .slice A n c, .int .i64 tk, .int .i64 ty, .int .i64 wk, .int .i64 dr] 37)) := by repeat (first | exact Below.refl _ _ | refine Below.alloc ?_ (by simp <;> omega) _)
 have e0 : inB 1 1 8 = true := rfl
 have HD := Lib.hid (show deedOk ⟨1, rn, p, tk, ty, wk, dr⟩ = (numB rn && (tk == 0) && (ty == 0) && (wk == 0) && (dr == 0) && planNums p) by simp [deedOk, inB, Bool.and_assoc])
 by_cases a0 : inB rn 0 1000000000 = false
 rotate_left
 replace a0 : inB rn 0 1000000000 = true := by simpa using a0
 by_cases a1 : (tk != 0) = true
 rotate_left
 replace a1 : (tk != 0) = false := by simpa using a1
 by_cases a2 : (ty != 0) = true
 rotate_left
 replace a2 : (ty != 0) = false := by simpa using a2
 by_cases a3 : (wk != 0) = true
 rotate_left
 replace a3 : (wk != 0) = false := by simpa using a3
 by_cases a4 : (dr != 0) = true
 rotate_left
 replace a4 : (dr != 0) = false := by simpa using a4
 ·have H := Lib.hid (show deedOk ⟨1, rn, p, tk, ty, wk, dr⟩ = planNums p by rw [HD.out]; simp only [bne_eq_false_iff_eq] at a0 a1 a2 a3 a4; simp [numB, *])
  have C := specNumPlan_any p ⟨A, n, c⟩ _ (HR.out _ B0)
  go_enter Try.func45, Try.ntmps45
  go_upto_region 6 with (first | (go_at_call 58; refine (l16Num_any _ _).mono ?_; rintro e w9 ⟨rfl, rfl⟩; (try (with_reducible first | rw [e0] | rw [a0] | rw [a1] | rw [a2] | rw [a3] | rw [a4])); dsimp only) | (go_at_call 30; refine (l01In_any _ _ _ _).mono ?_; rintro e w9 ⟨rfl, rfl⟩; (try (with_reducible first | rw [e0] | rw [a0] | rw [a1] | rw [a2] | rw [a3] | rw [a4])); dsimp only) | (go_at_call 59; refine C.mono ?_; rintro e w1 ⟨rfl, b1⟩))
  dsimp only [List.append]
  go_wp2_with (first | (go_at_call 58; refine (l16Num_any _ _).mono ?_; rintro e w9 ⟨rfl, rfl⟩; (try (with_reducible first | rw [e0] | rw [a0] | rw [a1] | rw [a2] | rw [a3] | rw [a4])); dsimp only) | (go_at_call 30; refine (l01In_any _ _ _ _).mono ?_; rintro e w9 ⟨rfl, rfl⟩; (try (with_reducible first | rw [e0] | rw [a0] | rw [a1] | rw [a2] | rw [a3] | rw [a4])); dsimp only) | (go_at_call 59; refine C.mono ?_; rintro e w1 ⟨rfl, b1⟩))
  go_ret
  exact ⟨ret_bool H.out.symm, bnext B0 b1⟩
 all_goals
  have H := Lib.hid (show deedOk ⟨1, rn, p, tk, ty, wk, dr⟩ = false by rw [HD.out]; simp only [bne_eq_false_iff_eq, bne_iff_ne] at *; simp [numB, *])
  go_enter Try.func45, Try.ntmps45
  go_upto_region 6 with (first | (go_at_call 58; refine (l16Num_any _ _).mono ?_; rintro e w9 ⟨rfl, rfl⟩; (try (with_reducible first | rw [e0] | rw [a0] | rw [a1] | rw [a2] | rw [a3] | rw [a4])); dsimp only) | (go_at_call 30; refine (l01In_any _ _ _ _).mono ?_; rintro e w9 ⟨rfl, rfl⟩; (try (with_reducible first | rw [e0] | rw [a0] | rw [a1] | rw [a2] | rw [a3] | rw [a4])); dsimp only))
  dsimp only [List.append]
  go_wp2_with (first | (go_at_call 58; refine (l16Num_any _ _).mono ?_; rintro e w9 ⟨rfl, rfl⟩; (try (with_reducible first | rw [e0] | rw [a0] | rw [a1] | rw [a2] | rw [a3] | rw [a4])); dsimp only) | (go_at_call 30; refine (l01In_any _ _ _ _).mono ?_; rintro e w9 ⟨rfl, rfl⟩; (try (with_reducible first | rw [e0] | rw [a0] | rw [a1] | rw [a2] | rw [a3] | rw [a4])); dsimp only))
  go_ret
  exact ⟨ret_bool H.out.symm, B0⟩
theorem specDeedOk2 (d : Deed) (s : Sl) (w : World) (hk : d.kind = 2) (h : deedD.rd w w.heap.size d s) :
  Calls Try.prog 45 #[deedW d s] w fun e w' => e = .returned (.bool (deedOk d)) ∧ Below w.heap.size w w' := by
 have h2 : planD.rd w w.heap.size d.plan s := h
 have HR := Lib.hid (show ∀ W, Below w.heap.size w W → planD.rd W W.heap.size d.plan s from fun W hW => planD.rd_more (planD.rd_below h2 hW) hW.size)
 clear h h2
 obtain ⟨A, n, c⟩ := s
 obtain ⟨kd, rn, p, tk, ty, wk, dr⟩ := d
 obtain rfl : kd = 2 := hk
 have X := DBox.new 37 [.int .i64 2, .int .i64 rn, .int .i64 p.prio, .int .i64 p.most, .int .i64 p.wait, .int .i64 p.tasks, .slice A n c, .int .i64 tk, .int .i64 ty, .int .i64 wk, .int .i64 dr] w (b := w.heap.size) rfl
 have B0 : Below w.heap.size w (w.alloc (.cells #[.int .i64 2, .int .i64 rn, .int .i64 p.prio, .int .i64 p.most, .int .i64 p.wait, .int .i64 p.tasks, .slice A n c, .int .i64 tk, .int .i64 ty, .int .i64 wk, .int .i64 dr] 37)) := by repeat (first | exact Below.refl _ _ | refine Below.alloc ?_ (by simp <;> omega) _)
 have e0 : inB 2 1 8 = true := rfl
 have HD := Lib.hid (show deedOk ⟨2, rn, p, tk, ty, wk, dr⟩ = ((rn == 0) && (tk == 0) && (ty == 0) && numB wk && numB dr && planNone p) by simp [deedOk, inB, Bool.and_assoc])
 by_cases a0 : (rn != 0) = true
 rotate_left
 replace a0 : (rn != 0) = false := by simpa using a0
 by_cases a1 : (tk != 0) = true
 rotate_left
 replace a1 : (tk != 0) = false := by simpa using a1
 by_cases a2 : (ty != 0) = true
 rotate_left
 replace a2 : (ty != 0) = false := by simpa using a2
 by_cases a3 : inB wk 0 1000000000 = false
 rotate_left
 replace a3 : inB wk 0 1000000000 = true := by simpa using a3
 by_cases a4 : inB dr 0 1000000000 = false
 rotate_left
 replace a4 : inB dr 0 1000000000 = true := by simpa using a4
 ·have H := Lib.hid (show deedOk ⟨2, rn, p, tk, ty, wk, dr⟩ = planNone p by rw [HD.out]; simp only [bne_eq_false_iff_eq] at a0 a1 a2 a3 a4; simp [numB, *])
  have C := specNoPlan_any p ⟨A, n, c⟩ _ (HR.out _ B0)
  go_enter Try.func45, Try.ntmps45
  go_upto_region 6 with (first | (go_at_call 58; refine (l16Num_any _ _).mono ?_; rintro e w9 ⟨rfl, rfl⟩; (try (with_reducible first | rw [e0] | rw [a0] | rw [a1] | rw [a2] | rw [a3] | rw [a4])); dsimp only) | (go_at_call 30; refine (l01In_any _ _ _ _).mono ?_; rintro e w9 ⟨rfl, rfl⟩; (try (with_reducible first | rw [e0] | rw [a0] | rw [a1] | rw [a2] | rw [a3] | rw [a4])); dsimp only) | (go_at_call 60; refine C.mono ?_; rintro e w1 ⟨rfl, b1⟩))
  dsimp only [List.append]
  go_wp2_with (first | (go_at_call 58; refine (l16Num_any _ _).mono ?_; rintro e w9 ⟨rfl, rfl⟩; (try (with_reducible first | rw [e0] | rw [a0] | rw [a1] | rw [a2] | rw [a3] | rw [a4])); dsimp only) | (go_at_call 30; refine (l01In_any _ _ _ _).mono ?_; rintro e w9 ⟨rfl, rfl⟩; (try (with_reducible first | rw [e0] | rw [a0] | rw [a1] | rw [a2] | rw [a3] | rw [a4])); dsimp only) | (go_at_call 60; refine C.mono ?_; rintro e w1 ⟨rfl, b1⟩))
  go_ret
  exact ⟨ret_bool H.out.symm, bnext B0 b1⟩
 all_goals
  have H := Lib.hid (show deedOk ⟨2, rn, p, tk, ty, wk, dr⟩ = false by rw [HD.out]; simp only [bne_eq_false_iff_eq, bne_iff_ne] at *; simp [numB, *])
  go_enter Try.func45, Try.ntmps45
  go_upto_region 6 with (first | (go_at_call 58; refine (l16Num_any _ _).mono ?_; rintro e w9 ⟨rfl, rfl⟩; (try (with_reducible first | rw [e0] | rw [a0] | rw [a1] | rw [a2] | rw [a3] | rw [a4])); dsimp only) | (go_at_call 30; refine (l01In_any _ _ _ _).mono ?_; rintro e w9 ⟨rfl, rfl⟩; (try (with_reducible first | rw [e0] | rw [a0] | rw [a1] | rw [a2] | rw [a3] | rw [a4])); dsimp only))
  dsimp only [List.append]
  go_wp2_with (first | (go_at_call 58; refine (l16Num_any _ _).mono ?_; rintro e w9 ⟨rfl, rfl⟩; (try (with_reducible first | rw [e0] | rw [a0] | rw [a1] | rw [a2] | rw [a3] | rw [a4])); dsimp only) | (go_at_call 30; refine (l01In_any _ _ _ _).mono ?_; rintro e w9 ⟨rfl, rfl⟩; (try (with_reducible first | rw [e0] | rw [a0] | rw [a1] | rw [a2] | rw [a3] | rw [a4])); dsimp only))
  go_ret
  exact ⟨ret_bool H.out.symm, B0⟩
theorem specDeedOk3 (d : Deed) (s : Sl) (w : World) (hk : d.kind = 3) (h : deedD.rd w w.heap.size d s) :
  Calls Try.prog 45 #[deedW d s] w fun e w' => e = .returned (.bool (deedOk d)) ∧ Below w.heap.size w w' := by
 have h2 : planD.rd w w.heap.size d.plan s := h
 have HR := Lib.hid (show ∀ W, Below w.heap.size w W → planD.rd W W.heap.size d.plan s from fun W hW => planD.rd_more (planD.rd_below h2 hW) hW.size)
 clear h h2
 obtain ⟨A, n, c⟩ := s
 obtain ⟨kd, rn, p, tk, ty, wk, dr⟩ := d
 obtain rfl : kd = 3 := hk
 have X := DBox.new 37 [.int .i64 3, .int .i64 rn, .int .i64 p.prio, .int .i64 p.most, .int .i64 p.wait, .int .i64 p.tasks, .slice A n c, .int .i64 tk, .int .i64 ty, .int .i64 wk, .int .i64 dr] w (b := w.heap.size) rfl
 have B0 : Below w.heap.size w (w.alloc (.cells #[.int .i64 3, .int .i64 rn, .int .i64 p.prio, .int .i64 p.most, .int .i64 p.wait, .int .i64 p.tasks, .slice A n c, .int .i64 tk, .int .i64 ty, .int .i64 wk, .int .i64 dr] 37)) := by repeat (first | exact Below.refl _ _ | refine Below.alloc ?_ (by simp <;> omega) _)
 have e0 : inB 3 1 8 = true := rfl
 have HD := Lib.hid (show deedOk ⟨3, rn, p, tk, ty, wk, dr⟩ = (numB rn && numB tk && numB ty && (wk == 0) && (dr == 0) && planNone p) by simp [deedOk, inB, Bool.and_assoc])
 by_cases a0 : inB rn 0 1000000000 = false
 rotate_left
 replace a0 : inB rn 0 1000000000 = true := by simpa using a0
 by_cases a1 : inB tk 0 1000000000 = false
 rotate_left
 replace a1 : inB tk 0 1000000000 = true := by simpa using a1
 by_cases a2 : inB ty 0 1000000000 = false
 rotate_left
 replace a2 : inB ty 0 1000000000 = true := by simpa using a2
 by_cases a3 : (wk != 0) = true
 rotate_left
 replace a3 : (wk != 0) = false := by simpa using a3
 by_cases a4 : (dr != 0) = true
 rotate_left
 replace a4 : (dr != 0) = false := by simpa using a4
 ·have H := Lib.hid (show deedOk ⟨3, rn, p, tk, ty, wk, dr⟩ = planNone p by rw [HD.out]; simp only [bne_eq_false_iff_eq] at a0 a1 a2 a3 a4; simp [numB, *])
  have C := specNoPlan_any p ⟨A, n, c⟩ _ (HR.out _ B0)
  go_enter Try.func45, Try.ntmps45
  go_upto_region 6 with (first | (go_at_call 58; refine (l16Num_any _ _).mono ?_; rintro e w9 ⟨rfl, rfl⟩; (try (with_reducible first | rw [e0] | rw [a0] | rw [a1] | rw [a2] | rw [a3] | rw [a4])); dsimp only) | (go_at_call 30; refine (l01In_any _ _ _ _).mono ?_; rintro e w9 ⟨rfl, rfl⟩; (try (with_reducible first | rw [e0] | rw [a0] | rw [a1] | rw [a2] | rw [a3] | rw [a4])); dsimp only) | (go_at_call 60; refine C.mono ?_; rintro e w1 ⟨rfl, b1⟩))
  dsimp only [List.append]
  go_wp2_with (first | (go_at_call 58; refine (l16Num_any _ _).mono ?_; rintro e w9 ⟨rfl, rfl⟩; (try (with_reducible first | rw [e0] | rw [a0] | rw [a1] | rw [a2] | rw [a3] | rw [a4])); dsimp only) | (go_at_call 30; refine (l01In_any _ _ _ _).mono ?_; rintro e w9 ⟨rfl, rfl⟩; (try (with_reducible first | rw [e0] | rw [a0] | rw [a1] | rw [a2] | rw [a3] | rw [a4])); dsimp only) | (go_at_call 60; refine C.mono ?_; rintro e w1 ⟨rfl, b1⟩))
  go_ret
  exact ⟨ret_bool H.out.symm, bnext B0 b1⟩
 all_goals
  have H := Lib.hid (show deedOk ⟨3, rn, p, tk, ty, wk, dr⟩ = false by rw [HD.out]; simp only [bne_eq_false_iff_eq, bne_iff_ne] at *; simp [numB, *])
  go_enter Try.func45, Try.ntmps45
  go_upto_region 6 with (first | (go_at_call 58; refine (l16Num_any _ _).mono ?_; rintro e w9 ⟨rfl, rfl⟩; (try (with_reducible first | rw [e0] | rw [a0] | rw [a1] | rw [a2] | rw [a3] | rw [a4])); dsimp only) | (go_at_call 30; refine (l01In_any _ _ _ _).mono ?_; rintro e w9 ⟨rfl, rfl⟩; (try (with_reducible first | rw [e0] | rw [a0] | rw [a1] | rw [a2] | rw [a3] | rw [a4])); dsimp only))
  dsimp only [List.append]
  go_wp2_with (first | (go_at_call 58; refine (l16Num_any _ _).mono ?_; rintro e w9 ⟨rfl, rfl⟩; (try (with_reducible first | rw [e0] | rw [a0] | rw [a1] | rw [a2] | rw [a3] | rw [a4])); dsimp only) | (go_at_call 30; refine (l01In_any _ _ _ _).mono ?_; rintro e w9 ⟨rfl, rfl⟩; (try (with_reducible first | rw [e0] | rw [a0] | rw [a1] | rw [a2] | rw [a3] | rw [a4])); dsimp only))
  go_ret
  exact ⟨ret_bool H.out.symm, B0⟩
theorem specDeedOk4 (d : Deed) (s : Sl) (w : World) (hk : d.kind = 4) (h : deedD.rd w w.heap.size d s) :
  Calls Try.prog 45 #[deedW d s] w fun e w' => e = .returned (.bool (deedOk d)) ∧ Below w.heap.size w w' := by
 have h2 : planD.rd w w.heap.size d.plan s := h
 have HR := Lib.hid (show ∀ W, Below w.heap.size w W → planD.rd W W.heap.size d.plan s from fun W hW => planD.rd_more (planD.rd_below h2 hW) hW.size)
 clear h h2
 obtain ⟨A, n, c⟩ := s
 obtain ⟨kd, rn, p, tk, ty, wk, dr⟩ := d
 obtain rfl : kd = 4 := hk
 have X := DBox.new 37 [.int .i64 4, .int .i64 rn, .int .i64 p.prio, .int .i64 p.most, .int .i64 p.wait, .int .i64 p.tasks, .slice A n c, .int .i64 tk, .int .i64 ty, .int .i64 wk, .int .i64 dr] w (b := w.heap.size) rfl
 have B0 : Below w.heap.size w (w.alloc (.cells #[.int .i64 4, .int .i64 rn, .int .i64 p.prio, .int .i64 p.most, .int .i64 p.wait, .int .i64 p.tasks, .slice A n c, .int .i64 tk, .int .i64 ty, .int .i64 wk, .int .i64 dr] 37)) := by repeat (first | exact Below.refl _ _ | refine Below.alloc ?_ (by simp <;> omega) _)
 have e0 : inB 4 1 8 = true := rfl
 have HD := Lib.hid (show deedOk ⟨4, rn, p, tk, ty, wk, dr⟩ = (numB rn && numB tk && numB ty && (wk == 0) && (dr == 0) && planNone p) by simp [deedOk, inB, Bool.and_assoc])
 by_cases a0 : inB rn 0 1000000000 = false
 rotate_left
 replace a0 : inB rn 0 1000000000 = true := by simpa using a0
 by_cases a1 : inB tk 0 1000000000 = false
 rotate_left
 replace a1 : inB tk 0 1000000000 = true := by simpa using a1
 by_cases a2 : inB ty 0 1000000000 = false
 rotate_left
 replace a2 : inB ty 0 1000000000 = true := by simpa using a2
 by_cases a3 : (wk != 0) = true
 rotate_left
 replace a3 : (wk != 0) = false := by simpa using a3
 by_cases a4 : (dr != 0) = true
 rotate_left
 replace a4 : (dr != 0) = false := by simpa using a4
 ·have H := Lib.hid (show deedOk ⟨4, rn, p, tk, ty, wk, dr⟩ = planNone p by rw [HD.out]; simp only [bne_eq_false_iff_eq] at a0 a1 a2 a3 a4; simp [numB, *])
  have C := specNoPlan_any p ⟨A, n, c⟩ _ (HR.out _ B0)
  go_enter Try.func45, Try.ntmps45
  go_upto_region 6 with (first | (go_at_call 58; refine (l16Num_any _ _).mono ?_; rintro e w9 ⟨rfl, rfl⟩; (try (with_reducible first | rw [e0] | rw [a0] | rw [a1] | rw [a2] | rw [a3] | rw [a4])); dsimp only) | (go_at_call 30; refine (l01In_any _ _ _ _).mono ?_; rintro e w9 ⟨rfl, rfl⟩; (try (with_reducible first | rw [e0] | rw [a0] | rw [a1] | rw [a2] | rw [a3] | rw [a4])); dsimp only) | (go_at_call 60; refine C.mono ?_; rintro e w1 ⟨rfl, b1⟩))
  dsimp only [List.append]
  go_wp2_with (first | (go_at_call 58; refine (l16Num_any _ _).mono ?_; rintro e w9 ⟨rfl, rfl⟩; (try (with_reducible first | rw [e0] | rw [a0] | rw [a1] | rw [a2] | rw [a3] | rw [a4])); dsimp only) | (go_at_call 30; refine (l01In_any _ _ _ _).mono ?_; rintro e w9 ⟨rfl, rfl⟩; (try (with_reducible first | rw [e0] | rw [a0] | rw [a1] | rw [a2] | rw [a3] | rw [a4])); dsimp only) | (go_at_call 60; refine C.mono ?_; rintro e w1 ⟨rfl, b1⟩))
  go_ret
  exact ⟨ret_bool H.out.symm, bnext B0 b1⟩
 all_goals
  have H := Lib.hid (show deedOk ⟨4, rn, p, tk, ty, wk, dr⟩ = false by rw [HD.out]; simp only [bne_eq_false_iff_eq, bne_iff_ne] at *; simp [numB, *])
  go_enter Try.func45, Try.ntmps45
  go_upto_region 6 with (first | (go_at_call 58; refine (l16Num_any _ _).mono ?_; rintro e w9 ⟨rfl, rfl⟩; (try (with_reducible first | rw [e0] | rw [a0] | rw [a1] | rw [a2] | rw [a3] | rw [a4])); dsimp only) | (go_at_call 30; refine (l01In_any _ _ _ _).mono ?_; rintro e w9 ⟨rfl, rfl⟩; (try (with_reducible first | rw [e0] | rw [a0] | rw [a1] | rw [a2] | rw [a3] | rw [a4])); dsimp only))
  dsimp only [List.append]
  go_wp2_with (first | (go_at_call 58; refine (l16Num_any _ _).mono ?_; rintro e w9 ⟨rfl, rfl⟩; (try (with_reducible first | rw [e0] | rw [a0] | rw [a1] | rw [a2] | rw [a3] | rw [a4])); dsimp only) | (go_at_call 30; refine (l01In_any _ _ _ _).mono ?_; rintro e w9 ⟨rfl, rfl⟩; (try (with_reducible first | rw [e0] | rw [a0] | rw [a1] | rw [a2] | rw [a3] | rw [a4])); dsimp only))
  go_ret
  exact ⟨ret_bool H.out.symm, B0⟩
theorem specDeedOk5 (d : Deed) (s : Sl) (w : World) (hk : d.kind = 5) (h : deedD.rd w w.heap.size d s) :
  Calls Try.prog 45 #[deedW d s] w fun e w' => e = .returned (.bool (deedOk d)) ∧ Below w.heap.size w w' := by
 have h2 : planD.rd w w.heap.size d.plan s := h
 have HR := Lib.hid (show ∀ W, Below w.heap.size w W → planD.rd W W.heap.size d.plan s from fun W hW => planD.rd_more (planD.rd_below h2 hW) hW.size)
 clear h h2
 obtain ⟨A, n, c⟩ := s
 obtain ⟨kd, rn, p, tk, ty, wk, dr⟩ := d
 obtain rfl : kd = 5 := hk
 have X := DBox.new 37 [.int .i64 5, .int .i64 rn, .int .i64 p.prio, .int .i64 p.most, .int .i64 p.wait, .int .i64 p.tasks, .slice A n c, .int .i64 tk, .int .i64 ty, .int .i64 wk, .int .i64 dr] w (b := w.heap.size) rfl
 have B0 : Below w.heap.size w (w.alloc (.cells #[.int .i64 5, .int .i64 rn, .int .i64 p.prio, .int .i64 p.most, .int .i64 p.wait, .int .i64 p.tasks, .slice A n c, .int .i64 tk, .int .i64 ty, .int .i64 wk, .int .i64 dr] 37)) := by repeat (first | exact Below.refl _ _ | refine Below.alloc ?_ (by simp <;> omega) _)
 have e0 : inB 5 1 8 = true := rfl
 have HD := Lib.hid (show deedOk ⟨5, rn, p, tk, ty, wk, dr⟩ = ((rn == 0) && (tk == 0) && (ty == 0) && (wk == 0) && (dr == 0) && planNone p) by simp [deedOk, inB, Bool.and_assoc])
 by_cases a0 : (rn != 0) = true
 rotate_left
 replace a0 : (rn != 0) = false := by simpa using a0
 by_cases a1 : (tk != 0) = true
 rotate_left
 replace a1 : (tk != 0) = false := by simpa using a1
 by_cases a2 : (ty != 0) = true
 rotate_left
 replace a2 : (ty != 0) = false := by simpa using a2
 by_cases a3 : (wk != 0) = true
 rotate_left
 replace a3 : (wk != 0) = false := by simpa using a3
 by_cases a4 : (dr != 0) = true
 rotate_left
 replace a4 : (dr != 0) = false := by simpa using a4
 ·have H := Lib.hid (show deedOk ⟨5, rn, p, tk, ty, wk, dr⟩ = planNone p by rw [HD.out]; simp only [bne_eq_false_iff_eq] at a0 a1 a2 a3 a4; simp [numB, *])
  have C := specNoPlan_any p ⟨A, n, c⟩ _ (HR.out _ B0)
  go_enter Try.func45, Try.ntmps45
  go_upto_region 6 with (first | (go_at_call 58; refine (l16Num_any _ _).mono ?_; rintro e w9 ⟨rfl, rfl⟩; (try (with_reducible first | rw [e0] | rw [a0] | rw [a1] | rw [a2] | rw [a3] | rw [a4])); dsimp only) | (go_at_call 30; refine (l01In_any _ _ _ _).mono ?_; rintro e w9 ⟨rfl, rfl⟩; (try (with_reducible first | rw [e0] | rw [a0] | rw [a1] | rw [a2] | rw [a3] | rw [a4])); dsimp only) | (go_at_call 60; refine C.mono ?_; rintro e w1 ⟨rfl, b1⟩))
  dsimp only [List.append]
  go_wp2_with (first | (go_at_call 58; refine (l16Num_any _ _).mono ?_; rintro e w9 ⟨rfl, rfl⟩; (try (with_reducible first | rw [e0] | rw [a0] | rw [a1] | rw [a2] | rw [a3] | rw [a4])); dsimp only) | (go_at_call 30; refine (l01In_any _ _ _ _).mono ?_; rintro e w9 ⟨rfl, rfl⟩; (try (with_reducible first | rw [e0] | rw [a0] | rw [a1] | rw [a2] | rw [a3] | rw [a4])); dsimp only) | (go_at_call 60; refine C.mono ?_; rintro e w1 ⟨rfl, b1⟩))
  go_ret
  exact ⟨ret_bool H.out.symm, bnext B0 b1⟩
 all_goals
  have H := Lib.hid (show deedOk ⟨5, rn, p, tk, ty, wk, dr⟩ = false by rw [HD.out]; simp only [bne_eq_false_iff_eq, bne_iff_ne] at *; simp [numB, *])
  go_enter Try.func45, Try.ntmps45
  go_upto_region 6 with (first | (go_at_call 58; refine (l16Num_any _ _).mono ?_; rintro e w9 ⟨rfl, rfl⟩; (try (with_reducible first | rw [e0] | rw [a0] | rw [a1] | rw [a2] | rw [a3] | rw [a4])); dsimp only) | (go_at_call 30; refine (l01In_any _ _ _ _).mono ?_; rintro e w9 ⟨rfl, rfl⟩; (try (with_reducible first | rw [e0] | rw [a0] | rw [a1] | rw [a2] | rw [a3] | rw [a4])); dsimp only))
  dsimp only [List.append]
  go_wp2_with (first | (go_at_call 58; refine (l16Num_any _ _).mono ?_; rintro e w9 ⟨rfl, rfl⟩; (try (with_reducible first | rw [e0] | rw [a0] | rw [a1] | rw [a2] | rw [a3] | rw [a4])); dsimp only) | (go_at_call 30; refine (l01In_any _ _ _ _).mono ?_; rintro e w9 ⟨rfl, rfl⟩; (try (with_reducible first | rw [e0] | rw [a0] | rw [a1] | rw [a2] | rw [a3] | rw [a4])); dsimp only))
  go_ret
  exact ⟨ret_bool H.out.symm, B0⟩
theorem specDeedOk8 (d : Deed) (s : Sl) (w : World) (hk : d.kind = 8) (h : deedD.rd w w.heap.size d s) :
  Calls Try.prog 45 #[deedW d s] w fun e w' => e = .returned (.bool (deedOk d)) ∧ Below w.heap.size w w' := by
 have h2 : planD.rd w w.heap.size d.plan s := h
 have HR := Lib.hid (show ∀ W, Below w.heap.size w W → planD.rd W W.heap.size d.plan s from fun W hW => planD.rd_more (planD.rd_below h2 hW) hW.size)
 clear h h2
 obtain ⟨A, n, c⟩ := s
 obtain ⟨kd, rn, p, tk, ty, wk, dr⟩ := d
 obtain rfl : kd = 8 := hk
 have X := DBox.new 37 [.int .i64 8, .int .i64 rn, .int .i64 p.prio, .int .i64 p.most, .int .i64 p.wait, .int .i64 p.tasks, .slice A n c, .int .i64 tk, .int .i64 ty, .int .i64 wk, .int .i64 dr] w (b := w.heap.size) rfl
 have B0 : Below w.heap.size w (w.alloc (.cells #[.int .i64 8, .int .i64 rn, .int .i64 p.prio, .int .i64 p.most, .int .i64 p.wait, .int .i64 p.tasks, .slice A n c, .int .i64 tk, .int .i64 ty, .int .i64 wk, .int .i64 dr] 37)) := by repeat (first | exact Below.refl _ _ | refine Below.alloc ?_ (by simp <;> omega) _)
 have e0 : inB 8 1 8 = true := rfl
 have HD := Lib.hid (show deedOk ⟨8, rn, p, tk, ty, wk, dr⟩ = ((rn == 0) && (tk == 0) && (ty == 0) && (wk == 0) && (dr == 0) && planNone p) by simp [deedOk, inB, Bool.and_assoc])
 by_cases a0 : (rn != 0) = true
 rotate_left
 replace a0 : (rn != 0) = false := by simpa using a0
 by_cases a1 : (tk != 0) = true
 rotate_left
 replace a1 : (tk != 0) = false := by simpa using a1
 by_cases a2 : (ty != 0) = true
 rotate_left
 replace a2 : (ty != 0) = false := by simpa using a2
 by_cases a3 : (wk != 0) = true
 rotate_left
 replace a3 : (wk != 0) = false := by simpa using a3
 by_cases a4 : (dr != 0) = true
 rotate_left
 replace a4 : (dr != 0) = false := by simpa using a4
 ·have H := Lib.hid (show deedOk ⟨8, rn, p, tk, ty, wk, dr⟩ = planNone p by rw [HD.out]; simp only [bne_eq_false_iff_eq] at a0 a1 a2 a3 a4; simp [numB, *])
  have C := specNoPlan_any p ⟨A, n, c⟩ _ (HR.out _ B0)
  go_enter Try.func45, Try.ntmps45
  go_upto_region 6 with (first | (go_at_call 58; refine (l16Num_any _ _).mono ?_; rintro e w9 ⟨rfl, rfl⟩; (try (with_reducible first | rw [e0] | rw [a0] | rw [a1] | rw [a2] | rw [a3] | rw [a4])); dsimp only) | (go_at_call 30; refine (l01In_any _ _ _ _).mono ?_; rintro e w9 ⟨rfl, rfl⟩; (try (with_reducible first | rw [e0] | rw [a0] | rw [a1] | rw [a2] | rw [a3] | rw [a4])); dsimp only) | (go_at_call 60; refine C.mono ?_; rintro e w1 ⟨rfl, b1⟩))
  dsimp only [List.append]
  go_wp2_with (first | (go_at_call 58; refine (l16Num_any _ _).mono ?_; rintro e w9 ⟨rfl, rfl⟩; (try (with_reducible first | rw [e0] | rw [a0] | rw [a1] | rw [a2] | rw [a3] | rw [a4])); dsimp only) | (go_at_call 30; refine (l01In_any _ _ _ _).mono ?_; rintro e w9 ⟨rfl, rfl⟩; (try (with_reducible first | rw [e0] | rw [a0] | rw [a1] | rw [a2] | rw [a3] | rw [a4])); dsimp only) | (go_at_call 60; refine C.mono ?_; rintro e w1 ⟨rfl, b1⟩))
  go_ret
  exact ⟨ret_bool H.out.symm, bnext B0 b1⟩
 all_goals
  have H := Lib.hid (show deedOk ⟨8, rn, p, tk, ty, wk, dr⟩ = false by rw [HD.out]; simp only [bne_eq_false_iff_eq, bne_iff_ne] at *; simp [numB, *])
  go_enter Try.func45, Try.ntmps45
  go_upto_region 6 with (first | (go_at_call 58; refine (l16Num_any _ _).mono ?_; rintro e w9 ⟨rfl, rfl⟩; (try (with_reducible first | rw [e0] | rw [a0] | rw [a1] | rw [a2] | rw [a3] | rw [a4])); dsimp only) | (go_at_call 30; refine (l01In_any _ _ _ _).mono ?_; rintro e w9 ⟨rfl, rfl⟩; (try (with_reducible first | rw [e0] | rw [a0] | rw [a1] | rw [a2] | rw [a3] | rw [a4])); dsimp only))
  dsimp only [List.append]
  go_wp2_with (first | (go_at_call 58; refine (l16Num_any _ _).mono ?_; rintro e w9 ⟨rfl, rfl⟩; (try (with_reducible first | rw [e0] | rw [a0] | rw [a1] | rw [a2] | rw [a3] | rw [a4])); dsimp only) | (go_at_call 30; refine (l01In_any _ _ _ _).mono ?_; rintro e w9 ⟨rfl, rfl⟩; (try (with_reducible first | rw [e0] | rw [a0] | rw [a1] | rw [a2] | rw [a3] | rw [a4])); dsimp only))
  go_ret
  exact ⟨ret_bool H.out.symm, B0⟩
theorem specDeedOk6 (d : Deed) (s : Sl) (w : World) (hk : d.kind = 6) (h : deedD.rd w w.heap.size d s) :
  Calls Try.prog 45 #[deedW d s] w fun e w' => e = .returned (.bool (deedOk d)) ∧ Below w.heap.size w w' := by
 have h2 : planD.rd w w.heap.size d.plan s := h
 have HR := Lib.hid (show ∀ W, Below w.heap.size w W → planD.rd W W.heap.size d.plan s from fun W hW => planD.rd_more (planD.rd_below h2 hW) hW.size)
 clear h h2
 obtain ⟨A, n, c⟩ := s
 obtain ⟨kd, rn, p, tk, ty, wk, dr⟩ := d
 obtain rfl : kd = 6 := hk
 have X := DBox.new 37 [.int .i64 6, .int .i64 rn, .int .i64 p.prio, .int .i64 p.most, .int .i64 p.wait, .int .i64 p.tasks, .slice A n c, .int .i64 tk, .int .i64 ty, .int .i64 wk, .int .i64 dr] w (b := w.heap.size) rfl
 have B0 : Below w.heap.size w (w.alloc (.cells #[.int .i64 6, .int .i64 rn, .int .i64 p.prio, .int .i64 p.most, .int .i64 p.wait, .int .i64 p.tasks, .slice A n c, .int .i64 tk, .int .i64 ty, .int .i64 wk, .int .i64 dr] 37)) := by repeat (first | exact Below.refl _ _ | refine Below.alloc ?_ (by simp <;> omega) _)
 have e0 : inB 6 1 8 = true := rfl
 have HD := Lib.hid (show deedOk ⟨6, rn, p, tk, ty, wk, dr⟩ = (numB rn && (tk == 0) && (ty == 0) && (wk == 0) && (dr == 0) && planNone p) by simp [deedOk, inB, Bool.and_assoc])
 by_cases a0 : inB rn 0 1000000000 = false
 rotate_left
 replace a0 : inB rn 0 1000000000 = true := by simpa using a0
 by_cases a1 : (tk != 0) = true
 rotate_left
 replace a1 : (tk != 0) = false := by simpa using a1
 by_cases a2 : (ty != 0) = true
 rotate_left
 replace a2 : (ty != 0) = false := by simpa using a2
 by_cases a3 : (wk != 0) = true
 rotate_left
 replace a3 : (wk != 0) = false := by simpa using a3
 by_cases a4 : (dr != 0) = true
 rotate_left
 replace a4 : (dr != 0) = false := by simpa using a4
 ·have H := Lib.hid (show deedOk ⟨6, rn, p, tk, ty, wk, dr⟩ = planNone p by rw [HD.out]; simp only [bne_eq_false_iff_eq] at a0 a1 a2 a3 a4; simp [numB, *])
  have C := specNoPlan_any p ⟨A, n, c⟩ _ (HR.out _ B0)
  go_enter Try.func45, Try.ntmps45
  go_upto_region 6 with (first | (go_at_call 58; refine (l16Num_any _ _).mono ?_; rintro e w9 ⟨rfl, rfl⟩; (try (with_reducible first | rw [e0] | rw [a0] | rw [a1] | rw [a2] | rw [a3] | rw [a4])); dsimp only) | (go_at_call 30; refine (l01In_any _ _ _ _).mono ?_; rintro e w9 ⟨rfl, rfl⟩; (try (with_reducible first | rw [e0] | rw [a0] | rw [a1] | rw [a2] | rw [a3] | rw [a4])); dsimp only) | (go_at_call 60; refine C.mono ?_; rintro e w1 ⟨rfl, b1⟩))
  dsimp only [List.append]
  go_wp2_with (first | (go_at_call 58; refine (l16Num_any _ _).mono ?_; rintro e w9 ⟨rfl, rfl⟩; (try (with_reducible first | rw [e0] | rw [a0] | rw [a1] | rw [a2] | rw [a3] | rw [a4])); dsimp only) | (go_at_call 30; refine (l01In_any _ _ _ _).mono ?_; rintro e w9 ⟨rfl, rfl⟩; (try (with_reducible first | rw [e0] | rw [a0] | rw [a1] | rw [a2] | rw [a3] | rw [a4])); dsimp only) | (go_at_call 60; refine C.mono ?_; rintro e w1 ⟨rfl, b1⟩))
  go_ret
  exact ⟨ret_bool H.out.symm, bnext B0 b1⟩
 all_goals
  have H := Lib.hid (show deedOk ⟨6, rn, p, tk, ty, wk, dr⟩ = false by rw [HD.out]; simp only [bne_eq_false_iff_eq, bne_iff_ne] at *; simp [numB, *])
  go_enter Try.func45, Try.ntmps45
  go_upto_region 6 with (first | (go_at_call 58; refine (l16Num_any _ _).mono ?_; rintro e w9 ⟨rfl, rfl⟩; (try (with_reducible first | rw [e0] | rw [a0] | rw [a1] | rw [a2] | rw [a3] | rw [a4])); dsimp only) | (go_at_call 30; refine (l01In_any _ _ _ _).mono ?_; rintro e w9 ⟨rfl, rfl⟩; (try (with_reducible first | rw [e0] | rw [a0] | rw [a1] | rw [a2] | rw [a3] | rw [a4])); dsimp only))
  dsimp only [List.append]
  go_wp2_with (first | (go_at_call 58; refine (l16Num_any _ _).mono ?_; rintro e w9 ⟨rfl, rfl⟩; (try (with_reducible first | rw [e0] | rw [a0] | rw [a1] | rw [a2] | rw [a3] | rw [a4])); dsimp only) | (go_at_call 30; refine (l01In_any _ _ _ _).mono ?_; rintro e w9 ⟨rfl, rfl⟩; (try (with_reducible first | rw [e0] | rw [a0] | rw [a1] | rw [a2] | rw [a3] | rw [a4])); dsimp only))
  go_ret
  exact ⟨ret_bool H.out.symm, B0⟩
theorem specDeedOk7 (d : Deed) (s : Sl) (w : World) (hk : d.kind = 7) (h : deedD.rd w w.heap.size d s) :
  Calls Try.prog 45 #[deedW d s] w fun e w' => e = .returned (.bool (deedOk d)) ∧ Below w.heap.size w w' := by
 have h2 : planD.rd w w.heap.size d.plan s := h
 have HR := Lib.hid (show ∀ W, Below w.heap.size w W → planD.rd W W.heap.size d.plan s from fun W hW => planD.rd_more (planD.rd_below h2 hW) hW.size)
 clear h h2
 obtain ⟨A, n, c⟩ := s
 obtain ⟨kd, rn, p, tk, ty, wk, dr⟩ := d
 obtain rfl : kd = 7 := hk
 have X := DBox.new 37 [.int .i64 7, .int .i64 rn, .int .i64 p.prio, .int .i64 p.most, .int .i64 p.wait, .int .i64 p.tasks, .slice A n c, .int .i64 tk, .int .i64 ty, .int .i64 wk, .int .i64 dr] w (b := w.heap.size) rfl
 have B0 : Below w.heap.size w (w.alloc (.cells #[.int .i64 7, .int .i64 rn, .int .i64 p.prio, .int .i64 p.most, .int .i64 p.wait, .int .i64 p.tasks, .slice A n c, .int .i64 tk, .int .i64 ty, .int .i64 wk, .int .i64 dr] 37)) := by repeat (first | exact Below.refl _ _ | refine Below.alloc ?_ (by simp <;> omega) _)
 have e0 : inB 7 1 8 = true := rfl
 have HD := Lib.hid (show deedOk ⟨7, rn, p, tk, ty, wk, dr⟩ = (numB rn && (tk == 0) && (ty == 0) && (wk == 0) && (dr == 0) && planNone p) by simp [deedOk, inB, Bool.and_assoc])
 by_cases a0 : inB rn 0 1000000000 = false
 rotate_left
 replace a0 : inB rn 0 1000000000 = true := by simpa using a0
 by_cases a1 : (tk != 0) = true
 rotate_left
 replace a1 : (tk != 0) = false := by simpa using a1
 by_cases a2 : (ty != 0) = true
 rotate_left
 replace a2 : (ty != 0) = false := by simpa using a2
 by_cases a3 : (wk != 0) = true
 rotate_left
 replace a3 : (wk != 0) = false := by simpa using a3
 by_cases a4 : (dr != 0) = true
 rotate_left
 replace a4 : (dr != 0) = false := by simpa using a4
 ·have H := Lib.hid (show deedOk ⟨7, rn, p, tk, ty, wk, dr⟩ = planNone p by rw [HD.out]; simp only [bne_eq_false_iff_eq] at a0 a1 a2 a3 a4; simp [numB, *])
  have C := specNoPlan_any p ⟨A, n, c⟩ _ (HR.out _ B0)
  go_enter Try.func45, Try.ntmps45
  go_upto_region 6 with (first | (go_at_call 58; refine (l16Num_any _ _).mono ?_; rintro e w9 ⟨rfl, rfl⟩; (try (with_reducible first | rw [e0] | rw [a0] | rw [a1] | rw [a2] | rw [a3] | rw [a4])); dsimp only) | (go_at_call 30; refine (l01In_any _ _ _ _).mono ?_; rintro e w9 ⟨rfl, rfl⟩; (try (with_reducible first | rw [e0] | rw [a0] | rw [a1] | rw [a2] | rw [a3] | rw [a4])); dsimp only) | (go_at_call 60; refine C.mono ?_; rintro e w1 ⟨rfl, b1⟩))
  dsimp only [List.append]
  go_wp2_with (first | (go_at_call 58; refine (l16Num_any _ _).mono ?_; rintro e w9 ⟨rfl, rfl⟩; (try (with_reducible first | rw [e0] | rw [a0] | rw [a1] | rw [a2] | rw [a3] | rw [a4])); dsimp only) | (go_at_call 30; refine (l01In_any _ _ _ _).mono ?_; rintro e w9 ⟨rfl, rfl⟩; (try (with_reducible first | rw [e0] | rw [a0] | rw [a1] | rw [a2] | rw [a3] | rw [a4])); dsimp only) | (go_at_call 60; refine C.mono ?_; rintro e w1 ⟨rfl, b1⟩))
  go_ret
  exact ⟨ret_bool H.out.symm, bnext B0 b1⟩
 all_goals
  have H := Lib.hid (show deedOk ⟨7, rn, p, tk, ty, wk, dr⟩ = false by rw [HD.out]; simp only [bne_eq_false_iff_eq, bne_iff_ne] at *; simp [numB, *])
  go_enter Try.func45, Try.ntmps45
  go_upto_region 6 with (first | (go_at_call 58; refine (l16Num_any _ _).mono ?_; rintro e w9 ⟨rfl, rfl⟩; (try (with_reducible first | rw [e0] | rw [a0] | rw [a1] | rw [a2] | rw [a3] | rw [a4])); dsimp only) | (go_at_call 30; refine (l01In_any _ _ _ _).mono ?_; rintro e w9 ⟨rfl, rfl⟩; (try (with_reducible first | rw [e0] | rw [a0] | rw [a1] | rw [a2] | rw [a3] | rw [a4])); dsimp only))
  dsimp only [List.append]
  go_wp2_with (first | (go_at_call 58; refine (l16Num_any _ _).mono ?_; rintro e w9 ⟨rfl, rfl⟩; (try (with_reducible first | rw [e0] | rw [a0] | rw [a1] | rw [a2] | rw [a3] | rw [a4])); dsimp only) | (go_at_call 30; refine (l01In_any _ _ _ _).mono ?_; rintro e w9 ⟨rfl, rfl⟩; (try (with_reducible first | rw [e0] | rw [a0] | rw [a1] | rw [a2] | rw [a3] | rw [a4])); dsimp only))
  go_ret
  exact ⟨ret_bool H.out.symm, B0⟩
end Go.Proofs.Ytonlnjdempbfoaa
end
section
namespace Go.Proofs.Ytonlnjdempbfoaa
open Go.RowKit
set_option linter.unusedVariables false
set_option linter.unusedSimpArgs false
/-- what follows a number, one behind the other -/
def sinceN : List Note → Int → List Note
 | [], _ => []
 | x :: l, q => if x.seq ≤ q then sinceN l q else if x.seq - 1 = q then x :: sinceN l x.seq else []
theorem since_skip : ∀ (l : List Note) (t : Nat) (q : Int), (∀ x ∈ l.take t, x.seq ≤ q) → sinceN (l.drop t) q = sinceN l q
 | l, 0, q, _ => by simp
 | [], t + 1, q, _ => by simp
 | x :: l, t + 1, q, h => by
  have h0 := h x (by simp)
  rw [List.drop_succ_cons, since_skip l t q (fun y hy => h y (by simp [hy]))]
  conv => rhs; rw [sinceN, if_pos h0]
theorem notesOf_cutN (l : List Note) (m : Nat) : ∀ k, notesOf (cutN l m k) = l.take (k * m)
 | 0 => by simp [cutN, notesOf]
 | k + 1 => by
  rw [cutN_succ, Nat.succ_mul, List.take_add, ← notesOf_cutN l m k]
  simp [notesOf, partAt]
theorem cut_cover {len m : Nat} (hm : 0 < m) : len ≤ (len + m - 1) / m * m := by
 have h1 := Nat.div_add_mod (len + m - 1) m
 have h2 := Nat.mod_lt (len + m - 1) hm
 rw [Nat.mul_comm] at h1
 omega
theorem cut_in {len m i : Nat} (hm : 0 < m) (hi : i < (len + m - 1) / m) : i * m < len := by
 have h1 : (i + 1) * m ≤ (len + m - 1) / m * m := Nat.mul_le_mul_right _ hi
 have h2 := Nat.div_mul_le_self (len + m - 1) m
 rw [Nat.succ_mul] at h1
 omega
theorem cutAll_notes (l : List Note) (m : Nat) (hm : 0 < m) : notesOf (cutAll l m) = l := by
 unfold cutAll
 rw [notesOf_cutN, List.take_of_length_le (cut_cover hm)]
theorem cutAll_len (l : List Note) (m : Nat) : (cutAll l m).length = (l.length + m - 1) / m := cutN_len _ _ _
theorem cutAll_get {l : List Note} {m i : Nat} (h : i < (cutAll l m).length) : (cutAll l m)[i] = partAt l m i := by
 simp [cutAll, cutN]
/-- notes that are numbered on from one -/
def Numb (l : List Note) (fr : Int) : Prop := ∀ i (h : i < l.length), l[i].seq = fr + i
theorem cutAll_ok {l : List Note} {fr : Int} {m : Nat} (hm : 0 < m) (hl : l.length ≤ 60) (hn : Numb l fr) (h1 : 1 ≤ fr) (h2 : fr + l.length ≤ 1000000000) : segsOk (cutAll l m) = true := by
 refine segsOk_all (by rw [cutAll_len]; have := div_le_len (len := l.length) hm; omega) (by rw [← notesOf_len, cutAll_notes l m hm]; omega) (fun i hi => ?_)
 have hi' : i < (l.length + m - 1) / m := by rw [cutAll_len] at hi; exact hi
 have hlt := cut_in hm hi'
 refine segFit_yes hi ?_ (fun hp => ?_) (notesFit_all fun j hj => ?_)
 ·rw [cutAll_get]
  simp only [partAt, inB, Bool.and_eq_true, decide_eq_true_eq, seqAt_get hlt, hn _ hlt]
  omega
 ·rw [segAt_get (by omega), cutAll_get, cutAll_get]
  obtain ⟨k, rfl⟩ : ∃ k, i = k + 1 := ⟨i - 1, by omega⟩
  rw [Nat.add_sub_cancel]
  rw [Nat.succ_mul] at hlt
  have hk : k * m < l.length := by omega
  simp only [partAt, endO, List.length_take, List.length_drop, Nat.succ_mul, seqAt_get hk, seqAt_get hlt, hn _ hk, hn _ hlt]
  omega
 ·rw [cutAll_get] at hj
  simp only [partAt, List.length_take, List.length_drop] at hj
  have hij : i * m + j < l.length := by omega
  have e : (cutAll l m)[i].notes[j]'(by rw [cutAll_get]; simpa [partAt] using hj) = l[i * m + j] := by
   simp only [cutAll_get, partAt, List.getElem_take, List.getElem_drop]
  rw [e, hn _ hij]
  rw [cutAll_get]
  simp only [partAt, seqAt_get hlt, hn _ hlt]
  omega
theorem dropL_suffix (q : Int) : ∀ (l : List Seg), ∃ t, dropL q l = l.drop t ∧ (l ≠ [] → t < l.length) ∧ (∀ s ∈ l.take t, reach q s = false)
 | [] => ⟨0, rfl, by simp, by simp⟩
 | [s] => ⟨0, rfl, by simp, by simp⟩
 | s :: u :: l => by
  unfold dropL
  split
  ·exact ⟨0, rfl, by simp, by simp⟩
  ·rename_i hr
   obtain ⟨t, h1, h2, h3⟩ := dropL_suffix q (u :: l)
   refine ⟨t + 1, by rw [h1]; rfl, fun _ => by have := h2 (by simp); simp at this ⊢; omega, fun x hx => ?_⟩
   rw [List.take_succ_cons] at hx
   rcases List.mem_cons.1 hx with rfl | hx
   ·simpa using hr
   ·exact h3 x hx
theorem segsOk_drop {l : List Seg} (t : Nat) (h : segsOk l = true) : segsOk (l.drop t) = true := by
 obtain ⟨h1, h2, h3⟩ := segsOk_get h
 refine segsOk_all (by rw [List.length_drop]; omega) ?_ (fun i hi => ?_)
 ·have : totN l = totN (l.take t) + totN (l.drop t) := by
   conv => lhs; rw [← List.take_append_drop t l]
   unfold totN
   rw [List.map_append, List.sum_append]
  omega
 ·rw [List.length_drop] at hi
  have hti : t + i < l.length := by omega
  have h4 := h3 (t + i) hti
  have h5 := segFit_get hti h4
  have e : (l.drop t)[i]'(by rw [List.length_drop]; exact hi) = l[t + i] := by rw [List.getElem_drop]
  refine segFit_yes (by rw [List.length_drop]; exact hi) (by rw [e]; exact h5.1) (fun hp => ?_) (by rw [e]; exact h5.2)
  rw [e, segAt_get (by rw [List.length_drop]; omega), List.getElem_drop]
  unfold segFit at h4
  simp only [Bool.and_eq_true, Bool.or_eq_true, decide_eq_true_eq] at h4
  rcases h4.1.2 with h6 | h6
  ·omega
  ·rw [segAt_get hti, segAt_get (by omega)] at h6
   rw [h6]
   congr 2
   simp only [show t + i - 1 = t + (i - 1) by omega]
/-- with old parts let go there is still all that is needed behind a number -/
theorem since_dropTo {l : List Note} {m : Nat} (hm : 0 < m) (q : Int) (h : segsOk (cutAll l m) = true) : sinceN (notesOf (dropTo (cutAll l m) q)) q = sinceN l q := by
 unfold dropTo
 rw [if_pos h]
 obtain ⟨t, h1, _, h3⟩ := dropL_suffix q (cutAll l m)
 rw [h1]
 have e : l = notesOf ((cutAll l m).take t) ++ notesOf ((cutAll l m).drop t) := by
  have := cutAll_notes l m hm
  conv => lhs; rw [← this, ← List.take_append_drop t (cutAll l m)]
  unfold notesOf
  rw [List.flatMap_append]
 have h5 := since_skip l (notesOf ((cutAll l m).take t)).length q (fun x hx => by
  conv at hx => rw [e]
  rw [List.take_left'] at hx
  ·unfold notesOf at hx
   rw [List.mem_flatMap] at hx
   obtain ⟨s, hs, hx⟩ := hx
   have := h3 s hs
   unfold reach at this
   rw [List.any_eq_false] at this
   have := this x hx
   simp only [decide_eq_true_eq] at this
   omega
  ·rw [← e])
 rw [← h5]
 congr 1
 conv => rhs; rw [e]
 rw [List.drop_left']
 rw [← e]
theorem dropTo_len {l : List Seg} {q : Int} (h : segsOk l = true) (hp : 0 < l.length) : 1 ≤ (dropTo l q).length ∧ (dropTo l q).length ≤ l.length ∧ segsOk (dropTo l q) = true := by
 unfold dropTo
 rw [if_pos h]
 obtain ⟨t, h1, h2, h3⟩ := dropL_suffix q l
 rw [h1, List.length_drop]
 have := h2 (by intro e; rw [e] at hp; simp at hp)
 exact ⟨by omega, by omega, segsOk_drop t h⟩
theorem segFor_in {l : List Note} {fr : Int} {m : Nat} (hm : 0 < m) (hn : Numb l fr) (q : Int) (h : segsOk (cutAll l m) = true) : 0 ≤ segFor (cutAll l m) q ↔ (fr ≤ q ∧ q < fr + l.length) := by
 unfold segFor
 rw [if_pos h, idxOf_any]
 have h3 := (segsOk_get h).2.2
 have hin : (∃ s ∈ cutAll l m, hasNo q s = true) ↔ ∃ x ∈ l, x.seq = q := by
  conv => rhs; rw [← cutAll_notes l m hm]
  unfold notesOf
  constructor
  ·rintro ⟨s, hs, hq⟩
   obtain ⟨i, hi, rfl⟩ := List.getElem_of_mem hs
   obtain ⟨j, hj, e⟩ := (hasNo_iff (segFit_get hi (h3 i hi)).2 q).1 hq
   exact ⟨_, List.mem_flatMap.2 ⟨_, hs, List.getElem_mem hj⟩, e⟩
  ·rintro ⟨x, hx, e⟩
   obtain ⟨s, hs, hx⟩ := List.mem_flatMap.1 hx
   obtain ⟨j, hj, rfl⟩ := List.getElem_of_mem hx
   obtain ⟨i, hi, rfl⟩ := List.getElem_of_mem hs
   exact ⟨_, hs, (hasNo_iff (segFit_get hi (h3 i hi)).2 q).2 ⟨j, hj, e⟩⟩
 rw [hin]
 constructor
 ·rintro ⟨x, hx, rfl⟩
  obtain ⟨i, hi, rfl⟩ := List.getElem_of_mem hx
  rw [hn i hi]
  omega
 ·rintro ⟨h1, h2⟩
  exact ⟨l[(q - fr).toNat]'(by omega), List.getElem_mem _, by rw [hn]; omega⟩
end Go.Proofs.Ytonlnjdempbfoaa
end
section
namespace Go.Proofs.Ytonlnjdempbfoaa
open Go.RowKit
set_option maxRecDepth 100000
set_option maxHeartbeats 4000000
set_option linter.unusedVariables false
set_option linter.unusedSimpArgs false
/-- the shelves of a yard are right -/
def shelvesP (y : Yard) : Prop := y.shelf.length = 4 ∧ (∀ l ∈ y.shelf, shelfP l) ∧ (∀ e ∈ entriesOf y, 1 ≤ e.seq ∧ e.seq ≤ y.seq - 1) ∧ ((entriesOf y).map (·.seq)).Nodup
theorem shelves_of {y : Yard} (h3 : y.shelf.length = 4) (h4 : ∀ k (hk : k < y.shelf.length), shelfP y.shelf[k]) (h5 : entsOk y.seq (entriesOf y) (entriesOf y).length) : shelvesP y := by
 refine ⟨h3, fun l hl => ?_, fun e he => ?_, seqsN_nodup (fun j hj => (h5 j hj hj).2)⟩
 ·obtain ⟨k, hk, rfl⟩ := List.getElem_of_mem hl
  exact h4 k hk
 ·obtain ⟨k, hk, rfl⟩ := List.getElem_of_mem he
  exact (h5 k hk hk).1
theorem shelves_ents {y : Yard} (h : shelvesP y) {k : Nat} (hk : k ≤ (entriesOf y).length) : entsOk y.seq (entriesOf y) k := fun j hj _ =>
 ⟨h.2.2.1 _ (List.getElem_mem hj), nodup_seqsN h.2.2.2 (fun e he => (h.2.2.1 e he).1) hj⟩
/-- none of the first m has that number -/
def noneSeq (l : List Entry) (k m : Nat) : Prop := ∀ j (hj : j < l.length) (hk : k < l.length), j < m → l[j].seq ≠ l[k].seq
theorem noneSeq_not {l : List Entry} {k : Nat} (hk : k < l.length) (h : noneSeq l k k) (hp : ∀ j (hj : j < l.length), j ≤ k → 1 ≤ l[j].seq) : l[k].seq.toNat ∉ seqsN l k := by
 intro hm
 unfold seqsN at hm
 obtain ⟨x, hx, he⟩ := List.mem_map.1 hm
 obtain ⟨j, hj, rfl⟩ := List.getElem_of_mem hx
 rw [List.length_take] at hj
 rw [List.getElem_take] at he
 have h1 := hp j (by omega) (by omega)
 have h2 := hp k hk (Nat.le_refl _)
 exact h j (by omega) hk (by omega) (by omega)
theorem specShelves_any (y : Yard) (s : Sl × Sl) (w : World) (hl : cntYard y ≤ 2000000) (hq : 1 ≤ y.seq ∧ y.seq ≤ 1000000000) (h : yardD.rd w w.heap.size y s) :
  Calls Try.prog 79 #[yardW y s] w fun e w' => e = .returned (.bool (tf (shelvesP y))) ∧ Below w.heap.size w w' := by
 have HR := Lib.hid (show ∀ W, Below w.heap.size w W → yardD.rd W W.heap.size y s from fun W hW => yardD.rd_more (yardD.rd_below h hW) hW.size)
 obtain ⟨⟨A1, n1, c1⟩, ⟨A2, n2, c2⟩⟩ := s
 obtain rfl : n1 = y.shelf.length := RdL.at1 (s := ⟨A1, n1, c1⟩) h.1
 have h1 : RdL (Dt.list entryD) w w.heap.size (.slice A1 y.shelf.length c1) y.shelf := h.1
 have hls : y.shelf.length ≤ 2000000 := Nat.le_trans (cntL_len cntEntryS _) (by unfold cntYard at hl; omega)
 have HE := Lib.hid (show ∀ k (hk : k < y.shelf.length), y.shelf[k].length ≤ 2000000 from fun k hk => by
  have := cntL_mem (cnt := cntEntryS) (List.getElem_mem hk)
  have h2 : y.shelf[k].length ≤ cntEntryS y.shelf[k] := cntL_len cntEntry _
  unfold cntYard at hl
  omega)
 have HEn := Lib.hid (show (entriesOf y).length ≤ 2000000 by
  have := flat_take_le y.shelf y.shelf.length
  rw [List.take_length] at this
  unfold cntYard at hl
  unfold entriesOf
  omega)
 clear h
 have X := DBox.new 61 [.int .i64 y.now, .int .i64 y.seq, .slice A1 y.shelf.length c1, .slice A2 n2 c2] w (b := w.heap.size) rfl
 have B0 : Below w.heap.size w (w.alloc (.cells #[.int .i64 y.now, .int .i64 y.seq, .slice A1 y.shelf.length c1, .slice A2 n2 c2] 61)) := by repeat (first | exact Below.refl _ _ | refine Below.alloc ?_ (by simp <;> omega) _)
 by_cases a3 : y.shelf.length = 4
 case neg =>
  have a3' : ((y.shelf.length : Int) != 4) = true := by simp; omega
  have H := Lib.hid (tf_false (show ¬ shelvesP y from fun h => a3 h.1))
  clear a3
  go_enter Try.func79, Try.ntmps79
  go_wp2
  go_ret
  exact ⟨ret_bool H.out.symm, B0⟩
 have a3' : ((y.shelf.length : Int) != 4) = false := by simp [a3]
 have A3_ := Lib.hid a3
 clear a3
 go_enter Try.func79, Try.ntmps79
 go_wp2
 generalize (w.alloc (.cells #[.int .i64 y.now, .int .i64 y.seq, .slice A1 y.shelf.length c1, .slice A2 n2 c2] 61)) = W at *
 clear a3'
 go_loopw [3] (fun i wr => ∃ k : Nat, k ≤ y.shelf.length ∧ i = .int .i64 k ∧ Hid (∀ j (hj : j < y.shelf.length), j < k → shelfP y.shelf[j]) ∧ Below W.heap.size W wr) (fun i _ => y.shelf.length - (intOf i).toNat)
 case atStart => exact ⟨0, Nat.zero_le _, rfl, fun j _ h0 => absurd h0 (by omega), Below.refl _ _⟩
 case round =>
  obtain ⟨k, hk, rfl, hok, hb⟩ := hrel
  replace X := X.below hb
  replace B0 := bnext B0 hb
  obtain ⟨X_0, X_1, X_2, X_3, X_l⟩ := X.g4
  by_cases hlt : k < y.shelf.length
  ·have hltI : (k : Int) < (y.shelf.length : Int) := by omega
   obtain ⟨b, o, ⟨As, ns, cs⟩, hA1, hbb, hr, d0⟩ := (h1.below B0).entryS hlt
   obtain rfl : ns = y.shelf[k].length := RdL.at1 (s := ⟨As, ns, cs⟩) hr
   subst hA1
   have C := specShelfOk_any y.shelf[k] ⟨As, y.shelf[k].length, cs⟩ wr (HE.out k hlt) (hr.more B0.size)
   by_cases q : shelfP y.shelf[k]
   ·have S : Hid (∀ j (hj : j < y.shelf.length), j < k + 1 → shelfP y.shelf[j]) := fun j hj hjk => by
     by_cases e : j = k
     ·subst e; exact q
     ·exact hok.out j hj (by omega)
    rw [tf_true q] at C
    clear q
    go_wp2_with fail
    refine C.mono ?_
    rintro e w2 ⟨rfl, b2⟩
    go_wp2
    first
     | exact ⟨⟨k + 1, by omega, by go_num, S, bnext hb b2⟩, by simp [intOf]; omega⟩
     | (refine ⟨?_, by simp [intOf]; omega⟩; (repeat apply Exists.intro); first | exact ⟨⟨k + 1, by omega, by go_num, S, bnext hb b2⟩, rfl⟩ | exact ⟨⟨k + 1, by omega, by go_num, S, bnext hb b2⟩, rfl, rfl⟩ | exact ⟨⟨k + 1, by omega, by go_num, S, bnext hb b2⟩, rfl, rfl, rfl⟩ | exact ⟨⟨k + 1, by omega, by go_num, S, bnext hb b2⟩, rfl, rfl, rfl, rfl⟩ | exact ⟨⟨k + 1, by omega, by go_num, S, bnext hb b2⟩, rfl, rfl, rfl, rfl, rfl⟩ | exact ⟨⟨k + 1, by omega, by go_num, S, bnext hb b2⟩, rfl, rfl, rfl, rfl, rfl, rfl⟩ | exact ⟨⟨k + 1, by omega, by go_num, S, bnext hb b2⟩, rfl, rfl, rfl, rfl, rfl, rfl, rfl⟩)
   ·have H := Lib.hid (tf_false (show ¬ shelvesP y from fun h => q (h.2.1 _ (List.getElem_mem hlt))))
    rw [tf_false q] at C
    clear q
    go_wp2_with fail
    refine C.mono ?_
    rintro e w2 ⟨rfl, b2⟩
    go_wp2
    go_ret
    exact ⟨ret_bool H.out.symm, bnext B0 b2⟩
  ·have hltI : ¬ (k : Int) < (y.shelf.length : Int) := by omega
   have HS : Hid (∀ k (hk : k < y.shelf.length), shelfP y.shelf[k]) := fun j hj => hok.out j hj (by omega)
   have C := specEntries_any y (⟨A1, y.shelf.length, c1⟩, ⟨A2, n2, c2⟩) wr hl (HR.out _ B0)
   go_wp2_with fail
   refine C.mono ?_
   rintro e w2 ⟨v, rfl, o2, b2⟩
   replace X := X.below b2
   replace B0 := bnext B0 b2
   clear X_0 X_1 X_2 X_3 X_l hok hlt hltI hb
   have O2 := Rd.of_own o2
   clear o2
   obtain ⟨A3, c3, rfl, -⟩ := id O2
   have hel := HEn.out
   go_wp2
   go_loopw [5] (fun i wr => ∃ k : Nat, k ≤ (entriesOf y).length ∧ i = .int .i64 k ∧ Hid (entsOk y.seq (entriesOf y) k) ∧ Below w2.heap.size w2 wr) (fun i _ => (entriesOf y).length - (intOf i).toNat)
   case atStart => exact ⟨0, Nat.zero_le _, rfl, fun j _ h0 => absurd h0 (by omega), Below.refl _ _⟩
   case round =>
    obtain ⟨k, hk, rfl, hok, hb⟩ := hrel
    have X1 := X.below hb
    obtain ⟨X1_0, X1_1, X1_2, X1_3, X1_l⟩ := X1.g4
    by_cases hlt : k < (entriesOf y).length
    ·have hltI : (k : Int) < ((entriesOf y).length : Int) := by omega
     obtain ⟨b, o, _, hA3, hbb, _, d0, d1, d2, d3⟩ := RdL.entry (ent_rdL (O2.below hb)) hlt
     subst hA3
     have hs1 : b < wr.heap.size := Nat.lt_of_lt_of_le hbb hb.size
     have w1' : IntKind.i64.wrap (y.seq - 1) = y.seq - 1 := IntWalk.i64_in _ (by omega)
     have hlc := later_cell wr
     have B1 := bnext B0 hb
     cases q1 : inB (entriesOf y)[k].seq 1 (y.seq - 1)
     ·have H := Lib.hid (tf_false (show ¬ shelvesP y from fun h => by
       have := inB_iff.2 (h.2.2.1 _ (List.getElem_mem hlt))
       rw [q1] at this
       cases this))
      go_wp2
      refine wp_region_pure (by kernel_rfl) (by kernel_rfl) ?_
      repeat (go_big_quiet_step ((go_at_call 30; exact pure_same (fun u => l01In_any _ _ _ u.1))))
      refine wpQuiet_nil ?_
      rintro _ ⟨⟨w3, b3⟩, rfl⟩
      clear hlc
      go_wp2
      go_ret
      exact ⟨ret_bool H.out.symm, bnext B1 b3⟩
     have HQ := Lib.hid (inB_iff.1 q1)
     go_wp2
     refine wp_region_pure (by kernel_rfl) (by kernel_rfl) ?_
     repeat (go_big_quiet_step ((go_at_call 30; exact pure_same (fun u => l01In_any _ _ _ u.1))))
     refine wpQuiet_nil ?_
     rintro _ ⟨⟨w3, b3⟩, rfl⟩
     clear hlc
     go_wp2
     clear d0 d1 d2 d3 hs1 X1_0 X1_1 X1_2 X1_3 X1_l X1 q1 w1'
     go_loopw [6] (fun i wq => ∃ m : Nat, m ≤ k ∧ i = .int .i64 m ∧ Hid (noneSeq (entriesOf y) k m) ∧ Below wr.heap.size wr wq) (fun i _ => k - (intOf i).toNat)
     case atStart => exact ⟨0, Nat.zero_le _, rfl, fun j _ _ h0 => absurd h0 (by omega), b3⟩
     case round =>
      obtain ⟨m, hm, rfl, hno, hb4⟩ := hrel
      by_cases hmk : m < k
      ·have hmI : (m : Int) < (k : Int) := by omega
       obtain ⟨b', o', _, hA', hbb', _, d0, d1, d2, d3⟩ := RdL.entry (ent_rdL (O2.below (bnext hb hb4))) hlt
       simp only [Option.some.injEq, Addr.mk.injEq, and_true] at hA'
       obtain ⟨rfl, rfl⟩ := hA'
       obtain ⟨b', o', _, hA', _, _, f0, f1, f2, f3⟩ := RdL.entry (ent_rdL (O2.below (bnext hb hb4))) (show m < (entriesOf y).length by omega)
       simp only [Option.some.injEq, Addr.mk.injEq, and_true] at hA'
       obtain ⟨rfl, rfl⟩ := hA'
       have hmJ : (m : Int) < ((entriesOf y).length : Int) := by omega
       have hs2 := hb4.size
       by_cases q2 : (entriesOf y)[m].seq = (entriesOf y)[k].seq
       ·have H := Lib.hid (tf_false (show ¬ shelvesP y from fun h => by
         have h3 := List.pairwise_iff_getElem.1 h.2.2.2 m k (by rw [List.length_map]; omega) (by rw [List.length_map]; omega) (by omega)
         rw [List.getElem_map, List.getElem_map] at h3
         exact h3 q2))
        have q2' : ((entriesOf y)[m].seq == (entriesOf y)[k].seq) = true := beq_iff_eq.2 q2
        clear q2
        go_wp2
        go_quiet (fail)
        go_wp2
        go_ret
        exact ⟨ret_bool H.out.symm, bdrewN (bnext B1 hb4) _⟩
       ·have S : Hid (noneSeq (entriesOf y) k (m + 1)) := fun j hj hk' hjm => by
         by_cases e : j = m
         ·subst e; exact q2
         ·exact hno.out j hj hk' (by omega)
        have q2' : ((entriesOf y)[m].seq == (entriesOf y)[k].seq) = false := beq_eq_false_iff_ne.2 q2
        clear q2
        go_wp2
        go_quiet (fail)
        go_wp2
        first
         | exact ⟨⟨m + 1, by omega, by go_num, S, bdrewN hb4 _⟩, by simp [intOf]; omega⟩
         | (refine ⟨?_, by simp [intOf]; omega⟩; (repeat apply Exists.intro); first | exact ⟨⟨m + 1, by omega, by go_num, S, bdrewN hb4 _⟩, rfl⟩ | exact ⟨⟨m + 1, by omega, by go_num, S, bdrewN hb4 _⟩, rfl, rfl⟩ | exact ⟨⟨m + 1, by omega, by go_num, S, bdrewN hb4 _⟩, rfl, rfl, rfl⟩ | exact ⟨⟨m + 1, by omega, by go_num, S, bdrewN hb4 _⟩, rfl, rfl, rfl, rfl⟩ | exact ⟨⟨m + 1, by omega, by go_num, S, bdrewN hb4 _⟩, rfl, rfl, rfl, rfl, rfl⟩ | exact ⟨⟨m + 1, by omega, by go_num, S, bdrewN hb4 _⟩, rfl, rfl, rfl, rfl, rfl, rfl⟩ | exact ⟨⟨m + 1, by omega, by go_num, S, bdrewN hb4 _⟩, rfl, rfl, rfl, rfl, rfl, rfl, rfl⟩)
      ·have hmI : ¬ (m : Int) < (k : Int) := by omega
       have S : Hid (entsOk y.seq (entriesOf y) (k + 1)) := ents_step hok.out hlt (inB_iff.2 HQ.out) (noneSeq_not hlt (fun j hj hk' hjm => hno.out j hj hk' (by omega)) (fun j hj hjk => by
        by_cases e : j = k
        ·subst e; exact HQ.out.1
        ·exact (hok.out j hj (by omega)).1.1))
       go_wp2
       first
        | exact ⟨⟨k + 1, by omega, by go_num, S, bnext hb hb4⟩, by simp [intOf]; omega⟩
        | (refine ⟨?_, by simp [intOf]; omega⟩; (repeat apply Exists.intro); first | exact ⟨⟨k + 1, by omega, by go_num, S, bnext hb hb4⟩, rfl⟩ | exact ⟨⟨k + 1, by omega, by go_num, S, bnext hb hb4⟩, rfl, rfl⟩ | exact ⟨⟨k + 1, by omega, by go_num, S, bnext hb hb4⟩, rfl, rfl, rfl⟩ | exact ⟨⟨k + 1, by omega, by go_num, S, bnext hb hb4⟩, rfl, rfl, rfl, rfl⟩ | exact ⟨⟨k + 1, by omega, by go_num, S, bnext hb hb4⟩, rfl, rfl, rfl, rfl, rfl⟩ | exact ⟨⟨k + 1, by omega, by go_num, S, bnext hb hb4⟩, rfl, rfl, rfl, rfl, rfl, rfl⟩ | exact ⟨⟨k + 1, by omega, by go_num, S, bnext hb hb4⟩, rfl, rfl, rfl, rfl, rfl, rfl, rfl⟩)
    ·have hltI : ¬ (k : Int) < ((entriesOf y).length : Int) := by omega
     have H := Lib.hid (tf_true (shelves_of A3_.out HS.out (fun j hj hj2 => hok.out j hj (by omega))))
     go_wp2
     go_ret
     exact ⟨ret_bool H.out.symm, bnext B0 hb⟩
end Go.Proofs.Ytonlnjdempbfoaa
end
