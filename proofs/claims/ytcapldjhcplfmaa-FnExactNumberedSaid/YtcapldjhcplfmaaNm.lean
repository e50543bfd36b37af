/-
  Numbered: deeds as notes, numbered one by one. Written by program (cs.py).
-/
import Derived.Test.YtcapldjhcplfmaaDs
import Derived.Test.YtcapldjhcplfmaaTNote
namespace Go.Proofs.Ytcapldjhcplfmaa
open Go.RowKit
set_option maxRecDepth 100000
set_option maxHeartbeats 1000000
set_option linter.unusedVariables false
set_option linter.unusedSimpArgs false

attribute [local go_sem] slV
def numOk (l : List Deed) (f : Int) : Bool := inB f 1 1000000000 && decide (l.length ≤ 400) && decide ((l.length : Int) ≤ 1000000000 - f + 1)
def nmb : Int → List Deed → List Note
  | _, [] => []
  | f, d :: l => ⟨f, d⟩ :: nmb (f + 1) l
def numbered (l : List Deed) (f : Int) : List Note := if numOk l f = true then nmb f l else []
theorem nmb_snoc : ∀ (f : Int) (l : List Deed) (d : Deed), nmb f (l ++ [d]) = nmb f l ++ [⟨f + l.length, d⟩]
  | f, [], d => by simp [nmb]
  | f, x :: l, d => by
    simp only [nmb, List.cons_append, nmb_snoc (f + 1) l d, List.length_cons]
    congr 4
    push_cast
    omega
theorem nmb_cnt : ∀ (f : Int) (l : List Deed), cntL cntNote (nmb f l) = cntL cntDeed l
  | _, [] => by simp [nmb, cntL]
  | f, x :: l => by
    have ih := nmb_cnt (f + 1) l
    unfold cntL at *
    simp only [nmb, List.length_cons, List.map_cons, List.sum_cons, cntNote] at *
    omega
theorem numbered_cnt (l : List Deed) (f : Int) : cntL cntNote (numbered l f) ≤ cntL cntDeed l := by
  unfold numbered
  split
  · rw [nmb_cnt]; omega
  · simp [cntL]
theorem nmb_len : ∀ (f : Int) (l : List Deed), (nmb f l).length = l.length
  | _, [] => rfl
  | f, x :: l => by simp [nmb, nmb_len (f + 1) l]
def nmbP : Int → List (Deed × Sl) → List (Note × Sl)
  | _, [] => []
  | f, r :: l => (⟨f, r.1⟩, r.2) :: nmbP (f + 1) l
theorem nmbP_snoc : ∀ (f : Int) (l : List (Deed × Sl)) (d : Deed × Sl), nmbP f (l ++ [d]) = nmbP f l ++ [(⟨f + l.length, d.1⟩, d.2)]
  | f, [], d => by simp [nmbP]
  | f, x :: l, d => by
    simp only [nmbP, List.cons_append, nmbP_snoc (f + 1) l d, List.length_cons]
    congr 5
    push_cast
    omega
theorem nmbP_map : ∀ (f : Int) (l : List (Deed × Sl)), (nmbP f l).map (·.1) = nmb f (l.map (·.1))
  | _, [] => rfl
  | f, x :: l => by simp only [nmbP, List.map_cons, nmb, nmbP_map (f + 1) l]
theorem nmbP_len : ∀ (f : Int) (l : List (Deed × Sl)), (nmbP f l).length = l.length
  | _, [] => rfl
  | f, x :: l => by simp [nmbP, nmbP_len (f + 1) l]
theorem nmbP_ows {w : World} {G : List Nat} {l : List (Deed × deedD.S)} (f : Int) (h : Ows deedD w G l) : Ows noteD w G (nmbP f l) := by
  induction h generalizing f with
  | nil => exact .nil
  | @cons F G r rs h1 _ ih => exact Ows.cons (d := noteD) (r := (⟨f, r.1⟩, r.2)) h1 (ih (f + 1))
theorem own_none (w w' : World) (A : Option Addr) (c : Nat) (hb : Below w.heap.size w w') : OwnPost (Dt.list noteD) slV [] w (.returned (.slice A 0 c)) w' :=
  ⟨⟨A, 0, c⟩, [], rfl, OwL.nil _ _ _ _, (fun b hb' => by cases hb'), hb⟩

theorem implNumbered_own (l : List Deed) (s : Sl) (f : Int) (w : World) (hl : cntL cntDeed l ≤ 2000000) (h : RdL deedD w w.heap.size s.v l) :
    Calls Try.prog 27 #[.slice s.a s.n s.c, .int .i64 f] w (OwnPost (Dt.list noteD) slV (numbered l f) w) := by
  obtain ⟨A, n, c⟩ := s
  obtain ⟨A', c', hv, -⟩ := h.form
  simp only [Sl.v, Value.slice.injEq] at hv
  obtain ⟨rfl, rfl, rfl⟩ := hv
  have hll : l.length ≤ 2000000 := Nat.le_trans (cntL_len _ _) hl
  have hcc : ∀ k (hk : k < l.length), cntDeed l[k] ≤ 2000000 := fun k hk => by have := cntL_mem (cnt := cntDeed) (List.getElem_mem hk); omega
  cases h1 : inB f 1 1000000000
  case false =>
    have H := Lib.hid (show numbered l f = [] by simp [numbered, numOk, h1])
    clear hl
    go_enter Try.func27, Try.ntmps27
    go_wp2_with (go_at_call 83; refine (within_any _ _ _ _).mono ?_; rintro e w' ⟨rfl, rfl⟩)
    go_ret
    rw [H.out]
    exact own_none _ _ _ _ (by repeat (first | exact Below.refl _ _ | refine Below.alloc ?_ (by simp <;> omega) _))
  have hf : 1 ≤ f ∧ f ≤ 1000000000 := by
    have := h1
    simp only [inB, Bool.and_eq_true, decide_eq_true_eq] at this
    exact this
  by_cases h2 : l.length ≤ 400
  case neg =>
    have H := Lib.hid (show numbered l f = [] by simp [numbered, numOk, h2])
    clear hl
    go_enter Try.func27, Try.ntmps27
    go_wp2_with (go_at_call 83; refine (within_any _ _ _ _).mono ?_; rintro e w' ⟨rfl, rfl⟩)
    go_ret
    rw [H.out]
    exact own_none _ _ _ _ (by repeat (first | exact Below.refl _ _ | refine Below.alloc ?_ (by simp <;> omega) _))
  by_cases h3 : (l.length : Int) ≤ 1000000000 - f + 1
  case neg =>
    have H := Lib.hid (show numbered l f = [] by simp [numbered, numOk, h3])
    clear hl
    go_enter Try.func27, Try.ntmps27
    go_wp2_with (go_at_call 83; refine (within_any _ _ _ _).mono ?_; rintro e w' ⟨rfl, rfl⟩)
    go_ret
    rw [H.out]
    exact own_none _ _ _ _ (by repeat (first | exact Below.refl _ _ | refine Below.alloc ?_ (by simp <;> omega) _))
  have H := Lib.hid (show numbered l f = nmb f l by simp [numbered, numOk, h1, h2, h3])
  clear hl
  obtain ⟨i0, hi0, hz0, hz1, hz2⟩ := info_parts note_infoD
  go_enter Try.func27, Try.ntmps27
  go_wp2_with (go_at_call 83; refine (within_any _ _ _ _).mono ?_; rintro e w' ⟨rfl, rfl⟩)
  go_loopw [5, 26] (fun t i wr => ∃ (k : Nat) (v : Value), k ≤ l.length ∧ i = .int .i64 k ∧ v = t ∧ Hid (Bls noteD 134 wr w.heap.size v (nmb f (l.take k))) ∧ Below w.heap.size w wr) (fun _ i _ => l.length - (intOf i).toNat)
  case atStart => exact ⟨0, _, Nat.zero_le _, rfl, rfl, ⟨[], by simp [nmb], Bld.nil _ _ _ _⟩, Below.refl _ _⟩
  case round =>
    obtain ⟨k, v, hk, rfl, rfl, hB0, hb⟩ := hrel
    by_cases hlt : k < l.length
    · obtain ⟨b, o, s', rfl, hbb, hr, c0, c1, c2, c3, c4, c5, c6, c7, c8, c9, c10⟩ := (h.below hb).deed hlt
      have hx : ∀ W, Below wr.heap.size wr W → deedD.rd W W.heap.size l[k] s' := fun W hW => deedD.rd_more (deedD.rd_below (deedD.rd_more hr hb.size) hW) hW.size
      obtain ⟨rs, hm, hB⟩ := hB0.out
      have hrl : rs.length = k := by have := congrArg List.length hm; rw [List.length_map, nmb_len, List.length_take] at this; omega
      have hO := hB.ow
      have hsz := hb.size
      have B1 := (Below.refl wr.heap.size wr).alloc (Nat.le_refl _) (.cells #[.int .i64 l[k].kind, .int .i64 l[k].run, .int .i64 l[k].plan.prio, .int .i64 l[k].plan.most, .int .i64 l[k].plan.wait, .int .i64 l[k].plan.tasks, .slice s'.a s'.n s'.c, .int .i64 l[k].task, .int .i64 l[k].try_, .int .i64 l[k].worker, .int .i64 l[k].draw] 132)
      have Hrl := Lib.hid hrl
      have hrl' : rs.length ≤ 2000000 := by omega
      clear hrl
      go_wp2_with (first | (go_at_call 89; refine (implCopyDeed_own l[k] s' _ (hcc k hlt) (hx _ B1)).mono ?_; rintro e w2 ⟨s2, F2, rfl, o2, n2, b2⟩; have B2 := bnext B1 b2; have z2 := b2.size; (try simp only [World.size_alloc] at z2 n2)) | (at_builtin; refine wpList_push_all _ noteD.enc (by decide) rfl (.tmp 31) (.tmp 38) rfl Try.underlying33 hi0 hz0 hz1 hz2 rfl (v := v) (l := rs) rfl (hO.below (B2.alloc (by omega) _)) rfl (Rd.one noteD.enc _ _ (⟨f + (k : Int), l[k]⟩, s2) rfl rfl 1 (Nat.le_refl _) (Nat.lt_succ_self _)) (by omega) (by simp) (by decide) (by (try simp only [World.size_alloc]); omega) ?_; intro v5 w5 o5 g5 f5))
      have hP := Bld.push1 (d := noteD) (x := ⟨f + (k : Int), l[k]⟩) hB B2 o2 (fun b hb' => by have := n2 b hb'; omega) hsz ((Below.refl _ _).alloc (Nat.le_refl _) _) o5 g5 f5
      refine ⟨⟨k + 1, v5, by omega, by go_num, rfl, ⟨rs ++ [(⟨f + (k : Int), l[k]⟩, s2)], ?_, hP⟩, ((hb.trans (B2.mono hb.size)).alloc (by omega) _).grown g5 (by simp <;> omega) (fun g hg => (hO.within g hg).1)⟩, by simp [intOf]; omega⟩
      rw [List.map_append, hm, take_snoc l k hlt, nmb_snoc, List.length_take, Nat.min_eq_left hk]
      rfl
    · go_wp2
      go_ret
      have h1 := hB0.out
      rw [List.take_of_length_le (by omega)] at h1
      rw [H.out]
      exact h1.own hb

theorem specNumbered_own (l : List Deed) (s : Sl) (f : Int) (w : World) (hl : cntL cntDeed l ≤ 2000000) (h : RdL deedD w w.heap.size s.v l) :
    Calls Try.prog 25 #[.slice s.a s.n s.c, .int .i64 f] w (OwnPost (Dt.list noteD) slV (numbered l f) w) := by
  obtain ⟨A, n, c⟩ := s
  obtain ⟨A', c', hv, -⟩ := h.form
  simp only [Sl.v, Value.slice.injEq] at hv
  obtain ⟨rfl, rfl, rfl⟩ := hv
  have hll : l.length ≤ 2000000 := Nat.le_trans (cntL_len _ _) hl
  have hcc : ∀ k (hk : k < l.length), cntDeed l[k] ≤ 2000000 := fun k hk => by have := cntL_mem (cnt := cntDeed) (List.getElem_mem hk); omega
  cases h1 : inB f 1 1000000000
  case false =>
    have H := Lib.hid (show numbered l f = [] by simp [numbered, numOk, h1])
    clear hl
    go_enter Try.func25, Try.ntmps25
    go_wp2_with (go_at_call 81; refine (l01In_any _ _ _ _).mono ?_; rintro e w' ⟨rfl, rfl⟩)
    go_ret
    rw [H.out]
    exact own_none _ _ _ _ (by repeat (first | exact Below.refl _ _ | refine Below.alloc ?_ (by simp <;> omega) _))
  have hf : 1 ≤ f ∧ f ≤ 1000000000 := by
    have := h1
    simp only [inB, Bool.and_eq_true, decide_eq_true_eq] at this
    exact this
  by_cases h2 : l.length ≤ 400
  case neg =>
    have H := Lib.hid (show numbered l f = [] by simp [numbered, numOk, h2])
    clear hl
    go_enter Try.func25, Try.ntmps25
    go_wp2_with (go_at_call 81; refine (l01In_any _ _ _ _).mono ?_; rintro e w' ⟨rfl, rfl⟩)
    go_ret
    rw [H.out]
    exact own_none _ _ _ _ (by repeat (first | exact Below.refl _ _ | refine Below.alloc ?_ (by simp <;> omega) _))
  by_cases h3 : (l.length : Int) ≤ 1000000000 - f + 1
  case neg =>
    have H := Lib.hid (show numbered l f = [] by simp [numbered, numOk, h3])
    clear hl
    go_enter Try.func25, Try.ntmps25
    go_wp2_with (go_at_call 81; refine (l01In_any _ _ _ _).mono ?_; rintro e w' ⟨rfl, rfl⟩)
    go_ret
    rw [H.out]
    exact own_none _ _ _ _ (by repeat (first | exact Below.refl _ _ | refine Below.alloc ?_ (by simp <;> omega) _))
  have H := Lib.hid (show numbered l f = nmb f l by simp [numbered, numOk, h1, h2, h3])
  obtain ⟨i0, hi0, hz0, hz1, hz2⟩ := info_parts note_infoD
  have b0 : Below w.heap.size w (w.alloc (.cells #[] 134)) := (Below.refl _ _).alloc (Nat.le_refl _) _
  go_enter Try.func25, Try.ntmps25
  go_wp2_with (first | (go_at_call 81; refine (l01In_any _ _ _ _).mono ?_; rintro e w' ⟨rfl, rfl⟩) | (go_at_call 87; refine (specDeeds_own l ⟨A, l.length, c⟩ _ hl (RdL.more (RdL.below h b0) b0.size)).mono ?_; rintro e w1 ⟨⟨A2, n2, c2⟩, F2, rfl, o2, nn2, b2⟩; obtain ⟨_, _, hv2, -⟩ := OwL.form o2; simp only [Sl.v, Value.slice.injEq] at hv2; obtain ⟨rfl, rfl, rfl⟩ := hv2))
  obtain ⟨rs, Hb, G, hm, hw, ho, hF, hn⟩ := o2
  have hrl : rs.length = l.length := by rw [← hm, List.length_map]
  have hz := b2.size
  simp only [World.size_alloc] at hz nn2
  have hlH : ∀ b ∈ Hb, w.heap.size < b ∧ b < w1.heap.size := fun b hb => ⟨nn2 b (by rw [hF]; exact List.mem_append_left _ hb), hw.lt b hb⟩
  have hlG : ∀ b ∈ G, w.heap.size < b ∧ b < w1.heap.size := fun b hb => ⟨nn2 b (by rw [hF]; exact List.mem_append_right _ hb), ho.lt b hb⟩
  have hnG : G.Nodup := (List.nodup_append.1 (hF ▸ hn)).2.1
  have hv0 : Ow noteD.enc 134 w1 w.heap.size (.slice (some ⟨w.heap.size, 0, none⟩) 0 0) [] := (Ow.empty noteD.enc 134 w rfl).below b2
  have Hm := Lib.hid hm
  have Hrl := Lib.hid hrl
  have bw1 := bnext b0 b2
  clear hm hrl hF hn nn2 hcc h hl
  go_wp2
  go_loopw [5, 7] (fun t i wr => ∃ (k : Nat) (v : Value), k ≤ l.length ∧ i = .int .i64 k ∧ v = t ∧ Hid (Ow noteD.enc 134 wr w.heap.size v (nmbP f (rs.take k)) ∧ (∀ g, v.ownBlock = some g → g = w.heap.size ∨ w1.heap.size ≤ g) ∧ Hw deedD.enc wr Hb (Sl.v ⟨A2, l.length, c2⟩) rs ∧ Ows deedD wr G rs ∧ w1.heap.size ≤ wr.heap.size) ∧ Below w.heap.size w wr) (fun _ i _ => l.length - (intOf i).toNat)
  case atStart => exact ⟨0, _, Nat.zero_le _, rfl, rfl, ⟨hv0, fun g hg => .inl (by simpa [Value.ownBlock] using hg.symm), hw, ho, Nat.le_refl _⟩, bw1⟩
  case round =>
    clear hw ho hv0
    obtain ⟨k, v, hk, rfl, rfl, hI, hb⟩ := hrel
    obtain ⟨hO, hvb, hw, ho, hsw⟩ := hI.out
    by_cases hlt : k < l.length
    · have hltr : k < rs.length := by rw [Hrl.out]; exact hlt
      obtain ⟨b, o, hA, hFb, hbb, hfr⟩ := hw.at_ (by omega)
      have hrd := hw.rd
      subst hA
      have hcell : ∀ j u, (deedD.enc.cells rs[k])[j]? = some u → wr.cell? ⟨b, o + k * 11 + j, none⟩ = some u := by
        obtain ⟨A', c', hv', _, hAA⟩ := hrd
        simp only [Sl.v, Value.slice.injEq] at hv'
        obtain ⟨rfl, _, _⟩ := hv'
        obtain ⟨b', o', he, _, hc⟩ := hAA (by omega)
        simp only [Option.some.injEq, Addr.mk.injEq, and_true] at he
        obtain ⟨rfl, rfl⟩ := he
        exact fun j u hu => hc k hltr j u hu
      have c0 : wr.cell? ⟨b, o + k * 11, none⟩ = some (.int .i64 rs[k].1.kind) := hcell 0 _ rfl
      have c1 : wr.cell? ⟨b, o + k * 11 + 1, none⟩ = some (.int .i64 rs[k].1.run) := hcell 1 _ rfl
      have c2 : wr.cell? ⟨b, o + k * 11 + 2, none⟩ = some (.int .i64 rs[k].1.plan.prio) := hcell 2 _ rfl
      have c3 : wr.cell? ⟨b, o + k * 11 + 3, none⟩ = some (.int .i64 rs[k].1.plan.most) := hcell 3 _ rfl
      have c4 : wr.cell? ⟨b, o + k * 11 + 4, none⟩ = some (.int .i64 rs[k].1.plan.wait) := hcell 4 _ rfl
      have c5 : wr.cell? ⟨b, o + k * 11 + 5, none⟩ = some (.int .i64 rs[k].1.plan.tasks) := hcell 5 _ rfl
      have c6 : wr.cell? ⟨b, o + k * 11 + 6, none⟩ = some (.slice rs[k].2.a rs[k].2.n rs[k].2.c) := hcell 6 _ rfl
      have c7 : wr.cell? ⟨b, o + k * 11 + 7, none⟩ = some (.int .i64 rs[k].1.task) := hcell 7 _ rfl
      have c8 : wr.cell? ⟨b, o + k * 11 + 8, none⟩ = some (.int .i64 rs[k].1.try_) := hcell 8 _ rfl
      have c9 : wr.cell? ⟨b, o + k * 11 + 9, none⟩ = some (.int .i64 rs[k].1.worker) := hcell 9 _ rfl
      have c10 : wr.cell? ⟨b, o + k * 11 + 10, none⟩ = some (.int .i64 rs[k].1.draw) := hcell 10 _ rfl
      have hsz := hb.size
      have hNl : (nmbP f (rs.take k)).length ≤ 2000000 := by rw [nmbP_len, List.length_take]; omega
      clear hcell hI hrd
      go_wp2_with (at_builtin; refine wpList_push_all _ noteD.enc (by decide) rfl (.tmp 34) (.tmp 43) rfl Try.underlying33 hi0 hz0 hz1 hz2 rfl (v := v) (l := nmbP f (rs.take k)) rfl (hO.below ((Below.refl _ _).alloc (Nat.le_refl _) _)) rfl (Rd.one noteD.enc _ _ (⟨f + (k : Int), rs[k].1⟩, rs[k].2) rfl rfl 1 (Nat.le_refl _) (Nat.lt_succ_self _)) (by omega) (by simp) (by decide) (by (try simp only [World.size_alloc]); omega) ?_; intro v5 w5 o5 g5 f5)
      have hS : nmbP f (rs.take (k + 1)) = nmbP f (rs.take k) ++ [(⟨f + (k : Int), rs[k].1⟩, rs[k].2)] := by rw [take_snoc rs k hltr, nmbP_snoc, List.length_take, Nat.min_eq_left (by omega)]
      have hg5 := g5.size
      rw [World.size_alloc] at hg5 f5
      have hkp : ∀ b', b' < w1.heap.size → w.heap.size < b' → w5.heap[b']? = wr.heap[b']? := fun b' h1' h2' => (g5.block b' (by rw [World.size_alloc]; omega) (fun e => by rcases hvb b' e.symm with e1 | e1 <;> omega)).trans (((Below.refl wr.heap.size wr).alloc (Nat.le_refl _) _).block b' (by omega))
      refine ⟨⟨k + 1, v5, by omega, by go_num, rfl, ⟨by rw [hS]; exact o5, fun g hg => ?_, hw.keep (by omega) (fun b' hb' => hkp b' (hlH b' hb').2 (hlH b' hb').1), ho.keep (by omega) (fun b' hb' => hkp b' (hlG b' hb').2 (hlG b' hb').1), by omega⟩, (hb.alloc hsz _).grown g5 (by rw [World.size_alloc]; omega) (fun g hg => (hO.within g hg).1)⟩, by simp [intOf]; omega⟩
      rcases f5 with f5 | f5
      · exact hvb g (f5.symm.trans hg)
      · rw [f5] at hg
        injection hg with hg
        exact .inr (by omega)
    · have hk' : k = l.length := by omega
      subst hk'
      rw [List.take_of_length_le (by rw [Hrl.out]; exact Nat.le_refl _)] at hO
      clear hI
      go_wp2
      go_ret
      rw [H.out]
      have hB : Bld noteD 134 wr w.heap.size v (nmbP f rs) := ⟨G, hO, nmbP_ows f ho, hnG, fun b hb' => ⟨by have := (hlG b hb').1; omega, fun e => by have := hlG b hb'; rcases hvb b e with e1 | e1 <;> omega⟩⟩
      exact Bls.own ⟨nmbP f rs, by rw [nmbP_map, Hm.out], hB⟩ hb
end Go.Proofs.Ytcapldjhcplfmaa
