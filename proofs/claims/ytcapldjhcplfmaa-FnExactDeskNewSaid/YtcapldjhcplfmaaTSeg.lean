/-
  Data of the type Seg: how it lies in memory, and the walks of the laws' helpers on it. Written by program (deep.py).
-/
import Derived.Test.YtcapldjhcplfmaaTNote
namespace Go.Proofs.Ytcapldjhcplfmaa
open Go.RowKit
set_option maxRecDepth 100000
set_option maxHeartbeats 1000000
set_option linter.unusedVariables false
set_option linter.unusedSimpArgs false

structure Seg where
  fr : Int
  notes : List Note
deriving DecidableEq, Inhabited

@[go_sem] abbrev segW (x : Seg) (s : Sl) : Value := .agg #[.int .i64 x.fr, .slice s.a s.n s.c]
abbrev segD : Dt Seg := Dt.via (Dt.list noteD) (·.notes) (fun q => [.int .i64 q.1.fr, .slice q.2.a q.2.n q.2.c]) 2 (fun _ => rfl) (fun q u hu => by simp at hu; rcases hu with rfl | rfl <;> rfl)
/-- all lengths in it together -/
def cntSeg (x : Seg) : Nat := cntL cntNote x.notes
/-- ints are int64, lengths are what a machine holds -/
def wfSeg (x : Seg) : Prop := Wf x.fr ∧ wfL wfNote x.notes
def numSeg (x : Seg) : Nat := 1 + numL numNote x.notes
/-- with the marks from k on -/
def mkSeg (k : Int) (x : Seg) : Seg := ⟨k, mkL mkNote numNote (k + 1) x.notes⟩
theorem numSeg_le (x : Seg) : numSeg x ≤ 13 * (cntSeg x + 1) := by
  have h0 := numL_le (num := numNote) (cnt := cntNote) (K := 13) numNote_le x.notes
  unfold numSeg cntSeg
  omega

theorem toSeg_own (x : Seg) (s : Sl) (w : World) (hl : cntSeg x ≤ 2000000) (h : segD.rd w w.heap.size x s) :
    Calls Try.prog 82 #[segW x s] w (OwnPost segD segW x w) := by
  have hbx : ∀ W, Below w.heap.size w W → segD.rd W W.heap.size x s := fun W hW => segD.rd_more (segD.rd_below h hW) hW.size
  go_enter Try.func82, Try.ntmps82
  go_wp2_with fail
  refine (toNoteS_own x.notes s _ (by unfold cntSeg at hl; omega) ((hbx _ (by repeat (first | exact Below.refl _ _ | refine Below.alloc ?_ (by simp <;> omega) _))))).mono ?_
  rintro e w0 ⟨s0, F0, rfl, o0, n0, hb0⟩
  obtain ⟨q0, p0⟩ := bcell hb0
  have z0 := hb0.size
  simp only [World.size_alloc, World.size_setCell] at z0 n0
  have B0 : Below w.heap.size w w0 := bnext (by repeat (first | exact Below.refl _ _ | refine Below.alloc ?_ (by simp <;> omega) _)) hb0
  go_wp2
  refine bodyPost_ret (v := segW x s0) ?_ rfl ?_
  · simp [segW, results, Try.results82, go_sem, q0]
  · refine ⟨s0, F0, rfl, ?_, ?_, ?_⟩
    · repeat (first | (with_reducible exact o0) | refine Dt.ow_set _ ?_ (by intro hm; have := n0 _ hm; (try simp only [World.size_alloc, World.size_setCell] at this); omega) _)
    · intro b hb
      have := n0 b hb
      omega
    · repeat (first | (with_reducible exact B0) | (with_reducible exact Below.refl _ _) | refine Below.setCell ?_ (by simp <;> omega) _ | refine Below.alloc ?_ (by simp <;> omega) _)

theorem eqSeg_own (x y : Seg) (s r : Sl) (w : World) (hl : cntSeg x ≤ 2000000) (hl' : cntSeg y ≤ 2000000) (h : segD.rd w w.heap.size x s) (h' : segD.rd w w.heap.size y r) :
    Calls Try.prog 85 #[segW x s, segW y r] w fun e w' => e = .returned (.bool (decide (x = y))) ∧ Below w.heap.size w w' := by
  have hbx : ∀ W, Below w.heap.size w W → segD.rd W W.heap.size x s := fun W hW => segD.rd_more (segD.rd_below h hW) hW.size
  have hby : ∀ W, Below w.heap.size w W → segD.rd W W.heap.size y r := fun W hW => segD.rd_more (segD.rd_below h' hW) hW.size
  by_cases h0 : x.fr = y.fr
  case neg =>
    have t0 : (x.fr != y.fr) = true := by rw [bne_iff_ne]; exact h0
    have H := Lib.hid (show decide (x = y) = false by simp only [decide_eq_false_iff_not]; intro e; exact h0 (by rw [e]))
    clear h0
    go_enter Try.func85, Try.ntmps85
    go_wp2
    go_ret
    exact ⟨ret_bool (by first | exact H.out.symm | rfl), by repeat (first | exact Below.refl _ _ | refine Below.alloc ?_ (by simp <;> omega) _)⟩
  have t0 : (x.fr != y.fr) = false := by simp [h0]
  have H0 := Lib.hid h0
  clear h0
  go_enter Try.func85, Try.ntmps85
  go_wp2_with fail
  refine (eqNoteS_own x.notes y.notes s r _ (by unfold cntSeg at hl; omega) (by unfold cntSeg at hl'; omega) ((hbx _ (by repeat (first | exact Below.refl _ _ | refine Below.alloc ?_ (by simp <;> omega) _)))) ((hby _ (by repeat (first | exact Below.refl _ _ | refine Below.alloc ?_ (by simp <;> omega) _))))).mono ?_
  rintro e w1 ⟨rfl, hb1⟩
  have B1 : Below w.heap.size w w1 := bnext (by repeat (first | exact Below.refl _ _ | refine Below.alloc ?_ (by simp <;> omega) _)) hb1
  obtain ⟨q1, p1⟩ := bcell hb1
  by_cases h1 : x.notes = y.notes
  case neg =>
    have H := Lib.hid (show decide (x = y) = false by simp only [decide_eq_false_iff_not]; intro e; exact h1 (by rw [e]))
    rw [decide_eq_false h1]
    clear h1
    go_wp2
    go_ret
    exact ⟨ret_bool (by first | exact H.out.symm | rfl), by exact B1⟩
  rw [decide_eq_true h1]
  have H1 := Lib.hid h1
  clear h1
  have H := Lib.hid (show decide (x = y) = true by
    simp only [decide_eq_true_eq]
    have hh := And.intro H0.out H1.out
    obtain ⟨e0, e1⟩ := hh
    cases x
    cases y
    simp only at e0 e1
    subst e0 e1
    rfl)
  go_wp2
  go_ret
  exact ⟨ret_bool (by first | exact H.out.symm | rfl), by exact B1⟩

theorem szSeg_own (x : Seg) (s : Sl) (left : Int) (w : World) (h0 : 0 ≤ left) (h1 : left ≤ 2000000) (hw : wfSeg x) (h : segD.rd w w.heap.size x s) :
    Calls Try.prog 80 #[segW x s, .int .i64 left] w (SzPost left (cntSeg x) w) := by
  have hbx : ∀ W, Below w.heap.size w W → segD.rd W W.heap.size x s := fun W hW => segD.rd_more (segD.rd_below h hW) hW.size
  go_enter Try.func80, Try.ntmps80
  go_wp2_with fail
  refine (szNoteS_own x.notes s left _ (by omega) (by omega) hw.2 ((hbx _ (by repeat (first | exact Below.refl _ _ | refine Below.alloc ?_ (by simp <;> omega) _))))).mono ?_
  rintro e w0 ⟨r0, rfl, hr0, hb0⟩
  have B0 : Below w.heap.size w w0 := bnext (by repeat (first | exact Below.refl _ _ | refine Below.alloc ?_ (by simp <;> omega) _)) hb0
  obtain ⟨q0, p0⟩ := bcell hb0
  rcases hr0 with rfl | ⟨y0, z0⟩
  · go_wp2
    go_ret
    exact ⟨-1, rfl, .inl rfl, B0⟩
  go_wp2
  go_ret
  exact ⟨_, rfl, .inr ⟨by omega, by unfold cntSeg; omega⟩, B0⟩

theorem RdL.seg {w : World} {B : Nat} {A : Option Addr} {n c : Nat} {l : List (Seg)} (h : RdL segD w B (.slice A n c) l) {k : Nat} (hk : k < l.length) :
    ∃ b o, ∃ s : Sl, A = some ⟨b, o, none⟩ ∧ b < B ∧ segD.rd w B l[k] s ∧ w.cell? ⟨b, o + k * 2, none⟩ = some (.int .i64 l[k].fr) ∧ w.cell? ⟨b, o + k * 2 + 1, none⟩ = some (.slice s.a s.n s.c) := by
  obtain ⟨b, o, s, rfl, hb, hc, hr⟩ := h.at_ k hk
  exact ⟨b, o, s, rfl, hb, hr, hc 0 _ rfl, hc 1 _ rfl⟩
theorem Ow.c_seg {E : TypeId} {w : World} {base g n cap : Nat} {l : List ((Seg) × Sl)} (h : Ow segD.enc E w base (.slice (some ⟨g, 0, none⟩) n cap) l) {k : Nat} (hk : k < l.length) :
    w.cell? ⟨g, k * 2, none⟩ = some (.int .i64 l[k].1.fr) ∧ w.cell? ⟨g, k * 2 + 1, none⟩ = some (.slice l[k].2.a l[k].2.n l[k].2.c) := by
  rcases h.form with ⟨h1, _⟩ | ⟨g', cap', hv, _, _, _, _, _, hc⟩
  · simp at h1
  · simp only [Value.slice.injEq, Option.some.injEq, Addr.mk.injEq, and_true] at hv
    obtain ⟨rfl, _, _⟩ := hv
    exact ⟨hc k hk 0 _ rfl, hc k hk 1 _ rfl⟩
theorem Foc.seg {w : World} {b o n c j : Nat} {rs : List ((Seg) × Sl)} {G1 Fx G2 : List Nat} {x : Seg} {s : Sl} (h : Foc segD w b o n c rs j G1 Fx G2 x s) :
    w.cell? ⟨b, o + j * 2, none⟩ = some (.int .i64 x.fr) ∧ w.cell? ⟨b, o + j * 2 + 1, none⟩ = some (.slice s.a s.n s.c) := ⟨h.cells 0 _ rfl, h.cells 1 _ rfl⟩

theorem szSegS_own (l : List (Seg)) (s : Sl) (left : Int) (w : World) (h0 : 0 ≤ left) (h1 : left ≤ 2000000) (hw : wfL wfSeg l) (h : RdL segD w w.heap.size s.v l) :
    Calls Try.prog 17 #[.slice s.a s.n s.c, .int .i64 left] w (SzPost left (cntL cntSeg l) w) := by
  obtain ⟨A, n, c⟩ := s
  obtain ⟨A', c', hv, -⟩ := h.form
  simp only [Sl.v, Value.slice.injEq] at hv
  obtain ⟨rfl, rfl, rfl⟩ := hv
  have hll := hw.1
  by_cases hlt : left < l.length
  · go_enter Try.func17, Try.ntmps17
    go_wp2
    go_ret
    exact ⟨-1, rfl, .inl rfl, Below.refl _ _⟩
  have Hw := Lib.hid hw
  clear hw
  go_enter Try.func17, Try.ntmps17
  go_wp2
  go_loopw [1, 5] (fun t i wr => ∃ k : Nat, ∃ m : Int, k ≤ l.length ∧ i = .int .i64 k ∧ t = .int .i64 m ∧ 0 ≤ m ∧ m + l.length + (((l.take k).map cntSeg).sum : Nat) ≤ left ∧ Below w.heap.size w wr) (fun _ i _ => l.length - (intOf i).toNat)
  case atStart => exact ⟨0, _, Nat.zero_le _, rfl, rfl, by omega, by simp <;> omega, Below.refl _ _⟩
  case round =>
    obtain ⟨k, m, hk, rfl, rfl, m0, m1, hb⟩ := hrel
    by_cases hlt : k < l.length
    · obtain ⟨b, o, s, rfl, hbb, hr, c0, c1⟩ := (h.below hb).seg hlt
      have hx : ∀ W, Below wr.heap.size wr W → segD.rd W W.heap.size l[k] s := fun W hW => segD.rd_more (segD.rd_below (segD.rd_more hr hb.size) hW) hW.size
      have hwk : wfSeg l[k] := Hw.out.2 _ (List.getElem_mem hlt)
      have M1 := Lib.hid m1
      have m2 : m ≤ 2000000 := by omega
      clear m1
      go_wp2_with fail
      refine (szSeg_own l[k] s m _ m0 m2 hwk (hx _ (by first | exact Below.refl _ _ | exact (Below.refl _ _).drew))).mono ?_
      rintro e w1 ⟨r, rfl, hr, hb1⟩
      rcases hr with rfl | ⟨r0, r1⟩
      · go_wp2
        go_ret
        exact ⟨-1, rfl, .inl rfl, bnext hb hb1⟩
      · go_wp2
        refine ⟨⟨k + 1, r, by omega, by go_num, rfl, r0, ?_, bnext hb hb1⟩, by simp [intOf]; omega⟩
        have M2 := M1.out
        have r2 : r + (cntSeg l[k] : Nat) ≤ m := r1
        rw [sum_take_succ _ _ _ hlt]
        push_cast
        omega
    · go_wp2
      go_ret
      refine ⟨_, rfl, .inr ⟨by omega, ?_⟩, hb⟩
      rw [List.take_of_length_le (by omega)] at m1
      unfold cntL
      push_cast
      omega

theorem eqSegS_own (l l' : List (Seg)) (s s' : Sl) (w : World) (hl : cntL cntSeg l ≤ 2000000) (hl' : cntL cntSeg l' ≤ 2000000) (h : RdL segD w w.heap.size s.v l) (h' : RdL segD w w.heap.size s'.v l') :
    Calls Try.prog 21 #[.slice s.a s.n s.c, .slice s'.a s'.n s'.c] w fun e w' => e = .returned (.bool (decide (l = l'))) ∧ Below w.heap.size w w' := by
  obtain ⟨A, n, c⟩ := s
  obtain ⟨A0, c0, hv, -⟩ := h.form
  simp only [Sl.v, Value.slice.injEq] at hv
  obtain ⟨rfl, rfl, rfl⟩ := hv
  obtain ⟨A', n', c'⟩ := s'
  obtain ⟨A0, c0, hv, -⟩ := h'.form
  simp only [Sl.v, Value.slice.injEq] at hv
  obtain ⟨rfl, rfl, rfl⟩ := hv
  have hll : l.length ≤ 2000000 := Nat.le_trans (cntL_len _ _) hl
  have hll' : l'.length ≤ 2000000 := Nat.le_trans (cntL_len _ _) hl'
  have hcc : ∀ k (hk : k < l.length), cntSeg l[k] ≤ 2000000 := fun k hk => by have := cntL_mem (cnt := cntSeg) (List.getElem_mem hk); omega
  have hcc' : ∀ k (hk : k < l'.length), cntSeg l'[k] ≤ 2000000 := fun k hk => by have := cntL_mem (cnt := cntSeg) (List.getElem_mem hk); omega
  clear hl hl'
  by_cases hne : l.length = l'.length
  · have hb0 : ((l.length : Int) != (l'.length : Int)) = false := by simp [hne]
    have Hne := Lib.hid hne
    clear hne
    go_enter Try.func21, Try.ntmps21
    go_wp2
    go_loopw [5] (fun i wr => ∃ k : Nat, k ≤ l.length ∧ i = .int .i64 k ∧ Hid (l.take k = l'.take k) ∧ Below w.heap.size w wr) (fun i _ => l.length - (intOf i).toNat)
    case atStart => exact ⟨0, Nat.zero_le _, rfl, rfl, Below.refl _ _⟩
    case round =>
      obtain ⟨k, hk, rfl, heq, hb⟩ := hrel
      by_cases hlt : k < l.length
      · have hlt' : k < l'.length := by rw [← Hne.out]; exact hlt
        obtain ⟨b, o, s, rfl, hbb, hr, c0, c1⟩ := (h.below hb).seg hlt
        obtain ⟨b', o', s', rfl, hbb', hr', d0, d1⟩ := (h'.below hb).seg hlt'
        have hx : ∀ W, Below wr.heap.size wr W → segD.rd W W.heap.size l[k] s := fun W hW => segD.rd_more (segD.rd_below (segD.rd_more hr hb.size) hW) hW.size
        have hx' : ∀ W, Below wr.heap.size wr W → segD.rd W W.heap.size l'[k] s' := fun W hW => segD.rd_more (segD.rd_below (segD.rd_more hr' hb.size) hW) hW.size
        go_wp2
        go_still_tail 8, (by kernel_rfl)
        go_wp2_with (go_at_call 85; refine (eqSeg_own l[k] l'[k] s s' _ (hcc k hlt) (hcc' k hlt') (hx _ (by first | exact Below.refl _ _ | exact (Below.refl _ _).drew)) (hx' _ (by first | exact Below.refl _ _ | exact (Below.refl _ _).drew))).mono ?_; rintro e w1 ⟨rfl, hb1⟩)
        · rename_i hd
          go_ret
          refine ⟨ret_bool ?_, (hb.drew).trans (hb1.mono hb.size)⟩
          simp only [Bool.false_eq, decide_eq_false_iff_not]
          intro e
          subst e
          simp at hd
        · rename_i hd
          refine ⟨⟨k + 1, by omega, by go_num, ?_, (hb.drew).trans (hb1.mono hb.size)⟩, by simp [intOf]; omega⟩
          show List.take (k + 1) l = List.take (k + 1) l'
          rw [take_snoc l k hlt, take_snoc l' k hlt', heq.out]
          simp at hd
          rw [hd]
      · go_wp2
        go_ret
        refine ⟨ret_bool ?_, hb⟩
        have h1 := heq.out
        rw [List.take_of_length_le (by omega), List.take_of_length_le (by rw [← Hne.out]; omega)] at h1
        simp [h1]
  · have hb0 : ((l.length : Int) != (l'.length : Int)) = true := by simp; omega
    go_enter Try.func21, Try.ntmps21
    go_wp2
    go_ret
    refine ⟨ret_bool ?_, Below.refl _ _⟩
    simp only [Bool.false_eq, decide_eq_false_iff_not]
    intro e
    exact hne (by rw [e])


theorem seg_infoD : (Try.prog.info? 126).map (fun i => (i.zero, i.size, i.bytes)) = some (some (.agg #[.int .i64 0, .slice none 0 0]), 2, 32) := by kernel_rfl

theorem toSegS_own (l : List (Seg)) (s : Sl) (w : World) (hl : cntL cntSeg l ≤ 2000000) (h : RdL segD w w.heap.size s.v l) :
    Calls Try.prog 19 #[.slice s.a s.n s.c] w (OwnPost (Dt.list segD) slV l w) := by
  obtain ⟨A, n, c⟩ := s
  obtain ⟨A', c', hv, -⟩ := h.form
  simp only [Sl.v, Value.slice.injEq] at hv
  obtain ⟨rfl, rfl, rfl⟩ := hv
  have hll : l.length ≤ 2000000 := Nat.le_trans (cntL_len _ _) hl
  have hcc : ∀ k (hk : k < l.length), cntSeg l[k] ≤ 2000000 := fun k hk => by have := cntL_mem (cnt := cntSeg) (List.getElem_mem hk); omega
  clear hl
  obtain ⟨i0, hi0, hz0, hz1, hz2⟩ := info_parts seg_infoD
  have hmk : ∀ w : World, (Instr.makeSlice 25 (.int .i64 (l.length : Int)) (.int .i64 (l.length : Int))).run Try.prog w = .ok (.slice (some ⟨w.heap.size, 0, none⟩) l.length l.length) (w.alloc (.cells (madeCells #[.int .i64 0, .slice none 0 0] (l.length * 2)) 126)) := by
    intro w
    have := run_make (P := Try.prog) w 25 126 i0 _ Try.underlying25 hi0 hz0 .i64 .i64 l.length l.length (by omega) (by omega) (by rw [hz2]; omega) (by omega)
    rw [hz1] at this
    simpa [Value.cells] using this
  go_enter Try.func19, Try.ntmps19
  go_wp2
  go_loopw [4] (fun i wr => ∃ k : Nat, k ≤ l.length ∧ i = .int .i64 k ∧ Hid (∃ (rs : List ((Seg) × Sl)) (G : List Nat), rs.map (·.1) = l.take k ∧ Ow segD.enc 126 wr w.heap.size (.slice (some ⟨w.heap.size, 0, none⟩) l.length l.length) (rs ++ List.replicate (l.length - k) (⟨0, []⟩, ⟨none, 0, 0⟩)) ∧ Ows segD wr G rs ∧ G.Nodup ∧ ∀ b ∈ G, w.heap.size < b) ∧ Below w.heap.size w wr) (fun i _ => l.length - (intOf i).toNat)
  case atStart => exact ⟨0, Nat.zero_le _, rfl, ⟨[], [], rfl, by rw [List.nil_append, Nat.sub_zero]; exact Ow.made segD.enc 126 w (⟨0, []⟩, ⟨none, 0, 0⟩) l.length (by decide) (by simp [maxLen]; omega) rfl rfl, .nil, List.nodup_nil, fun _ h => by cases h⟩, (Below.refl _ _).alloc (Nat.le_refl _) _⟩
  case round =>
    obtain ⟨k, hk, rfl, ⟨rs, G, hm, hown, hG, hGn, hGb⟩, hb⟩ := hrel
    have hrl : rs.length = k := by have := congrArg List.length hm; simpa [Nat.min_eq_left hk] using this
    by_cases hlt : k < l.length
    · obtain ⟨b, o, s, rfl, hbb, hr, c0, c1⟩ := (h.below hb).seg hlt
      have hx : ∀ W, Below wr.heap.size wr W → segD.rd W W.heap.size l[k] s := fun W hW => segD.rd_more (segD.rd_below (segD.rd_more hr hb.size) hW) hW.size
      have hlen : (rs ++ List.replicate (l.length - k) ((⟨0, []⟩, ⟨none, 0, 0⟩) : (Seg) × Sl)).length = l.length := by simp; omega
      have Hm := Lib.hid hm
      have Hrl := Lib.hid hrl
      clear hm hrl
      go_wp2_with (go_at_call 82; refine (toSeg_own l[k] s _ (hcc k hlt) (hx _ (by first | exact Below.refl _ _ | exact (Below.refl _ _).drew))).mono ?_; rintro e w1 ⟨s1, F1, rfl, o1, n1, hb1⟩; have hown1 := hown.below hb1; have hf := hown1.free; obtain ⟨d0, d1⟩ := hown1.c_seg (k := k) (by rw [hlen]; exact hlt))
      have hp := Ow.put hown1 hlen k hlt (l[k], s1)
      have Hp := Bld.lay hG hGn hGb hb1 (r := (l[k], s1)) o1 n1 (Nat.lt_of_lt_of_le (hown.blk).2 (Nat.le_refl _)) hp.2
      rw [mix_snoc rs _ k l.length Hrl.out hlt] at hp
      refine ⟨⟨k + 1, by omega, by go_num, ⟨rs ++ [(l[k], s1)], G ++ F1, ?_, hp.1, Hp.1, Hp.2.1, Hp.2.2⟩, (hb.trans (hb1.mono hb.size)).grown hp.2 (Nat.le_trans hb.size hb1.size) (fun g hg => by simp at hg; omega)⟩, by simp [intOf]; omega⟩
      rw [List.map_append, Hm.out, take_snoc l k hlt]
      rfl
    · have hk' : k = l.length := by omega
      subst hk'
      rw [Nat.sub_self, List.replicate_zero, List.append_nil] at hown
      go_wp2
      go_ret
      rw [List.take_length] at hm
      have hB : Bld segD 126 wr w.heap.size (.slice (some ⟨w.heap.size, 0, none⟩) l.length l.length) rs := ⟨G, by rw [← hrl]; exact (by rw [hrl]; exact hown), hG, hGn, fun b hb' => ⟨Nat.le_of_lt (hGb b hb'), by simp [Value.ownBlock]; have := hGb b hb'; omega⟩⟩
      obtain ⟨F, h1, h2⟩ := hB.owl hm
      exact ⟨⟨some ⟨w.heap.size, 0, none⟩, l.length, l.length⟩, F, rfl, h1, h2, hb⟩


theorem markSegS_own (l : List (Seg)) (s : Sl) (F : List Nat) (k : Int) (w : World) (hl : cntL cntSeg l ≤ 2000000) (hk0 : 0 ≤ k) (hk1 : k ≤ 800000000) (h : OwL segD w F s.v l) :
    Calls Try.prog 48 #[.slice s.a s.n s.c, .int .i64 k] w (MkPost (Dt.list segD) F (mkL mkSeg numSeg k l) s (k + (numL numSeg l : Nat)) w) := by
  obtain ⟨A, n, c⟩ := s
  obtain ⟨A', c', hv, -⟩ := h.form
  simp only [Sl.v, Value.slice.injEq] at hv
  obtain ⟨rfl, rfl, rfl⟩ := hv
  have hll : l.length ≤ 2000000 := Nat.le_trans (cntL_len _ _) hl
  have hnl : ∀ j, numL numSeg (l.take j) ≤ 26000000 := fun j => by
    have h1 := numL_take_le numSeg l j
    have h2 := numL_le (num := numSeg) (cnt := cntSeg) (K := 13) numSeg_le l
    omega
  have hcc : ∀ k (hk : k < l.length), cntSeg l[k] ≤ 2000000 := fun k hk => by have := cntL_mem (cnt := cntSeg) (List.getElem_mem hk); omega
  have Hnl := Lib.hid hnl
  clear hnl hl
  go_enter Try.func48, Try.ntmps48
  go_wp2
  go_loopw [1, 5] (fun q i wr => ∃ (j : Nat) (m : Int), j ≤ l.length ∧ i = .int .i64 j ∧ q = .int .i64 m ∧ Hid (m = k + (numL numSeg (l.take j) : Nat)) ∧ OwL segD wr F (.slice A l.length c) (mkL mkSeg numSeg k (l.take j) ++ l.drop j) ∧ Chg F w wr) (fun _ i _ => l.length - (intOf i).toNat)
  case atStart => exact ⟨0, k, Nat.zero_le _, rfl, rfl, by show k = _; simp [numL], h, Chg.refl _ _⟩
  case round =>
    obtain ⟨j, m, hj, rfl, rfl, hm, ho, hc⟩ := hrel
    have hm' := hm.out
    have hnj := Hnl.out j
    have hm0 : 0 ≤ m := by omega
    have hm1 : m ≤ 826000000 := by omega
    clear hm' hnj
    by_cases hlt : j < l.length
    · have hltI : (j : Int) < (l.length : Int) := by omega
      have hlen : (mkL mkSeg numSeg k (l.take j) ++ l.drop j).length = l.length := by simp [mkL_length]; omega
      obtain ⟨b, o, rs, s, G1, Fx, G2, rfl, hF, hrm, f0⟩ := ho.foc (j := j) (by rw [hlen]; exact hlt)
      rw [mkL_here mkSeg numSeg k l j hlt] at f0
      subst hF
      have Hrm := Lib.hid hrm
      clear hrm ho
      obtain ⟨c0, c1⟩ := f0.seg
      have fr0 := f0.free
      have hce0 : cntL cntNote l[j].notes ≤ 2000000 := by
        have := hcc j hlt
        unfold cntSeg at this
        omega
      have hne0 : numL numNote l[j].notes ≤ 26000000 := by
        have h2 := numL_le (num := numNote) (cnt := cntNote) (K := 13) numNote_le l[j].notes
        omega
      go_wp2_with fail
      obtain ⟨f1, g1⟩ := f0.put ⟨m, l[j].notes⟩ 0 [.int .i64 (m)] (by show 0 + 1 ≤ 2; omega) (fun i hi => match i, hi with | 0, _ => rfl | i + 1, hi => absurd hi (by simp)) (fun i hi hx => match i, hi, hx with | 0, _, hx => absurd hx (by simp) | 1, _, _ => rfl | i + 2, hi, _ => absurd hi (by show ¬ (i + 2 < 2); omega)) (fun _ hh => hh)
      refine (markNoteS_own l[j].notes s Fx _ _ hce0 (by omega) (by omega) f1.here).mono ?_
      rintro e w2 ⟨rfl, o2, g2⟩
      have f2 := f1.sub (y := ⟨m, mkL mkNote numNote (m + 1) l[j].notes⟩) g2 o2 rfl
      obtain ⟨c2_0, c2_1⟩ := f2.seg
      have fr2 := f2.free
      go_wp2
      have hmf := hm.out
      have hown := f2.owl Hrm.out
      have hval : ⟨m, mkL mkNote numNote (m + 1) l[j].notes⟩ = mkSeg m l[j] := rfl
      have hset := mkL_set mkSeg numSeg k l j hlt
      rw [← hm.out] at hset
      rw [hval, hset] at hown
      have hnum : (numL numSeg (l.take (j + 1)) : Nat) = numL numSeg (l.take j) + numSeg l[j] := sum_take_succ _ _ _ hlt
      refine ⟨⟨j + 1, m + 1 + (numL numNote l[j].notes : Nat), by omega, by go_num, rfl, ?_, hown, ((hc).trans (g1.mono (fun _ hh => mem_box hh))).trans (g2.mono (fun _ hh => mem_here hh))⟩, by simp [intOf]; omega⟩
      have hun : numSeg l[j] = 1 + numL numNote l[j].notes := rfl
      show m + 1 + (numL numNote l[j].notes : Nat) = _
      rw [hnum, hun]
      push_cast
      omega
    · have hj' : j = l.length := by omega
      subst hj'
      rw [List.take_length, List.drop_length, List.append_nil] at ho
      go_wp2
      go_ret
      refine ⟨ret_int ?_, ho, hc⟩
      rw [hm.out, List.take_length]


theorem heldSegS_own (l : List (Seg)) (s : Sl) (k : Int) (w : World) (hl : cntL cntSeg l ≤ 2000000) (hk0 : 0 ≤ k) (hk1 : k ≤ 800000000) (h : RdL segD w w.heap.size s.v (mkL mkSeg numSeg k l)) :
    Calls Try.prog 59 #[.slice s.a s.n s.c, .int .i64 k] w fun e w' => e = .returned (.int .i64 (k + (numL numSeg l : Nat))) ∧ Below w.heap.size w w' := by
  obtain ⟨A, n, c⟩ := s
  obtain ⟨A', c', hv, -⟩ := h.form
  simp only [Sl.v, Value.slice.injEq, mkL_length] at hv
  obtain ⟨rfl, rfl, rfl⟩ := hv
  have hll : l.length ≤ 2000000 := Nat.le_trans (cntL_len _ _) hl
  have hnl : ∀ j, numL numSeg (l.take j) ≤ 26000000 := fun j => by
    have h1 := numL_take_le numSeg l j
    have h2 := numL_le (num := numSeg) (cnt := cntSeg) (K := 13) numSeg_le l
    omega
  have hcc : ∀ k (hk : k < l.length), cntSeg l[k] ≤ 2000000 := fun k hk => by have := cntL_mem (cnt := cntSeg) (List.getElem_mem hk); omega
  have hcell : ∀ (wr : World) (j : Nat) (hj : j < l.length) (m : Int), Below w.heap.size w wr → m = k + (numL numSeg (l.take j) : Nat) → ∃ b o, ∃ s : Sl, A = some ⟨b, o, none⟩ ∧ b < w.heap.size ∧ segD.rd wr w.heap.size (mkSeg m l[j]) s ∧ wr.cell? ⟨b, o + j * 2, none⟩ = some (.int .i64 (m)) ∧ wr.cell? ⟨b, o + j * 2 + 1, none⟩ = some (.slice s.a s.n s.c) := by
    intro wr j hj m hb hm
    obtain ⟨b, o, s, h1, h2, h3, h4⟩ := (h.below hb).seg (k := j) (by rw [mkL_length]; exact hj)
    first | rw [mkL_get _ _ _ _ _ hj, ← hm] at h3 h4 | rw [mkL_get _ _ _ _ _ hj, ← hm] at h3
    exact ⟨b, o, s, h1, h2, h3, h4⟩
  have Hc := Lib.hid hcell
  have Hnl := Lib.hid hnl
  clear hcell hnl hl
  go_enter Try.func59, Try.ntmps59
  go_wp2
  go_loopw [1, 5] (fun q i wr => ∃ (j : Nat) (m : Int), j ≤ l.length ∧ i = .int .i64 j ∧ q = .int .i64 m ∧ Hid (m = k + (numL numSeg (l.take j) : Nat)) ∧ Below w.heap.size w wr) (fun _ i _ => l.length - (intOf i).toNat)
  case atStart => exact ⟨0, k, Nat.zero_le _, rfl, rfl, by show k = _; simp [numL], Below.refl _ _⟩
  case round =>
    obtain ⟨j, m, hj, rfl, rfl, hm, hb⟩ := hrel
    have hm' := hm.out
    have hnj := Hnl.out j
    have hm0 : 0 ≤ m := by omega
    have hm1 : m ≤ 826000000 := by omega
    clear hm' hnj
    by_cases hlt : j < l.length
    · have hltI : (j : Int) < (l.length : Int) := by omega
      obtain ⟨b, o, s, rfl, hbb, hrd, c0, c1⟩ := Hc.out wr j hlt m hb hm.out
      have hx : ∀ W, Below wr.heap.size wr W → segD.rd W W.heap.size (mkSeg m l[j]) s := fun W hW => segD.rd_more (segD.rd_below (segD.rd_more hrd hb.size) hW) hW.size
      have hce0 : cntL cntNote l[j].notes ≤ 2000000 := by
        have := hcc j hlt
        unfold cntSeg at this
        omega
      have hne0 : numL numNote l[j].notes ≤ 26000000 := by
        have h2 := numL_le (num := numNote) (cnt := cntNote) (K := 13) numNote_le l[j].notes
        omega
      go_wp2_with fail
      refine (heldNoteS_own l[j].notes s _ _ hce0 (by omega) (by omega) (hx _ (by first | exact Below.refl _ _ | exact (Below.refl _ _).drew))).mono ?_
      rintro e v0 ⟨rfl, hb0⟩
      have B0 : Below wr.heap.size wr v0 := bnext (by first | exact Below.refl _ _ | exact (Below.refl _ _).drew) hb0
      obtain ⟨q0, p0⟩ := bcell B0
      have hbr0 := Nat.lt_of_lt_of_le hbb hb.size
      go_wp2
      have hnum : (numL numSeg (l.take (j + 1)) : Nat) = numL numSeg (l.take j) + numSeg l[j] := sum_take_succ _ _ _ hlt
      refine ⟨⟨j + 1, m + 1 + (numL numNote l[j].notes : Nat), by omega, by go_num, rfl, ?_, bnext hb B0⟩, by simp [intOf]; omega⟩
      have hun : numSeg l[j] = 1 + numL numNote l[j].notes := rfl
      have hmf := hm.out
      show m + 1 + (numL numNote l[j].notes : Nat) = _
      rw [hnum, hun]
      push_cast
      omega
    · have hj' : j = l.length := by omega
      subst hj'
      go_wp2
      go_ret
      refine ⟨ret_int ?_, hb⟩
      rw [hm.out, List.take_length]

end Go.Proofs.Ytcapldjhcplfmaa
