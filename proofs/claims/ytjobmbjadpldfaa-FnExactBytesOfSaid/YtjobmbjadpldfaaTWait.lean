/-
  Data of the type Wait: how it lies in memory, and the walks of the laws' helpers on it. Written by program (deep.py).
-/
import Derived.Test.YtjobmbjadpldfaaTReply
namespace Go.Proofs.Ytjobmbjadpldfaa
open Go.RowKit
set_option maxRecDepth 100000
set_option maxHeartbeats 1000000
set_option linter.unusedVariables false
set_option linter.unusedSimpArgs false

structure Wait where
  call : Int
  reply : Reply
deriving DecidableEq, Inhabited

@[go_sem] abbrev waitW (x : Wait) (_s : Unit) : Value := .agg #[.int .i64 x.call, .int .i64 x.reply.code, .int .i64 x.reply.run, .int .i64 x.reply.task, .int .i64 x.reply.try_]
abbrev waitD : Dt Wait := Dt.flat (fun q => [.int .i64 q.1.call, .int .i64 q.1.reply.code, .int .i64 q.1.reply.run, .int .i64 q.1.reply.task, .int .i64 q.1.reply.try_]) 5 (fun _ => rfl) (fun q u hu => by simp at hu; rcases hu with rfl | rfl | rfl | rfl | rfl <;> rfl)
/-- all lengths in it together -/
def cntWait (_ : Wait) : Nat := 0
/-- ints are int64, lengths are what a machine holds -/
def wfWait (x : Wait) : Prop := Wf x.call ∧ wfReply x.reply
def numWait (_ : Wait) : Nat := 5
/-- with the marks from k on -/
def mkWait (k : Int) (_ : Wait) : Wait := ⟨k, ⟨k + 1, k + 1 + 1, k + 1 + 1 + 1, k + 1 + 1 + 1 + 1⟩⟩
theorem numWait_le (x : Wait) : numWait x ≤ 13 * (cntWait x + 1) := by
  unfold numWait cntWait
  omega

theorem toWait_own (x : Wait) (s : Unit) (w : World) (hl : cntWait x ≤ 2000000) (h : waitD.rd w w.heap.size x s) :
    Calls Try.prog 48 #[waitW x s] w (OwnPost waitD waitW x w) := by
  have hbx : ∀ W, Below w.heap.size w W → waitD.rd W W.heap.size x s := fun W hW => waitD.rd_more (waitD.rd_below h hW) hW.size
  go_enter Try.func48, Try.ntmps48
  go_wp2_with fail
  refine (toReply_own x.reply () _ (by simp [cntReply]) (trivial)).mono ?_
  rintro e w0 ⟨s0, F0, rfl, o0, n0, hb0⟩
  obtain ⟨q0, p0⟩ := bcell hb0
  have z0 := hb0.size
  simp only [World.size_alloc, World.size_setCell] at z0 n0
  have B0 : Below w.heap.size w w0 := bnext (by repeat (first | exact Below.refl _ _ | refine Below.alloc ?_ (by simp <;> omega) _)) hb0
  go_wp2
  refine bodyPost_ret (v := waitW x ()) ?_ rfl ?_
  · simp [waitW, results, Try.results48, go_sem, q0]
  · exact ⟨(), [], rfl, rfl, (fun _ h => by cases h), by repeat (first | (with_reducible exact B0) | (with_reducible exact Below.refl _ _) | refine Below.setCell ?_ (by simp <;> omega) _ | refine Below.alloc ?_ (by simp <;> omega) _)⟩

theorem eqWait_own (x y : Wait) (s r : Unit) (w : World) (hl : cntWait x ≤ 2000000) (hl' : cntWait y ≤ 2000000) (h : waitD.rd w w.heap.size x s) (h' : waitD.rd w w.heap.size y r) :
    Calls Try.prog 53 #[waitW x s, waitW y r] w fun e w' => e = .returned (.bool (decide (x = y))) ∧ Below w.heap.size w w' := by
  have hbx : ∀ W, Below w.heap.size w W → waitD.rd W W.heap.size x s := fun W hW => waitD.rd_more (waitD.rd_below h hW) hW.size
  have hby : ∀ W, Below w.heap.size w W → waitD.rd W W.heap.size y r := fun W hW => waitD.rd_more (waitD.rd_below h' hW) hW.size
  by_cases h0 : x.call = y.call
  case neg =>
    have t0 : (x.call != y.call) = true := by rw [bne_iff_ne]; exact h0
    have H := Lib.hid (show decide (x = y) = false by simp only [decide_eq_false_iff_not]; intro e; exact h0 (by rw [e]))
    clear h0
    go_enter Try.func53, Try.ntmps53
    go_wp2
    go_ret
    exact ⟨ret_bool (by first | exact H.out.symm | rfl), by repeat (first | exact Below.refl _ _ | refine Below.alloc ?_ (by simp <;> omega) _)⟩
  have t0 : (x.call != y.call) = false := by simp [h0]
  have H0 := Lib.hid h0
  clear h0
  go_enter Try.func53, Try.ntmps53
  go_wp2_with fail
  refine (eqReply_own x.reply y.reply () () _ (by simp [cntReply]) (by simp [cntReply]) trivial trivial).mono ?_
  rintro e w1 ⟨rfl, hb1⟩
  have B1 : Below w.heap.size w w1 := bnext (by repeat (first | exact Below.refl _ _ | refine Below.alloc ?_ (by simp <;> omega) _)) hb1
  obtain ⟨q1, p1⟩ := bcell hb1
  have z1 := hb1.size
  try simp only [World.size_alloc] at z1
  by_cases h1 : x.reply = y.reply
  case neg =>
    have H := Lib.hid (show decide (x = y) = false by simp only [decide_eq_false_iff_not]; intro e; exact h1 (by rw [e]))
    rw [decide_eq_false h1]
    clear h1
    go_wp2
    go_ret
    exact ⟨ret_bool (by first | exact H.out.symm | rfl), by exact B1⟩
  rw [decide_eq_true h1]
  have H1 := Lib.hid h1
  clear h1
  have H := Lib.hid (show decide (x = y) = true by
    simp only [decide_eq_true_eq]
    have hh := And.intro H0.out H1.out
    obtain ⟨e0, e1⟩ := hh
    cases x
    cases y
    simp only at e0 e1
    subst e0 e1
    rfl)
  go_wp2
  go_ret
  exact ⟨ret_bool (by first | exact H.out.symm | rfl), by exact B1⟩

theorem RdL.wait {w : World} {B : Nat} {A : Option Addr} {n c : Nat} {l : List (Wait)} (h : RdL waitD w B (.slice A n c) l) {k : Nat} (hk : k < l.length) :
    ∃ b o, ∃ _s : Unit, A = some ⟨b, o, none⟩ ∧ b < B ∧ waitD.rd w B l[k] _s ∧ w.cell? ⟨b, o + k * 5, none⟩ = some (.int .i64 l[k].call) ∧ w.cell? ⟨b, o + k * 5 + 1, none⟩ = some (.int .i64 l[k].reply.code) ∧ w.cell? ⟨b, o + k * 5 + 2, none⟩ = some (.int .i64 l[k].reply.run) ∧ w.cell? ⟨b, o + k * 5 + 3, none⟩ = some (.int .i64 l[k].reply.task) ∧ w.cell? ⟨b, o + k * 5 + 4, none⟩ = some (.int .i64 l[k].reply.try_) := by
  obtain ⟨b, o, s, rfl, hb, hc, hr⟩ := h.at_ k hk
  exact ⟨b, o, s, rfl, hb, hr, hc 0 _ rfl, hc 1 _ rfl, hc 2 _ rfl, hc 3 _ rfl, hc 4 _ rfl⟩
theorem Ow.c_wait {E : TypeId} {w : World} {base g n cap : Nat} {l : List ((Wait) × Unit)} (h : Ow waitD.enc E w base (.slice (some ⟨g, 0, none⟩) n cap) l) {k : Nat} (hk : k < l.length) :
    w.cell? ⟨g, k * 5, none⟩ = some (.int .i64 l[k].1.call) ∧ w.cell? ⟨g, k * 5 + 1, none⟩ = some (.int .i64 l[k].1.reply.code) ∧ w.cell? ⟨g, k * 5 + 2, none⟩ = some (.int .i64 l[k].1.reply.run) ∧ w.cell? ⟨g, k * 5 + 3, none⟩ = some (.int .i64 l[k].1.reply.task) ∧ w.cell? ⟨g, k * 5 + 4, none⟩ = some (.int .i64 l[k].1.reply.try_) := by
  rcases h.form with ⟨h1, _⟩ | ⟨g', cap', hv, _, _, _, _, _, hc⟩
  · simp at h1
  · simp only [Value.slice.injEq, Option.some.injEq, Addr.mk.injEq, and_true] at hv
    obtain ⟨rfl, _, _⟩ := hv
    exact ⟨hc k hk 0 _ rfl, hc k hk 1 _ rfl, hc k hk 2 _ rfl, hc k hk 3 _ rfl, hc k hk 4 _ rfl⟩
theorem Foc.wait {w : World} {b o n c j : Nat} {rs : List ((Wait) × Unit)} {G1 Fx G2 : List Nat} {x : Wait} {s : Unit} (h : Foc waitD w b o n c rs j G1 Fx G2 x s) :
    w.cell? ⟨b, o + j * 5, none⟩ = some (.int .i64 x.call) ∧ w.cell? ⟨b, o + j * 5 + 1, none⟩ = some (.int .i64 x.reply.code) ∧ w.cell? ⟨b, o + j * 5 + 2, none⟩ = some (.int .i64 x.reply.run) ∧ w.cell? ⟨b, o + j * 5 + 3, none⟩ = some (.int .i64 x.reply.task) ∧ w.cell? ⟨b, o + j * 5 + 4, none⟩ = some (.int .i64 x.reply.try_) := ⟨h.cells 0 _ rfl, h.cells 1 _ rfl, h.cells 2 _ rfl, h.cells 3 _ rfl, h.cells 4 _ rfl⟩

theorem szWaitS_own (l : List (Wait)) (s : Sl) (left : Int) (w : World) (h0 : 0 ≤ left) (h1 : left ≤ 2000000) (hw : wfL wfWait l) (h : RdL waitD w w.heap.size s.v l) :
    Calls Try.prog 25 #[.slice s.a s.n s.c, .int .i64 left] w (SzPost left (cntL cntWait l) w) := by
  obtain ⟨A, n, c⟩ := s
  obtain ⟨A', c', hv, -⟩ := h.form
  simp only [Sl.v, Value.slice.injEq] at hv
  obtain ⟨rfl, rfl, rfl⟩ := hv
  have hll := hw.1
  by_cases hlt : left < l.length
  · go_enter Try.func25, Try.ntmps25
    go_wp2
    go_ret
    exact ⟨-1, rfl, .inl rfl, Below.refl _ _⟩
  go_enter Try.func25, Try.ntmps25
  go_wp2
  go_ret
  exact ⟨_, rfl, .inr ⟨by omega, by rw [cntL_zero (cnt := cntWait) (fun _ => rfl) l]; omega⟩, Below.refl _ _⟩

theorem eqWaitS_own (l l' : List (Wait)) (s s' : Sl) (w : World) (hl : cntL cntWait l ≤ 2000000) (hl' : cntL cntWait l' ≤ 2000000) (h : RdL waitD w w.heap.size s.v l) (h' : RdL waitD w w.heap.size s'.v l') :
    Calls Try.prog 33 #[.slice s.a s.n s.c, .slice s'.a s'.n s'.c] w fun e w' => e = .returned (.bool (decide (l = l'))) ∧ Below w.heap.size w w' := by
  obtain ⟨A, n, c⟩ := s
  obtain ⟨A0, c0, hv, -⟩ := h.form
  simp only [Sl.v, Value.slice.injEq] at hv
  obtain ⟨rfl, rfl, rfl⟩ := hv
  obtain ⟨A', n', c'⟩ := s'
  obtain ⟨A0, c0, hv, -⟩ := h'.form
  simp only [Sl.v, Value.slice.injEq] at hv
  obtain ⟨rfl, rfl, rfl⟩ := hv
  have hll : l.length ≤ 2000000 := Nat.le_trans (cntL_len _ _) hl
  have hll' : l'.length ≤ 2000000 := Nat.le_trans (cntL_len _ _) hl'
  have hcc : ∀ k (hk : k < l.length), cntWait l[k] ≤ 2000000 := fun k hk => by have := cntL_mem (cnt := cntWait) (List.getElem_mem hk); omega
  have hcc' : ∀ k (hk : k < l'.length), cntWait l'[k] ≤ 2000000 := fun k hk => by have := cntL_mem (cnt := cntWait) (List.getElem_mem hk); omega
  clear hl hl'
  by_cases hne : l.length = l'.length
  · have hb0 : ((l.length : Int) != (l'.length : Int)) = false := by simp [hne]
    have Hne := Lib.hid hne
    clear hne
    go_enter Try.func33, Try.ntmps33
    go_wp2
    go_loopw [5] (fun i wr => ∃ k : Nat, k ≤ l.length ∧ i = .int .i64 k ∧ Hid (l.take k = l'.take k) ∧ Below w.heap.size w wr) (fun i _ => l.length - (intOf i).toNat)
    case atStart => exact ⟨0, Nat.zero_le _, rfl, rfl, Below.refl _ _⟩
    case round =>
      obtain ⟨k, hk, rfl, heq, hb⟩ := hrel
      by_cases hlt : k < l.length
      · have hlt' : k < l'.length := by rw [← Hne.out]; exact hlt
        obtain ⟨b, o, s, rfl, hbb, hr, c0, c1, c2, c3, c4⟩ := (h.below hb).wait hlt
        obtain ⟨b', o', s', rfl, hbb', hr', d0, d1, d2, d3, d4⟩ := (h'.below hb).wait hlt'
        have hx : ∀ W, Below wr.heap.size wr W → waitD.rd W W.heap.size l[k] s := fun W hW => waitD.rd_more (waitD.rd_below (waitD.rd_more hr hb.size) hW) hW.size
        have hx' : ∀ W, Below wr.heap.size wr W → waitD.rd W W.heap.size l'[k] s' := fun W hW => waitD.rd_more (waitD.rd_below (waitD.rd_more hr' hb.size) hW) hW.size
        go_wp2
        go_still_tail 8, (by kernel_rfl)
        go_wp2_with (go_at_call 53; refine (eqWait_own l[k] l'[k] s s' _ (hcc k hlt) (hcc' k hlt') (hx _ (by first | exact Below.refl _ _ | exact (Below.refl _ _).drew)) (hx' _ (by first | exact Below.refl _ _ | exact (Below.refl _ _).drew))).mono ?_; rintro e w1 ⟨rfl, hb1⟩)
        · rename_i hd
          go_ret
          refine ⟨ret_bool ?_, (hb.drew).trans (hb1.mono hb.size)⟩
          simp only [Bool.false_eq, decide_eq_false_iff_not]
          intro e
          subst e
          simp at hd
        · rename_i hd
          refine ⟨⟨k + 1, by omega, by go_num, ?_, (hb.drew).trans (hb1.mono hb.size)⟩, by simp [intOf]; omega⟩
          show List.take (k + 1) l = List.take (k + 1) l'
          rw [take_snoc l k hlt, take_snoc l' k hlt', heq.out]
          simp at hd
          rw [hd]
      · go_wp2
        go_ret
        refine ⟨ret_bool ?_, hb⟩
        have h1 := heq.out
        rw [List.take_of_length_le (by omega), List.take_of_length_le (by rw [← Hne.out]; omega)] at h1
        simp [h1]
  · have hb0 : ((l.length : Int) != (l'.length : Int)) = true := by simp; omega
    go_enter Try.func33, Try.ntmps33
    go_wp2
    go_ret
    refine ⟨ret_bool ?_, Below.refl _ _⟩
    simp only [Bool.false_eq, decide_eq_false_iff_not]
    intro e
    exact hne (by rw [e])


theorem wait_infoD : (Try.prog.info? 112).map (fun i => (i.zero, i.size, i.bytes)) = some (some (.agg #[.int .i64 0, .int .i64 0, .int .i64 0, .int .i64 0, .int .i64 0]), 5, 40) := by kernel_rfl

theorem toWaitS_own (l : List (Wait)) (s : Sl) (w : World) (hl : cntL cntWait l ≤ 2000000) (h : RdL waitD w w.heap.size s.v l) :
    Calls Try.prog 29 #[.slice s.a s.n s.c] w (OwnPost (Dt.list waitD) slV l w) := by
  obtain ⟨A, n, c⟩ := s
  obtain ⟨A', c', hv, -⟩ := h.form
  simp only [Sl.v, Value.slice.injEq] at hv
  obtain ⟨rfl, rfl, rfl⟩ := hv
  have hll : l.length ≤ 2000000 := Nat.le_trans (cntL_len _ _) hl
  have hcc : ∀ k (hk : k < l.length), cntWait l[k] ≤ 2000000 := fun k hk => by have := cntL_mem (cnt := cntWait) (List.getElem_mem hk); omega
  clear hl
  obtain ⟨i0, hi0, hz0, hz1, hz2⟩ := info_parts wait_infoD
  have hmk : ∀ w : World, (Instr.makeSlice 54 (.int .i64 (l.length : Int)) (.int .i64 (l.length : Int))).run Try.prog w = .ok (.slice (some ⟨w.heap.size, 0, none⟩) l.length l.length) (w.alloc (.cells (madeCells #[.int .i64 0, .int .i64 0, .int .i64 0, .int .i64 0, .int .i64 0] (l.length * 5)) 112)) := by
    intro w
    have := run_make (P := Try.prog) w 54 112 i0 _ Try.underlying54 hi0 hz0 .i64 .i64 l.length l.length (by omega) (by omega) (by rw [hz2]; omega) (by omega)
    rw [hz1] at this
    simpa [Value.cells] using this
  go_enter Try.func29, Try.ntmps29
  go_wp2
  go_loopw [4] (fun i wr => ∃ k : Nat, k ≤ l.length ∧ i = .int .i64 k ∧ Hid (∃ (rs : List ((Wait) × Unit)) (G : List Nat), rs.map (·.1) = l.take k ∧ Ow waitD.enc 112 wr w.heap.size (.slice (some ⟨w.heap.size, 0, none⟩) l.length l.length) (rs ++ List.replicate (l.length - k) (⟨0, ⟨0, 0, 0, 0⟩⟩, ())) ∧ Ows waitD wr G rs ∧ G.Nodup ∧ ∀ b ∈ G, w.heap.size < b) ∧ Below w.heap.size w wr) (fun i _ => l.length - (intOf i).toNat)
  case atStart => exact ⟨0, Nat.zero_le _, rfl, ⟨[], [], rfl, by rw [List.nil_append, Nat.sub_zero]; exact Ow.made waitD.enc 112 w (⟨0, ⟨0, 0, 0, 0⟩⟩, ()) l.length (by decide) (by simp [maxLen]; omega) rfl rfl, .nil, List.nodup_nil, fun _ h => by cases h⟩, (Below.refl _ _).alloc (Nat.le_refl _) _⟩
  case round =>
    obtain ⟨k, hk, rfl, ⟨rs, G, hm, hown, hG, hGn, hGb⟩, hb⟩ := hrel
    have hrl : rs.length = k := by have := congrArg List.length hm; simpa [Nat.min_eq_left hk] using this
    by_cases hlt : k < l.length
    · obtain ⟨b, o, s, rfl, hbb, hr, c0, c1, c2, c3, c4⟩ := (h.below hb).wait hlt
      have hx : ∀ W, Below wr.heap.size wr W → waitD.rd W W.heap.size l[k] s := fun W hW => waitD.rd_more (waitD.rd_below (waitD.rd_more hr hb.size) hW) hW.size
      have hlen : (rs ++ List.replicate (l.length - k) ((⟨0, ⟨0, 0, 0, 0⟩⟩, ()) : (Wait) × Unit)).length = l.length := by simp; omega
      have Hm := Lib.hid hm
      have Hrl := Lib.hid hrl
      clear hm hrl
      go_wp2_with (go_at_call 48; refine (toWait_own l[k] s _ (hcc k hlt) (hx _ (by first | exact Below.refl _ _ | exact (Below.refl _ _).drew))).mono ?_; rintro e w1 ⟨s1, F1, rfl, o1, n1, hb1⟩; have hown1 := hown.below hb1; have hf := hown1.free; obtain ⟨d0, d1, d2, d3, d4⟩ := hown1.c_wait (k := k) (by rw [hlen]; exact hlt))
      have hp := Ow.put hown1 hlen k hlt (l[k], s1)
      have Hp := Bld.lay hG hGn hGb hb1 (r := (l[k], s1)) o1 n1 (Nat.lt_of_lt_of_le (hown.blk).2 (Nat.le_refl _)) hp.2
      rw [mix_snoc rs _ k l.length Hrl.out hlt] at hp
      refine ⟨⟨k + 1, by omega, by go_num, ⟨rs ++ [(l[k], s1)], G ++ F1, ?_, hp.1, Hp.1, Hp.2.1, Hp.2.2⟩, (hb.trans (hb1.mono hb.size)).grown hp.2 (Nat.le_trans hb.size hb1.size) (fun g hg => by simp at hg; omega)⟩, by simp [intOf]; omega⟩
      rw [List.map_append, Hm.out, take_snoc l k hlt]
      rfl
    · have hk' : k = l.length := by omega
      subst hk'
      rw [Nat.sub_self, List.replicate_zero, List.append_nil] at hown
      go_wp2
      go_ret
      rw [List.take_length] at hm
      have hB : Bld waitD 112 wr w.heap.size (.slice (some ⟨w.heap.size, 0, none⟩) l.length l.length) rs := ⟨G, by rw [← hrl]; exact (by rw [hrl]; exact hown), hG, hGn, fun b hb' => ⟨Nat.le_of_lt (hGb b hb'), by simp [Value.ownBlock]; have := hGb b hb'; omega⟩⟩
      obtain ⟨F, h1, h2⟩ := hB.owl hm
      exact ⟨⟨some ⟨w.heap.size, 0, none⟩, l.length, l.length⟩, F, rfl, h1, h2, hb⟩

end Go.Proofs.Ytjobmbjadpldfaa
