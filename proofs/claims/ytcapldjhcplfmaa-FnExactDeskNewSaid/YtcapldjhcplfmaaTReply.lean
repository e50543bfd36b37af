/-
  Data of the type Reply: how it lies in memory, and the walks of the laws' helpers on it. Written by program (deep.py).
-/
import Derived.Test.YtcapldjhcplfmaaDp
namespace Go.Proofs.Ytcapldjhcplfmaa
open Go.RowKit
set_option maxRecDepth 100000
set_option maxHeartbeats 1000000
set_option linter.unusedVariables false
set_option linter.unusedSimpArgs false

structure Reply where
  code : Int
  run : Int
  task : Int
  try_ : Int
deriving DecidableEq, Inhabited

@[go_sem] abbrev replyW (x : Reply) (_s : Unit) : Value := .agg #[.int .i64 x.code, .int .i64 x.run, .int .i64 x.task, .int .i64 x.try_]
abbrev replyD : Dt Reply := Dt.flat (fun q => [.int .i64 q.1.code, .int .i64 q.1.run, .int .i64 q.1.task, .int .i64 q.1.try_]) 4 (fun _ => rfl) (fun q u hu => by simp at hu; rcases hu with rfl | rfl | rfl | rfl <;> rfl)
/-- all lengths in it together -/
def cntReply (_ : Reply) : Nat := 0
/-- ints are int64, lengths are what a machine holds -/
def wfReply (x : Reply) : Prop := Wf x.code ∧ Wf x.run ∧ Wf x.task ∧ Wf x.try_
def numReply (_ : Reply) : Nat := 4
/-- with the marks from k on -/
def mkReply (k : Int) (_ : Reply) : Reply := ⟨k, k + 1, k + 1 + 1, k + 1 + 1 + 1⟩
theorem numReply_le (x : Reply) : numReply x ≤ 13 * (cntReply x + 1) := by
  unfold numReply cntReply
  omega

theorem toReply_own (x : Reply) (s : Unit) (w : World) (hl : cntReply x ≤ 2000000) (h : replyD.rd w w.heap.size x s) :
    Calls Try.prog 94 #[replyW x s] w (OwnPost replyD replyW x w) := by
  have hbx : ∀ W, Below w.heap.size w W → replyD.rd W W.heap.size x s := fun W hW => replyD.rd_more (replyD.rd_below h hW) hW.size
  go_enter Try.func94, Try.ntmps94
  go_wp2
  refine bodyPost_ret (v := replyW x ()) ?_ rfl ?_
  · simp [replyW, results, Try.results94, go_sem]
  · exact ⟨(), [], rfl, rfl, (fun _ h => by cases h), by repeat (first | (with_reducible exact Below.refl _ _) | refine Below.setCell ?_ (by simp <;> omega) _ | refine Below.alloc ?_ (by simp <;> omega) _)⟩

theorem eqReply_own (x y : Reply) (s r : Unit) (w : World) (hl : cntReply x ≤ 2000000) (hl' : cntReply y ≤ 2000000) (h : replyD.rd w w.heap.size x s) (h' : replyD.rd w w.heap.size y r) :
    Calls Try.prog 53 #[replyW x s, replyW y r] w fun e w' => e = .returned (.bool (decide (x = y))) ∧ Below w.heap.size w w' := by
  have hbx : ∀ W, Below w.heap.size w W → replyD.rd W W.heap.size x s := fun W hW => replyD.rd_more (replyD.rd_below h hW) hW.size
  have hby : ∀ W, Below w.heap.size w W → replyD.rd W W.heap.size y r := fun W hW => replyD.rd_more (replyD.rd_below h' hW) hW.size
  by_cases h0 : x.code = y.code
  case neg =>
    have t0 : (x.code != y.code) = true := by rw [bne_iff_ne]; exact h0
    have H := Lib.hid (show decide (x = y) = false by simp only [decide_eq_false_iff_not]; intro e; exact h0 (by rw [e]))
    clear h0
    go_enter Try.func53, Try.ntmps53
    go_wp2
    go_ret
    exact ⟨ret_bool (by first | exact H.out.symm | rfl), by repeat (first | exact Below.refl _ _ | refine Below.alloc ?_ (by simp <;> omega) _)⟩
  have t0 : (x.code != y.code) = false := by simp [h0]
  have H0 := Lib.hid h0
  clear h0
  by_cases h1 : x.run = y.run
  case neg =>
    have t1 : (x.run != y.run) = true := by rw [bne_iff_ne]; exact h1
    have H := Lib.hid (show decide (x = y) = false by simp only [decide_eq_false_iff_not]; intro e; exact h1 (by rw [e]))
    clear h1
    go_enter Try.func53, Try.ntmps53
    go_wp2
    go_ret
    exact ⟨ret_bool (by first | exact H.out.symm | rfl), by repeat (first | exact Below.refl _ _ | refine Below.alloc ?_ (by simp <;> omega) _)⟩
  have t1 : (x.run != y.run) = false := by simp [h1]
  have H1 := Lib.hid h1
  clear h1
  by_cases h2 : x.task = y.task
  case neg =>
    have t2 : (x.task != y.task) = true := by rw [bne_iff_ne]; exact h2
    have H := Lib.hid (show decide (x = y) = false by simp only [decide_eq_false_iff_not]; intro e; exact h2 (by rw [e]))
    clear h2
    go_enter Try.func53, Try.ntmps53
    go_wp2
    go_ret
    exact ⟨ret_bool (by first | exact H.out.symm | rfl), by repeat (first | exact Below.refl _ _ | refine Below.alloc ?_ (by simp <;> omega) _)⟩
  have t2 : (x.task != y.task) = false := by simp [h2]
  have H2 := Lib.hid h2
  clear h2
  by_cases h3 : x.try_ = y.try_
  case neg =>
    have t3 : (x.try_ != y.try_) = true := by rw [bne_iff_ne]; exact h3
    have H := Lib.hid (show decide (x = y) = false by simp only [decide_eq_false_iff_not]; intro e; exact h3 (by rw [e]))
    clear h3
    go_enter Try.func53, Try.ntmps53
    go_wp2
    go_ret
    exact ⟨ret_bool (by first | exact H.out.symm | rfl), by repeat (first | exact Below.refl _ _ | refine Below.alloc ?_ (by simp <;> omega) _)⟩
  have t3 : (x.try_ != y.try_) = false := by simp [h3]
  have H3 := Lib.hid h3
  clear h3
  have H := Lib.hid (show decide (x = y) = true by
    simp only [decide_eq_true_eq]
    have hh := And.intro H0.out (And.intro H1.out (And.intro H2.out H3.out))
    obtain ⟨e0, e1, e2, e3⟩ := hh
    cases x
    cases y
    simp only at e0 e1 e2 e3
    subst e0 e1 e2 e3
    rfl)
  go_enter Try.func53, Try.ntmps53
  go_wp2
  go_ret
  exact ⟨ret_bool (by first | exact H.out.symm | rfl), by repeat (first | exact Below.refl _ _ | refine Below.alloc ?_ (by simp <;> omega) _)⟩

theorem RdL.reply {w : World} {B : Nat} {A : Option Addr} {n c : Nat} {l : List (Reply)} (h : RdL replyD w B (.slice A n c) l) {k : Nat} (hk : k < l.length) :
    ∃ b o, ∃ _s : Unit, A = some ⟨b, o, none⟩ ∧ b < B ∧ replyD.rd w B l[k] _s ∧ w.cell? ⟨b, o + k * 4, none⟩ = some (.int .i64 l[k].code) ∧ w.cell? ⟨b, o + k * 4 + 1, none⟩ = some (.int .i64 l[k].run) ∧ w.cell? ⟨b, o + k * 4 + 2, none⟩ = some (.int .i64 l[k].task) ∧ w.cell? ⟨b, o + k * 4 + 3, none⟩ = some (.int .i64 l[k].try_) := by
  obtain ⟨b, o, s, rfl, hb, hc, hr⟩ := h.at_ k hk
  exact ⟨b, o, s, rfl, hb, hr, hc 0 _ rfl, hc 1 _ rfl, hc 2 _ rfl, hc 3 _ rfl⟩
theorem Ow.c_reply {E : TypeId} {w : World} {base g n cap : Nat} {l : List ((Reply) × Unit)} (h : Ow replyD.enc E w base (.slice (some ⟨g, 0, none⟩) n cap) l) {k : Nat} (hk : k < l.length) :
    w.cell? ⟨g, k * 4, none⟩ = some (.int .i64 l[k].1.code) ∧ w.cell? ⟨g, k * 4 + 1, none⟩ = some (.int .i64 l[k].1.run) ∧ w.cell? ⟨g, k * 4 + 2, none⟩ = some (.int .i64 l[k].1.task) ∧ w.cell? ⟨g, k * 4 + 3, none⟩ = some (.int .i64 l[k].1.try_) := by
  rcases h.form with ⟨h1, _⟩ | ⟨g', cap', hv, _, _, _, _, _, hc⟩
  · simp at h1
  · simp only [Value.slice.injEq, Option.some.injEq, Addr.mk.injEq, and_true] at hv
    obtain ⟨rfl, _, _⟩ := hv
    exact ⟨hc k hk 0 _ rfl, hc k hk 1 _ rfl, hc k hk 2 _ rfl, hc k hk 3 _ rfl⟩
theorem Foc.reply {w : World} {b o n c j : Nat} {rs : List ((Reply) × Unit)} {G1 Fx G2 : List Nat} {x : Reply} {s : Unit} (h : Foc replyD w b o n c rs j G1 Fx G2 x s) :
    w.cell? ⟨b, o + j * 4, none⟩ = some (.int .i64 x.code) ∧ w.cell? ⟨b, o + j * 4 + 1, none⟩ = some (.int .i64 x.run) ∧ w.cell? ⟨b, o + j * 4 + 2, none⟩ = some (.int .i64 x.task) ∧ w.cell? ⟨b, o + j * 4 + 3, none⟩ = some (.int .i64 x.try_) := ⟨h.cells 0 _ rfl, h.cells 1 _ rfl, h.cells 2 _ rfl, h.cells 3 _ rfl⟩

theorem szReplyS_own (l : List (Reply)) (s : Sl) (left : Int) (w : World) (h0 : 0 ≤ left) (h1 : left ≤ 2000000) (hw : wfL wfReply l) (h : RdL replyD w w.heap.size s.v l) :
    Calls Try.prog 33 #[.slice s.a s.n s.c, .int .i64 left] w (SzPost left (cntL cntReply l) w) := by
  obtain ⟨A, n, c⟩ := s
  obtain ⟨A', c', hv, -⟩ := h.form
  simp only [Sl.v, Value.slice.injEq] at hv
  obtain ⟨rfl, rfl, rfl⟩ := hv
  have hll := hw.1
  by_cases hlt : left < l.length
  · go_enter Try.func33, Try.ntmps33
    go_wp2
    go_ret
    exact ⟨-1, rfl, .inl rfl, Below.refl _ _⟩
  go_enter Try.func33, Try.ntmps33
  go_wp2
  go_ret
  exact ⟨_, rfl, .inr ⟨by omega, by rw [cntL_zero (cnt := cntReply) (fun _ => rfl) l]; omega⟩, Below.refl _ _⟩

theorem eqReplyS_own (l l' : List (Reply)) (s s' : Sl) (w : World) (hl : cntL cntReply l ≤ 2000000) (hl' : cntL cntReply l' ≤ 2000000) (h : RdL replyD w w.heap.size s.v l) (h' : RdL replyD w w.heap.size s'.v l') :
    Calls Try.prog 37 #[.slice s.a s.n s.c, .slice s'.a s'.n s'.c] w fun e w' => e = .returned (.bool (decide (l = l'))) ∧ Below w.heap.size w w' := by
  obtain ⟨A, n, c⟩ := s
  obtain ⟨A0, c0, hv, -⟩ := h.form
  simp only [Sl.v, Value.slice.injEq] at hv
  obtain ⟨rfl, rfl, rfl⟩ := hv
  obtain ⟨A', n', c'⟩ := s'
  obtain ⟨A0, c0, hv, -⟩ := h'.form
  simp only [Sl.v, Value.slice.injEq] at hv
  obtain ⟨rfl, rfl, rfl⟩ := hv
  have hll : l.length ≤ 2000000 := Nat.le_trans (cntL_len _ _) hl
  have hll' : l'.length ≤ 2000000 := Nat.le_trans (cntL_len _ _) hl'
  have hcc : ∀ k (hk : k < l.length), cntReply l[k] ≤ 2000000 := fun k hk => by have := cntL_mem (cnt := cntReply) (List.getElem_mem hk); omega
  have hcc' : ∀ k (hk : k < l'.length), cntReply l'[k] ≤ 2000000 := fun k hk => by have := cntL_mem (cnt := cntReply) (List.getElem_mem hk); omega
  clear hl hl'
  by_cases hne : l.length = l'.length
  · have hb0 : ((l.length : Int) != (l'.length : Int)) = false := by simp [hne]
    have Hne := Lib.hid hne
    clear hne
    go_enter Try.func37, Try.ntmps37
    go_wp2
    go_loopw [5] (fun i wr => ∃ k : Nat, k ≤ l.length ∧ i = .int .i64 k ∧ Hid (l.take k = l'.take k) ∧ Below w.heap.size w wr) (fun i _ => l.length - (intOf i).toNat)
    case atStart => exact ⟨0, Nat.zero_le _, rfl, rfl, Below.refl _ _⟩
    case round =>
      obtain ⟨k, hk, rfl, heq, hb⟩ := hrel
      by_cases hlt : k < l.length
      · have hlt' : k < l'.length := by rw [← Hne.out]; exact hlt
        obtain ⟨b, o, s, rfl, hbb, hr, c0, c1, c2, c3⟩ := (h.below hb).reply hlt
        obtain ⟨b', o', s', rfl, hbb', hr', d0, d1, d2, d3⟩ := (h'.below hb).reply hlt'
        have hx : ∀ W, Below wr.heap.size wr W → replyD.rd W W.heap.size l[k] s := fun W hW => replyD.rd_more (replyD.rd_below (replyD.rd_more hr hb.size) hW) hW.size
        have hx' : ∀ W, Below wr.heap.size wr W → replyD.rd W W.heap.size l'[k] s' := fun W hW => replyD.rd_more (replyD.rd_below (replyD.rd_more hr' hb.size) hW) hW.size
        go_wp2
        go_still_tail 8, (by kernel_rfl)
        go_wp2_with (go_at_call 53; refine (eqReply_own l[k] l'[k] s s' _ (hcc k hlt) (hcc' k hlt') (hx _ (by first | exact Below.refl _ _ | exact (Below.refl _ _).drew)) (hx' _ (by first | exact Below.refl _ _ | exact (Below.refl _ _).drew))).mono ?_; rintro e w1 ⟨rfl, hb1⟩)
        · rename_i hd
          go_ret
          refine ⟨ret_bool ?_, (hb.drew).trans (hb1.mono hb.size)⟩
          simp only [Bool.false_eq, decide_eq_false_iff_not]
          intro e
          subst e
          simp at hd
        · rename_i hd
          refine ⟨⟨k + 1, by omega, by go_num, ?_, (hb.drew).trans (hb1.mono hb.size)⟩, by simp [intOf]; omega⟩
          show List.take (k + 1) l = List.take (k + 1) l'
          rw [take_snoc l k hlt, take_snoc l' k hlt', heq.out]
          simp at hd
          rw [hd]
      · go_wp2
        go_ret
        refine ⟨ret_bool ?_, hb⟩
        have h1 := heq.out
        rw [List.take_of_length_le (by omega), List.take_of_length_le (by rw [← Hne.out]; omega)] at h1
        simp [h1]
  · have hb0 : ((l.length : Int) != (l'.length : Int)) = true := by simp; omega
    go_enter Try.func37, Try.ntmps37
    go_wp2
    go_ret
    refine ⟨ret_bool ?_, Below.refl _ _⟩
    simp only [Bool.false_eq, decide_eq_false_iff_not]
    intro e
    exact hne (by rw [e])


theorem reply_infoD : (Try.prog.info? 73).map (fun i => (i.zero, i.size, i.bytes)) = some (some (.agg #[.int .i64 0, .int .i64 0, .int .i64 0, .int .i64 0]), 4, 32) := by kernel_rfl

theorem toReplyS_own (l : List (Reply)) (s : Sl) (w : World) (hl : cntL cntReply l ≤ 2000000) (h : RdL replyD w w.heap.size s.v l) :
    Calls Try.prog 35 #[.slice s.a s.n s.c] w (OwnPost (Dt.list replyD) slV l w) := by
  obtain ⟨A, n, c⟩ := s
  obtain ⟨A', c', hv, -⟩ := h.form
  simp only [Sl.v, Value.slice.injEq] at hv
  obtain ⟨rfl, rfl, rfl⟩ := hv
  have hll : l.length ≤ 2000000 := Nat.le_trans (cntL_len _ _) hl
  have hcc : ∀ k (hk : k < l.length), cntReply l[k] ≤ 2000000 := fun k hk => by have := cntL_mem (cnt := cntReply) (List.getElem_mem hk); omega
  clear hl
  obtain ⟨i0, hi0, hz0, hz1, hz2⟩ := info_parts reply_infoD
  have hmk : ∀ w : World, (Instr.makeSlice 45 (.int .i64 (l.length : Int)) (.int .i64 (l.length : Int))).run Try.prog w = .ok (.slice (some ⟨w.heap.size, 0, none⟩) l.length l.length) (w.alloc (.cells (madeCells #[.int .i64 0, .int .i64 0, .int .i64 0, .int .i64 0] (l.length * 4)) 73)) := by
    intro w
    have := run_make (P := Try.prog) w 45 73 i0 _ Try.underlying45 hi0 hz0 .i64 .i64 l.length l.length (by omega) (by omega) (by rw [hz2]; omega) (by omega)
    rw [hz1] at this
    simpa [Value.cells] using this
  go_enter Try.func35, Try.ntmps35
  go_wp2
  go_loopw [4] (fun i wr => ∃ k : Nat, k ≤ l.length ∧ i = .int .i64 k ∧ Hid (∃ (rs : List ((Reply) × Unit)) (G : List Nat), rs.map (·.1) = l.take k ∧ Ow replyD.enc 73 wr w.heap.size (.slice (some ⟨w.heap.size, 0, none⟩) l.length l.length) (rs ++ List.replicate (l.length - k) (⟨0, 0, 0, 0⟩, ())) ∧ Ows replyD wr G rs ∧ G.Nodup ∧ ∀ b ∈ G, w.heap.size < b) ∧ Below w.heap.size w wr) (fun i _ => l.length - (intOf i).toNat)
  case atStart => exact ⟨0, Nat.zero_le _, rfl, ⟨[], [], rfl, by rw [List.nil_append, Nat.sub_zero]; exact Ow.made replyD.enc 73 w (⟨0, 0, 0, 0⟩, ()) l.length (by decide) (by simp [maxLen]; omega) rfl rfl, .nil, List.nodup_nil, fun _ h => by cases h⟩, (Below.refl _ _).alloc (Nat.le_refl _) _⟩
  case round =>
    obtain ⟨k, hk, rfl, ⟨rs, G, hm, hown, hG, hGn, hGb⟩, hb⟩ := hrel
    have hrl : rs.length = k := by have := congrArg List.length hm; simpa [Nat.min_eq_left hk] using this
    by_cases hlt : k < l.length
    · obtain ⟨b, o, s, rfl, hbb, hr, c0, c1, c2, c3⟩ := (h.below hb).reply hlt
      have hx : ∀ W, Below wr.heap.size wr W → replyD.rd W W.heap.size l[k] s := fun W hW => replyD.rd_more (replyD.rd_below (replyD.rd_more hr hb.size) hW) hW.size
      have hlen : (rs ++ List.replicate (l.length - k) ((⟨0, 0, 0, 0⟩, ()) : (Reply) × Unit)).length = l.length := by simp; omega
      have Hm := Lib.hid hm
      have Hrl := Lib.hid hrl
      clear hm hrl
      go_wp2_with (go_at_call 94; refine (toReply_own l[k] s _ (hcc k hlt) (hx _ (by first | exact Below.refl _ _ | exact (Below.refl _ _).drew))).mono ?_; rintro e w1 ⟨s1, F1, rfl, o1, n1, hb1⟩; have hown1 := hown.below hb1; have hf := hown1.free; obtain ⟨d0, d1, d2, d3⟩ := hown1.c_reply (k := k) (by rw [hlen]; exact hlt))
      have hp := Ow.put hown1 hlen k hlt (l[k], s1)
      have Hp := Bld.lay hG hGn hGb hb1 (r := (l[k], s1)) o1 n1 (Nat.lt_of_lt_of_le (hown.blk).2 (Nat.le_refl _)) hp.2
      rw [mix_snoc rs _ k l.length Hrl.out hlt] at hp
      refine ⟨⟨k + 1, by omega, by go_num, ⟨rs ++ [(l[k], s1)], G ++ F1, ?_, hp.1, Hp.1, Hp.2.1, Hp.2.2⟩, (hb.trans (hb1.mono hb.size)).grown hp.2 (Nat.le_trans hb.size hb1.size) (fun g hg => by simp at hg; omega)⟩, by simp [intOf]; omega⟩
      rw [List.map_append, Hm.out, take_snoc l k hlt]
      rfl
    · have hk' : k = l.length := by omega
      subst hk'
      rw [Nat.sub_self, List.replicate_zero, List.append_nil] at hown
      go_wp2
      go_ret
      rw [List.take_length] at hm
      have hB : Bld replyD 73 wr w.heap.size (.slice (some ⟨w.heap.size, 0, none⟩) l.length l.length) rs := ⟨G, by rw [← hrl]; exact (by rw [hrl]; exact hown), hG, hGn, fun b hb' => ⟨Nat.le_of_lt (hGb b hb'), by simp [Value.ownBlock]; have := hGb b hb'; omega⟩⟩
      obtain ⟨F, h1, h2⟩ := hB.owl hm
      exact ⟨⟨some ⟨w.heap.size, 0, none⟩, l.length, l.length⟩, F, rfl, h1, h2, hb⟩


theorem markReplyS_own (l : List (Reply)) (s : Sl) (F : List Nat) (k : Int) (w : World) (hl : cntL cntReply l ≤ 2000000) (hk0 : 0 ≤ k) (hk1 : k ≤ 1000000000) (h : OwL replyD w F s.v l) :
    Calls Try.prog 38 #[.slice s.a s.n s.c, .int .i64 k] w (MkPost (Dt.list replyD) F (mkL mkReply numReply k l) s (k + (numL numReply l : Nat)) w) := by
  obtain ⟨A, n, c⟩ := s
  obtain ⟨A', c', hv, -⟩ := h.form
  simp only [Sl.v, Value.slice.injEq] at hv
  obtain ⟨rfl, rfl, rfl⟩ := hv
  have hll : l.length ≤ 2000000 := Nat.le_trans (cntL_len _ _) hl
  have hnl : ∀ j, numL numReply (l.take j) ≤ 26000000 := fun j => by
    have h1 := numL_take_le numReply l j
    have h2 := numL_le (num := numReply) (cnt := cntReply) (K := 13) numReply_le l
    omega
  have Hnl := Lib.hid hnl
  clear hnl hl
  go_enter Try.func38, Try.ntmps38
  go_wp2
  go_loopw [1, 5] (fun q i wr => ∃ (j : Nat) (m : Int), j ≤ l.length ∧ i = .int .i64 j ∧ q = .int .i64 m ∧ Hid (m = k + (numL numReply (l.take j) : Nat)) ∧ OwL replyD wr F (.slice A l.length c) (mkL mkReply numReply k (l.take j) ++ l.drop j) ∧ Chg F w wr) (fun _ i _ => l.length - (intOf i).toNat)
  case atStart => exact ⟨0, k, Nat.zero_le _, rfl, rfl, by show k = _; simp [numL], h, Chg.refl _ _⟩
  case round =>
    obtain ⟨j, m, hj, rfl, rfl, hm, ho, hc⟩ := hrel
    have hm' := hm.out
    have hnj := Hnl.out j
    have hm0 : 0 ≤ m := by omega
    have hm1 : m ≤ 1026000000 := by omega
    clear hm' hnj
    by_cases hlt : j < l.length
    · have hltI : (j : Int) < (l.length : Int) := by omega
      have hlen : (mkL mkReply numReply k (l.take j) ++ l.drop j).length = l.length := by simp [mkL_length]; omega
      obtain ⟨b, o, rs, s, G1, Fx, G2, rfl, hF, hrm, f0⟩ := ho.foc (j := j) (by rw [hlen]; exact hlt)
      rw [mkL_here mkReply numReply k l j hlt] at f0
      subst hF
      have Hrm := Lib.hid hrm
      clear hrm ho
      obtain ⟨c0, c1, c2, c3⟩ := f0.reply
      have fr0 := f0.free
      go_wp2
      obtain ⟨f1, g1⟩ := f0.put ⟨m, m + 1, m + 1 + 1, m + 1 + 1 + 1⟩ 0 [.int .i64 (m), .int .i64 (m + 1), .int .i64 (m + 1 + 1), .int .i64 (m + 1 + 1 + 1)] (by show 0 + 4 ≤ 4; omega) (fun i hi => match i, hi with | 0, _ => rfl | 1, _ => rfl | 2, _ => rfl | 3, _ => rfl | i + 4, hi => absurd hi (by simp)) (fun i hi hx => match i, hi, hx with | 0, _, hx => absurd hx (by simp) | 1, _, hx => absurd hx (by simp) | 2, _, hx => absurd hx (by simp) | 3, _, hx => absurd hx (by simp) | i + 4, hi, _ => absurd hi (by show ¬ (i + 4 < 4); omega)) (fun _ hh => hh)
      have hmf := hm.out
      have hown := f1.owl Hrm.out
      have hval : ⟨m, m + 1, m + 1 + 1, m + 1 + 1 + 1⟩ = mkReply m l[j] := rfl
      have hset := mkL_set mkReply numReply k l j hlt
      rw [← hm.out] at hset
      rw [hval, hset] at hown
      have hnum : (numL numReply (l.take (j + 1)) : Nat) = numL numReply (l.take j) + numReply l[j] := sum_take_succ _ _ _ hlt
      refine ⟨⟨j + 1, m + 1 + 1 + 1 + 1, by omega, by go_num, rfl, ?_, hown, (hc).trans (g1.mono (fun _ hh => mem_box hh))⟩, by simp [intOf]; omega⟩
      have hun : numReply l[j] = 4 := rfl
      show m + 1 + 1 + 1 + 1 = _
      rw [hnum, hun]
      push_cast
      omega
    · have hj' : j = l.length := by omega
      subst hj'
      rw [List.take_length, List.drop_length, List.append_nil] at ho
      go_wp2
      go_ret
      refine ⟨ret_int ?_, ho, hc⟩
      rw [hm.out, List.take_length]

end Go.Proofs.Ytcapldjhcplfmaa
