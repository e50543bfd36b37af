/-
  Data of the type Entry: how it lies in memory, and the walks of the laws' helpers on it. Written by program (deep.py).
-/
import Derived.Test.YtcapldjhcplfmaaDp
namespace Go.Proofs.Ytcapldjhcplfmaa
open Go.RowKit
set_option maxRecDepth 100000
set_option maxHeartbeats 1000000
set_option linter.unusedVariables false
set_option linter.unusedSimpArgs false

structure Entry where
  prio : Int
  seq : Int
  run : Int
  task : Int
deriving DecidableEq, Inhabited

@[go_sem] abbrev entryW (x : Entry) (_s : Unit) : Value := .agg #[.int .i64 x.prio, .int .i64 x.seq, .int .i64 x.run, .int .i64 x.task]
abbrev entryD : Dt Entry := Dt.flat (fun q => [.int .i64 q.1.prio, .int .i64 q.1.seq, .int .i64 q.1.run, .int .i64 q.1.task]) 4 (fun _ => rfl) (fun q u hu => by simp at hu; rcases hu with rfl | rfl | rfl | rfl <;> rfl)
/-- all lengths in it together -/
def cntEntry (_ : Entry) : Nat := 0
/-- ints are int64, lengths are what a machine holds -/
def wfEntry (x : Entry) : Prop := Wf x.prio ∧ Wf x.seq ∧ Wf x.run ∧ Wf x.task
def numEntry (_ : Entry) : Nat := 4
/-- with the marks from k on -/
def mkEntry (k : Int) (_ : Entry) : Entry := ⟨k, k + 1, k + 1 + 1, k + 1 + 1 + 1⟩
theorem numEntry_le (x : Entry) : numEntry x ≤ 13 * (cntEntry x + 1) := by
  unfold numEntry cntEntry
  omega

theorem toEntry_own (x : Entry) (s : Unit) (w : World) (hl : cntEntry x ≤ 2000000) (h : entryD.rd w w.heap.size x s) :
    Calls Try.prog 165 #[entryW x s] w (OwnPost entryD entryW x w) := by
  have hbx : ∀ W, Below w.heap.size w W → entryD.rd W W.heap.size x s := fun W hW => entryD.rd_more (entryD.rd_below h hW) hW.size
  go_enter Try.func165, Try.ntmps165
  go_wp2
  refine bodyPost_ret (v := entryW x ()) ?_ rfl ?_
  · simp [entryW, results, Try.results165, go_sem]
  · exact ⟨(), [], rfl, rfl, (fun _ h => by cases h), by repeat (first | (with_reducible exact Below.refl _ _) | refine Below.setCell ?_ (by simp <;> omega) _ | refine Below.alloc ?_ (by simp <;> omega) _)⟩

theorem eqEntry_own (x y : Entry) (s r : Unit) (w : World) (hl : cntEntry x ≤ 2000000) (hl' : cntEntry y ≤ 2000000) (h : entryD.rd w w.heap.size x s) (h' : entryD.rd w w.heap.size y r) :
    Calls Try.prog 167 #[entryW x s, entryW y r] w fun e w' => e = .returned (.bool (decide (x = y))) ∧ Below w.heap.size w w' := by
  have hbx : ∀ W, Below w.heap.size w W → entryD.rd W W.heap.size x s := fun W hW => entryD.rd_more (entryD.rd_below h hW) hW.size
  have hby : ∀ W, Below w.heap.size w W → entryD.rd W W.heap.size y r := fun W hW => entryD.rd_more (entryD.rd_below h' hW) hW.size
  by_cases h0 : x.prio = y.prio
  case neg =>
    have t0 : (x.prio != y.prio) = true := by rw [bne_iff_ne]; exact h0
    have H := Lib.hid (show decide (x = y) = false by simp only [decide_eq_false_iff_not]; intro e; exact h0 (by rw [e]))
    clear h0
    go_enter Try.func167, Try.ntmps167
    go_wp2
    go_ret
    exact ⟨ret_bool (by first | exact H.out.symm | rfl), by repeat (first | exact Below.refl _ _ | refine Below.alloc ?_ (by simp <;> omega) _)⟩
  have t0 : (x.prio != y.prio) = false := by simp [h0]
  have H0 := Lib.hid h0
  clear h0
  by_cases h1 : x.seq = y.seq
  case neg =>
    have t1 : (x.seq != y.seq) = true := by rw [bne_iff_ne]; exact h1
    have H := Lib.hid (show decide (x = y) = false by simp only [decide_eq_false_iff_not]; intro e; exact h1 (by rw [e]))
    clear h1
    go_enter Try.func167, Try.ntmps167
    go_wp2
    go_ret
    exact ⟨ret_bool (by first | exact H.out.symm | rfl), by repeat (first | exact Below.refl _ _ | refine Below.alloc ?_ (by simp <;> omega) _)⟩
  have t1 : (x.seq != y.seq) = false := by simp [h1]
  have H1 := Lib.hid h1
  clear h1
  by_cases h2 : x.run = y.run
  case neg =>
    have t2 : (x.run != y.run) = true := by rw [bne_iff_ne]; exact h2
    have H := Lib.hid (show decide (x = y) = false by simp only [decide_eq_false_iff_not]; intro e; exact h2 (by rw [e]))
    clear h2
    go_enter Try.func167, Try.ntmps167
    go_wp2
    go_ret
    exact ⟨ret_bool (by first | exact H.out.symm | rfl), by repeat (first | exact Below.refl _ _ | refine Below.alloc ?_ (by simp <;> omega) _)⟩
  have t2 : (x.run != y.run) = false := by simp [h2]
  have H2 := Lib.hid h2
  clear h2
  by_cases h3 : x.task = y.task
  case neg =>
    have t3 : (x.task != y.task) = true := by rw [bne_iff_ne]; exact h3
    have H := Lib.hid (show decide (x = y) = false by simp only [decide_eq_false_iff_not]; intro e; exact h3 (by rw [e]))
    clear h3
    go_enter Try.func167, Try.ntmps167
    go_wp2
    go_ret
    exact ⟨ret_bool (by first | exact H.out.symm | rfl), by repeat (first | exact Below.refl _ _ | refine Below.alloc ?_ (by simp <;> omega) _)⟩
  have t3 : (x.task != y.task) = false := by simp [h3]
  have H3 := Lib.hid h3
  clear h3
  have H := Lib.hid (show decide (x = y) = true by
    simp only [decide_eq_true_eq]
    have hh := And.intro H0.out (And.intro H1.out (And.intro H2.out H3.out))
    obtain ⟨e0, e1, e2, e3⟩ := hh
    cases x
    cases y
    simp only at e0 e1 e2 e3
    subst e0 e1 e2 e3
    rfl)
  go_enter Try.func167, Try.ntmps167
  go_wp2
  go_ret
  exact ⟨ret_bool (by first | exact H.out.symm | rfl), by repeat (first | exact Below.refl _ _ | refine Below.alloc ?_ (by simp <;> omega) _)⟩

theorem RdL.entry {w : World} {B : Nat} {A : Option Addr} {n c : Nat} {l : List (Entry)} (h : RdL entryD w B (.slice A n c) l) {k : Nat} (hk : k < l.length) :
    ∃ b o, ∃ _s : Unit, A = some ⟨b, o, none⟩ ∧ b < B ∧ entryD.rd w B l[k] _s ∧ w.cell? ⟨b, o + k * 4, none⟩ = some (.int .i64 l[k].prio) ∧ w.cell? ⟨b, o + k * 4 + 1, none⟩ = some (.int .i64 l[k].seq) ∧ w.cell? ⟨b, o + k * 4 + 2, none⟩ = some (.int .i64 l[k].run) ∧ w.cell? ⟨b, o + k * 4 + 3, none⟩ = some (.int .i64 l[k].task) := by
  obtain ⟨b, o, s, rfl, hb, hc, hr⟩ := h.at_ k hk
  exact ⟨b, o, s, rfl, hb, hr, hc 0 _ rfl, hc 1 _ rfl, hc 2 _ rfl, hc 3 _ rfl⟩
theorem Ow.c_entry {E : TypeId} {w : World} {base g n cap : Nat} {l : List ((Entry) × Unit)} (h : Ow entryD.enc E w base (.slice (some ⟨g, 0, none⟩) n cap) l) {k : Nat} (hk : k < l.length) :
    w.cell? ⟨g, k * 4, none⟩ = some (.int .i64 l[k].1.prio) ∧ w.cell? ⟨g, k * 4 + 1, none⟩ = some (.int .i64 l[k].1.seq) ∧ w.cell? ⟨g, k * 4 + 2, none⟩ = some (.int .i64 l[k].1.run) ∧ w.cell? ⟨g, k * 4 + 3, none⟩ = some (.int .i64 l[k].1.task) := by
  rcases h.form with ⟨h1, _⟩ | ⟨g', cap', hv, _, _, _, _, _, hc⟩
  · simp at h1
  · simp only [Value.slice.injEq, Option.some.injEq, Addr.mk.injEq, and_true] at hv
    obtain ⟨rfl, _, _⟩ := hv
    exact ⟨hc k hk 0 _ rfl, hc k hk 1 _ rfl, hc k hk 2 _ rfl, hc k hk 3 _ rfl⟩
theorem Foc.entry {w : World} {b o n c j : Nat} {rs : List ((Entry) × Unit)} {G1 Fx G2 : List Nat} {x : Entry} {s : Unit} (h : Foc entryD w b o n c rs j G1 Fx G2 x s) :
    w.cell? ⟨b, o + j * 4, none⟩ = some (.int .i64 x.prio) ∧ w.cell? ⟨b, o + j * 4 + 1, none⟩ = some (.int .i64 x.seq) ∧ w.cell? ⟨b, o + j * 4 + 2, none⟩ = some (.int .i64 x.run) ∧ w.cell? ⟨b, o + j * 4 + 3, none⟩ = some (.int .i64 x.task) := ⟨h.cells 0 _ rfl, h.cells 1 _ rfl, h.cells 2 _ rfl, h.cells 3 _ rfl⟩

theorem szEntryS_own (l : List (Entry)) (s : Sl) (left : Int) (w : World) (h0 : 0 ≤ left) (h1 : left ≤ 2000000) (hw : wfL wfEntry l) (h : RdL entryD w w.heap.size s.v l) :
    Calls Try.prog 134 #[.slice s.a s.n s.c, .int .i64 left] w (SzPost left (cntL cntEntry l) w) := by
  obtain ⟨A, n, c⟩ := s
  obtain ⟨A', c', hv, -⟩ := h.form
  simp only [Sl.v, Value.slice.injEq] at hv
  obtain ⟨rfl, rfl, rfl⟩ := hv
  have hll := hw.1
  by_cases hlt : left < l.length
  · go_enter Try.func134, Try.ntmps134
    go_wp2
    go_ret
    exact ⟨-1, rfl, .inl rfl, Below.refl _ _⟩
  go_enter Try.func134, Try.ntmps134
  go_wp2
  go_ret
  exact ⟨_, rfl, .inr ⟨by omega, by rw [cntL_zero (cnt := cntEntry) (fun _ => rfl) l]; omega⟩, Below.refl _ _⟩

theorem eqEntryS_own (l l' : List (Entry)) (s s' : Sl) (w : World) (hl : cntL cntEntry l ≤ 2000000) (hl' : cntL cntEntry l' ≤ 2000000) (h : RdL entryD w w.heap.size s.v l) (h' : RdL entryD w w.heap.size s'.v l') :
    Calls Try.prog 140 #[.slice s.a s.n s.c, .slice s'.a s'.n s'.c] w fun e w' => e = .returned (.bool (decide (l = l'))) ∧ Below w.heap.size w w' := by
  obtain ⟨A, n, c⟩ := s
  obtain ⟨A0, c0, hv, -⟩ := h.form
  simp only [Sl.v, Value.slice.injEq] at hv
  obtain ⟨rfl, rfl, rfl⟩ := hv
  obtain ⟨A', n', c'⟩ := s'
  obtain ⟨A0, c0, hv, -⟩ := h'.form
  simp only [Sl.v, Value.slice.injEq] at hv
  obtain ⟨rfl, rfl, rfl⟩ := hv
  have hll : l.length ≤ 2000000 := Nat.le_trans (cntL_len _ _) hl
  have hll' : l'.length ≤ 2000000 := Nat.le_trans (cntL_len _ _) hl'
  have hcc : ∀ k (hk : k < l.length), cntEntry l[k] ≤ 2000000 := fun k hk => by have := cntL_mem (cnt := cntEntry) (List.getElem_mem hk); omega
  have hcc' : ∀ k (hk : k < l'.length), cntEntry l'[k] ≤ 2000000 := fun k hk => by have := cntL_mem (cnt := cntEntry) (List.getElem_mem hk); omega
  clear hl hl'
  by_cases hne : l.length = l'.length
  · have hb0 : ((l.length : Int) != (l'.length : Int)) = false := by simp [hne]
    have Hne := Lib.hid hne
    clear hne
    go_enter Try.func140, Try.ntmps140
    go_wp2
    go_loopw [5] (fun i wr => ∃ k : Nat, k ≤ l.length ∧ i = .int .i64 k ∧ Hid (l.take k = l'.take k) ∧ Below w.heap.size w wr) (fun i _ => l.length - (intOf i).toNat)
    case atStart => exact ⟨0, Nat.zero_le _, rfl, rfl, Below.refl _ _⟩
    case round =>
      obtain ⟨k, hk, rfl, heq, hb⟩ := hrel
      by_cases hlt : k < l.length
      · have hlt' : k < l'.length := by rw [← Hne.out]; exact hlt
        obtain ⟨b, o, s, rfl, hbb, hr, c0, c1, c2, c3⟩ := (h.below hb).entry hlt
        obtain ⟨b', o', s', rfl, hbb', hr', d0, d1, d2, d3⟩ := (h'.below hb).entry hlt'
        have hx : ∀ W, Below wr.heap.size wr W → entryD.rd W W.heap.size l[k] s := fun W hW => entryD.rd_more (entryD.rd_below (entryD.rd_more hr hb.size) hW) hW.size
        have hx' : ∀ W, Below wr.heap.size wr W → entryD.rd W W.heap.size l'[k] s' := fun W hW => entryD.rd_more (entryD.rd_below (entryD.rd_more hr' hb.size) hW) hW.size
        go_wp2
        go_still_tail 8, (by kernel_rfl)
        go_wp2_with (go_at_call 167; refine (eqEntry_own l[k] l'[k] s s' _ (hcc k hlt) (hcc' k hlt') (hx _ (by first | exact Below.refl _ _ | exact (Below.refl _ _).drew)) (hx' _ (by first | exact Below.refl _ _ | exact (Below.refl _ _).drew))).mono ?_; rintro e w1 ⟨rfl, hb1⟩)
        · rename_i hd
          go_ret
          refine ⟨ret_bool ?_, (hb.drew).trans (hb1.mono hb.size)⟩
          simp only [Bool.false_eq, decide_eq_false_iff_not]
          intro e
          subst e
          simp at hd
        · rename_i hd
          refine ⟨⟨k + 1, by omega, by go_num, ?_, (hb.drew).trans (hb1.mono hb.size)⟩, by simp [intOf]; omega⟩
          show List.take (k + 1) l = List.take (k + 1) l'
          rw [take_snoc l k hlt, take_snoc l' k hlt', heq.out]
          simp at hd
          rw [hd]
      · go_wp2
        go_ret
        refine ⟨ret_bool ?_, hb⟩
        have h1 := heq.out
        rw [List.take_of_length_le (by omega), List.take_of_length_le (by rw [← Hne.out]; omega)] at h1
        simp [h1]
  · have hb0 : ((l.length : Int) != (l'.length : Int)) = true := by simp; omega
    go_enter Try.func140, Try.ntmps140
    go_wp2
    go_ret
    refine ⟨ret_bool ?_, Below.refl _ _⟩
    simp only [Bool.false_eq, decide_eq_false_iff_not]
    intro e
    exact hne (by rw [e])


theorem entry_infoD : (Try.prog.info? 216).map (fun i => (i.zero, i.size, i.bytes)) = some (some (.agg #[.int .i64 0, .int .i64 0, .int .i64 0, .int .i64 0]), 4, 32) := by kernel_rfl

theorem toEntryS_own (l : List (Entry)) (s : Sl) (w : World) (hl : cntL cntEntry l ≤ 2000000) (h : RdL entryD w w.heap.size s.v l) :
    Calls Try.prog 136 #[.slice s.a s.n s.c] w (OwnPost (Dt.list entryD) slV l w) := by
  obtain ⟨A, n, c⟩ := s
  obtain ⟨A', c', hv, -⟩ := h.form
  simp only [Sl.v, Value.slice.injEq] at hv
  obtain ⟨rfl, rfl, rfl⟩ := hv
  have hll : l.length ≤ 2000000 := Nat.le_trans (cntL_len _ _) hl
  have hcc : ∀ k (hk : k < l.length), cntEntry l[k] ≤ 2000000 := fun k hk => by have := cntL_mem (cnt := cntEntry) (List.getElem_mem hk); omega
  clear hl
  obtain ⟨i0, hi0, hz0, hz1, hz2⟩ := info_parts entry_infoD
  have hmk : ∀ w : World, (Instr.makeSlice 197 (.int .i64 (l.length : Int)) (.int .i64 (l.length : Int))).run Try.prog w = .ok (.slice (some ⟨w.heap.size, 0, none⟩) l.length l.length) (w.alloc (.cells (madeCells #[.int .i64 0, .int .i64 0, .int .i64 0, .int .i64 0] (l.length * 4)) 216)) := by
    intro w
    have := run_make (P := Try.prog) w 197 216 i0 _ Try.underlying197 hi0 hz0 .i64 .i64 l.length l.length (by omega) (by omega) (by rw [hz2]; omega) (by omega)
    rw [hz1] at this
    simpa [Value.cells] using this
  go_enter Try.func136, Try.ntmps136
  go_wp2
  go_loopw [4] (fun i wr => ∃ k : Nat, k ≤ l.length ∧ i = .int .i64 k ∧ Hid (∃ (rs : List ((Entry) × Unit)) (G : List Nat), rs.map (·.1) = l.take k ∧ Ow entryD.enc 216 wr w.heap.size (.slice (some ⟨w.heap.size, 0, none⟩) l.length l.length) (rs ++ List.replicate (l.length - k) (⟨0, 0, 0, 0⟩, ())) ∧ Ows entryD wr G rs ∧ G.Nodup ∧ ∀ b ∈ G, w.heap.size < b) ∧ Below w.heap.size w wr) (fun i _ => l.length - (intOf i).toNat)
  case atStart => exact ⟨0, Nat.zero_le _, rfl, ⟨[], [], rfl, by rw [List.nil_append, Nat.sub_zero]; exact Ow.made entryD.enc 216 w (⟨0, 0, 0, 0⟩, ()) l.length (by decide) (by simp [maxLen]; omega) rfl rfl, .nil, List.nodup_nil, fun _ h => by cases h⟩, (Below.refl _ _).alloc (Nat.le_refl _) _⟩
  case round =>
    obtain ⟨k, hk, rfl, ⟨rs, G, hm, hown, hG, hGn, hGb⟩, hb⟩ := hrel
    have hrl : rs.length = k := by have := congrArg List.length hm; simpa [Nat.min_eq_left hk] using this
    by_cases hlt : k < l.length
    · obtain ⟨b, o, s, rfl, hbb, hr, c0, c1, c2, c3⟩ := (h.below hb).entry hlt
      have hx : ∀ W, Below wr.heap.size wr W → entryD.rd W W.heap.size l[k] s := fun W hW => entryD.rd_more (entryD.rd_below (entryD.rd_more hr hb.size) hW) hW.size
      have hlen : (rs ++ List.replicate (l.length - k) ((⟨0, 0, 0, 0⟩, ()) : (Entry) × Unit)).length = l.length := by simp; omega
      have Hm := Lib.hid hm
      have Hrl := Lib.hid hrl
      clear hm hrl
      go_wp2_with (go_at_call 165; refine (toEntry_own l[k] s _ (hcc k hlt) (hx _ (by first | exact Below.refl _ _ | exact (Below.refl _ _).drew))).mono ?_; rintro e w1 ⟨s1, F1, rfl, o1, n1, hb1⟩; have hown1 := hown.below hb1; have hf := hown1.free; obtain ⟨d0, d1, d2, d3⟩ := hown1.c_entry (k := k) (by rw [hlen]; exact hlt))
      have hp := Ow.put hown1 hlen k hlt (l[k], s1)
      have Hp := Bld.lay hG hGn hGb hb1 (r := (l[k], s1)) o1 n1 (Nat.lt_of_lt_of_le (hown.blk).2 (Nat.le_refl _)) hp.2
      rw [mix_snoc rs _ k l.length Hrl.out hlt] at hp
      refine ⟨⟨k + 1, by omega, by go_num, ⟨rs ++ [(l[k], s1)], G ++ F1, ?_, hp.1, Hp.1, Hp.2.1, Hp.2.2⟩, (hb.trans (hb1.mono hb.size)).grown hp.2 (Nat.le_trans hb.size hb1.size) (fun g hg => by simp at hg; omega)⟩, by simp [intOf]; omega⟩
      rw [List.map_append, Hm.out, take_snoc l k hlt]
      rfl
    · have hk' : k = l.length := by omega
      subst hk'
      rw [Nat.sub_self, List.replicate_zero, List.append_nil] at hown
      go_wp2
      go_ret
      rw [List.take_length] at hm
      have hB : Bld entryD 216 wr w.heap.size (.slice (some ⟨w.heap.size, 0, none⟩) l.length l.length) rs := ⟨G, by rw [← hrl]; exact (by rw [hrl]; exact hown), hG, hGn, fun b hb' => ⟨Nat.le_of_lt (hGb b hb'), by simp [Value.ownBlock]; have := hGb b hb'; omega⟩⟩
      obtain ⟨F, h1, h2⟩ := hB.owl hm
      exact ⟨⟨some ⟨w.heap.size, 0, none⟩, l.length, l.length⟩, F, rfl, h1, h2, hb⟩


theorem markEntryS_own (l : List (Entry)) (s : Sl) (F : List Nat) (k : Int) (w : World) (hl : cntL cntEntry l ≤ 2000000) (hk0 : 0 ≤ k) (hk1 : k ≤ 1000000000) (h : OwL entryD w F s.v l) :
    Calls Try.prog 176 #[.slice s.a s.n s.c, .int .i64 k] w (MkPost (Dt.list entryD) F (mkL mkEntry numEntry k l) s (k + (numL numEntry l : Nat)) w) := by
  obtain ⟨A, n, c⟩ := s
  obtain ⟨A', c', hv, -⟩ := h.form
  simp only [Sl.v, Value.slice.injEq] at hv
  obtain ⟨rfl, rfl, rfl⟩ := hv
  have hll : l.length ≤ 2000000 := Nat.le_trans (cntL_len _ _) hl
  have hnl : ∀ j, numL numEntry (l.take j) ≤ 26000000 := fun j => by
    have h1 := numL_take_le numEntry l j
    have h2 := numL_le (num := numEntry) (cnt := cntEntry) (K := 13) numEntry_le l
    omega
  have Hnl := Lib.hid hnl
  clear hnl hl
  go_enter Try.func176, Try.ntmps176
  go_wp2
  go_loopw [1, 5] (fun q i wr => ∃ (j : Nat) (m : Int), j ≤ l.length ∧ i = .int .i64 j ∧ q = .int .i64 m ∧ Hid (m = k + (numL numEntry (l.take j) : Nat)) ∧ OwL entryD wr F (.slice A l.length c) (mkL mkEntry numEntry k (l.take j) ++ l.drop j) ∧ Chg F w wr) (fun _ i _ => l.length - (intOf i).toNat)
  case atStart => exact ⟨0, k, Nat.zero_le _, rfl, rfl, by show k = _; simp [numL], h, Chg.refl _ _⟩
  case round =>
    obtain ⟨j, m, hj, rfl, rfl, hm, ho, hc⟩ := hrel
    have hm' := hm.out
    have hnj := Hnl.out j
    have hm0 : 0 ≤ m := by omega
    have hm1 : m ≤ 1026000000 := by omega
    clear hm' hnj
    by_cases hlt : j < l.length
    · have hltI : (j : Int) < (l.length : Int) := by omega
      have hlen : (mkL mkEntry numEntry k (l.take j) ++ l.drop j).length = l.length := by simp [mkL_length]; omega
      obtain ⟨b, o, rs, s, G1, Fx, G2, rfl, hF, hrm, f0⟩ := ho.foc (j := j) (by rw [hlen]; exact hlt)
      rw [mkL_here mkEntry numEntry k l j hlt] at f0
      subst hF
      have Hrm := Lib.hid hrm
      clear hrm ho
      obtain ⟨c0, c1, c2, c3⟩ := f0.entry
      have fr0 := f0.free
      go_wp2
      obtain ⟨f1, g1⟩ := f0.put ⟨m, m + 1, m + 1 + 1, m + 1 + 1 + 1⟩ 0 [.int .i64 (m), .int .i64 (m + 1), .int .i64 (m + 1 + 1), .int .i64 (m + 1 + 1 + 1)] (by show 0 + 4 ≤ 4; omega) (fun i hi => match i, hi with | 0, _ => rfl | 1, _ => rfl | 2, _ => rfl | 3, _ => rfl | i + 4, hi => absurd hi (by simp)) (fun i hi hx => match i, hi, hx with | 0, _, hx => absurd hx (by simp) | 1, _, hx => absurd hx (by simp) | 2, _, hx => absurd hx (by simp) | 3, _, hx => absurd hx (by simp) | i + 4, hi, _ => absurd hi (by show ¬ (i + 4 < 4); omega)) (fun _ hh => hh)
      have hmf := hm.out
      have hown := f1.owl Hrm.out
      have hval : ⟨m, m + 1, m + 1 + 1, m + 1 + 1 + 1⟩ = mkEntry m l[j] := rfl
      have hset := mkL_set mkEntry numEntry k l j hlt
      rw [← hm.out] at hset
      rw [hval, hset] at hown
      have hnum : (numL numEntry (l.take (j + 1)) : Nat) = numL numEntry (l.take j) + numEntry l[j] := sum_take_succ _ _ _ hlt
      refine ⟨⟨j + 1, m + 1 + 1 + 1 + 1, by omega, by go_num, rfl, ?_, hown, (hc).trans (g1.mono (fun _ hh => mem_box hh))⟩, by simp [intOf]; omega⟩
      have hun : numEntry l[j] = 4 := rfl
      show m + 1 + 1 + 1 + 1 = _
      rw [hnum, hun]
      push_cast
      omega
    · have hj' : j = l.length := by omega
      subst hj'
      rw [List.take_length, List.drop_length, List.append_nil] at ho
      go_wp2
      go_ret
      refine ⟨ret_int ?_, ho, hc⟩
      rw [hm.out, List.take_length]


theorem heldEntryS_own (l : List (Entry)) (s : Sl) (k : Int) (w : World) (hl : cntL cntEntry l ≤ 2000000) (hk0 : 0 ≤ k) (hk1 : k ≤ 1000000000) (h : RdL entryD w w.heap.size s.v (mkL mkEntry numEntry k l)) :
    Calls Try.prog 178 #[.slice s.a s.n s.c, .int .i64 k] w fun e w' => e = .returned (.int .i64 (k + (numL numEntry l : Nat))) ∧ Below w.heap.size w w' := by
  obtain ⟨A, n, c⟩ := s
  obtain ⟨A', c', hv, -⟩ := h.form
  simp only [Sl.v, Value.slice.injEq, mkL_length] at hv
  obtain ⟨rfl, rfl, rfl⟩ := hv
  have hll : l.length ≤ 2000000 := Nat.le_trans (cntL_len _ _) hl
  have hnl : ∀ j, numL numEntry (l.take j) ≤ 26000000 := fun j => by
    have h1 := numL_take_le numEntry l j
    have h2 := numL_le (num := numEntry) (cnt := cntEntry) (K := 13) numEntry_le l
    omega
  have hcell : ∀ (wr : World) (j : Nat) (hj : j < l.length) (m : Int), Below w.heap.size w wr → m = k + (numL numEntry (l.take j) : Nat) → ∃ b o, ∃ s : Unit, A = some ⟨b, o, none⟩ ∧ b < w.heap.size ∧ entryD.rd wr w.heap.size (mkEntry m l[j]) s ∧ wr.cell? ⟨b, o + j * 4, none⟩ = some (.int .i64 (m)) ∧ wr.cell? ⟨b, o + j * 4 + 1, none⟩ = some (.int .i64 (m + 1)) ∧ wr.cell? ⟨b, o + j * 4 + 2, none⟩ = some (.int .i64 (m + 1 + 1)) ∧ wr.cell? ⟨b, o + j * 4 + 3, none⟩ = some (.int .i64 (m + 1 + 1 + 1)) := by
    intro wr j hj m hb hm
    obtain ⟨b, o, s, h1, h2, h3, h4⟩ := (h.below hb).entry (k := j) (by rw [mkL_length]; exact hj)
    first | rw [mkL_get _ _ _ _ _ hj, ← hm] at h3 h4 | rw [mkL_get _ _ _ _ _ hj, ← hm] at h3
    exact ⟨b, o, s, h1, h2, h3, h4⟩
  have Hc := Lib.hid hcell
  have Hnl := Lib.hid hnl
  clear hcell hnl hl
  go_enter Try.func178, Try.ntmps178
  go_wp2
  go_loopw [1, 5] (fun q i wr => ∃ (j : Nat) (m : Int), j ≤ l.length ∧ i = .int .i64 j ∧ q = .int .i64 m ∧ Hid (m = k + (numL numEntry (l.take j) : Nat)) ∧ Below w.heap.size w wr) (fun _ i _ => l.length - (intOf i).toNat)
  case atStart => exact ⟨0, k, Nat.zero_le _, rfl, rfl, by show k = _; simp [numL], Below.refl _ _⟩
  case round =>
    obtain ⟨j, m, hj, rfl, rfl, hm, hb⟩ := hrel
    have hm' := hm.out
    have hnj := Hnl.out j
    have hm0 : 0 ≤ m := by omega
    have hm1 : m ≤ 1026000000 := by omega
    clear hm' hnj
    by_cases hlt : j < l.length
    · have hltI : (j : Int) < (l.length : Int) := by omega
      obtain ⟨b, o, s, rfl, hbb, hrd, c0, c1, c2, c3⟩ := Hc.out wr j hlt m hb hm.out
      go_wp2
      have hnum : (numL numEntry (l.take (j + 1)) : Nat) = numL numEntry (l.take j) + numEntry l[j] := sum_take_succ _ _ _ hlt
      refine ⟨⟨j + 1, m + 1 + 1 + 1 + 1, by omega, by go_num, rfl, ?_, hb⟩, by simp [intOf]; omega⟩
      have hun : numEntry l[j] = 4 := rfl
      have hmf := hm.out
      show m + 1 + 1 + 1 + 1 = _
      rw [hnum, hun]
      push_cast
      omega
    · have hj' : j = l.length := by omega
      subst hj'
      go_wp2
      go_ret
      refine ⟨ret_int ?_, hb⟩
      rw [hm.out, List.take_length]

def cntEntryS (x : List Entry) : Nat := cntL cntEntry x
def wfEntryS (x : List Entry) : Prop := wfL wfEntry x
def numEntryS (x : List Entry) : Nat := numL numEntry x
def mkEntryS (k : Int) (x : List Entry) : List Entry := mkL mkEntry numEntry k x
theorem numEntryS_le (x : List Entry) : numEntryS x ≤ 13 * (cntEntryS x + 1) := by
  have h := numL_le (num := numEntry) (cnt := cntEntry) (K := 13) numEntry_le x
  unfold numEntryS cntEntryS
  omega

theorem RdL.entryS {w : World} {B : Nat} {A : Option Addr} {n c : Nat} {l : List (List Entry)} (h : RdL (Dt.list entryD) w B (.slice A n c) l) {k : Nat} (hk : k < l.length) :
    ∃ b o, ∃ s : Sl, A = some ⟨b, o, none⟩ ∧ b < B ∧ (Dt.list entryD).rd w B l[k] s ∧ w.cell? ⟨b, o + k, none⟩ = some (.slice s.a s.n s.c) := by
  obtain ⟨b, o, s, rfl, hb, hc, hr⟩ := h.at_ k hk
  exact ⟨b, o, s, rfl, hb, hr, (by have hh := hc 0 _ rfl; rw [show k * (Dt.list entryD).enc.sz = k from Nat.mul_one k] at hh; exact hh)⟩
theorem Ow.c_entryS {E : TypeId} {w : World} {base g n cap : Nat} {l : List ((List Entry) × Sl)} (h : Ow (Dt.list entryD).enc E w base (.slice (some ⟨g, 0, none⟩) n cap) l) {k : Nat} (hk : k < l.length) :
    w.cell? ⟨g, k, none⟩ = some (.slice l[k].2.a l[k].2.n l[k].2.c) := by
  rcases h.form with ⟨h1, _⟩ | ⟨g', cap', hv, _, _, _, _, _, hc⟩
  · simp at h1
  · simp only [Value.slice.injEq, Option.some.injEq, Addr.mk.injEq, and_true] at hv
    obtain ⟨rfl, _, _⟩ := hv
    exact (by have hh := hc k hk 0 _ rfl; rw [show k * (Dt.list entryD).enc.sz = k from Nat.mul_one k] at hh; exact hh)
theorem Foc.entryS {w : World} {b o n c j : Nat} {rs : List ((List Entry) × Sl)} {G1 Fx G2 : List Nat} {x : List Entry} {s : Sl} (h : Foc (Dt.list entryD) w b o n c rs j G1 Fx G2 x s) :
    w.cell? ⟨b, o + j, none⟩ = some (.slice s.a s.n s.c) := (by have hh := h.cells 0 _ rfl; rw [show j * (Dt.list entryD).enc.sz = j from Nat.mul_one j] at hh; exact hh)

theorem szEntrySS_own (l : List (List Entry)) (s : Sl) (left : Int) (w : World) (h0 : 0 ≤ left) (h1 : left ≤ 2000000) (hw : wfL wfEntryS l) (h : RdL (Dt.list entryD) w w.heap.size s.v l) :
    Calls Try.prog 95 #[.slice s.a s.n s.c, .int .i64 left] w (SzPost left (cntL cntEntryS l) w) := by
  obtain ⟨A, n, c⟩ := s
  obtain ⟨A', c', hv, -⟩ := h.form
  simp only [Sl.v, Value.slice.injEq] at hv
  obtain ⟨rfl, rfl, rfl⟩ := hv
  have hll := hw.1
  by_cases hlt : left < l.length
  · go_enter Try.func95, Try.ntmps95
    go_wp2
    go_ret
    exact ⟨-1, rfl, .inl rfl, Below.refl _ _⟩
  have Hw := Lib.hid hw
  clear hw
  go_enter Try.func95, Try.ntmps95
  go_wp2
  go_loopw [1, 5] (fun t i wr => ∃ k : Nat, ∃ m : Int, k ≤ l.length ∧ i = .int .i64 k ∧ t = .int .i64 m ∧ 0 ≤ m ∧ m + l.length + (((l.take k).map cntEntryS).sum : Nat) ≤ left ∧ Below w.heap.size w wr) (fun _ i _ => l.length - (intOf i).toNat)
  case atStart => exact ⟨0, _, Nat.zero_le _, rfl, rfl, by omega, by simp <;> omega, Below.refl _ _⟩
  case round =>
    obtain ⟨k, m, hk, rfl, rfl, m0, m1, hb⟩ := hrel
    by_cases hlt : k < l.length
    · obtain ⟨b, o, s, rfl, hbb, hr, c0⟩ := (h.below hb).entryS hlt
      have hx : ∀ W, Below wr.heap.size wr W → (Dt.list entryD).rd W W.heap.size l[k] s := fun W hW => (Dt.list entryD).rd_more ((Dt.list entryD).rd_below ((Dt.list entryD).rd_more hr hb.size) hW) hW.size
      have hwk : wfEntryS l[k] := Hw.out.2 _ (List.getElem_mem hlt)
      have M1 := Lib.hid m1
      have m2 : m ≤ 2000000 := by omega
      clear m1
      go_wp2_with fail
      refine (szEntryS_own l[k] s m _ m0 m2 hwk (hx _ (by first | exact Below.refl _ _ | exact (Below.refl _ _).drew))).mono ?_
      rintro e w1 ⟨r, rfl, hr, hb1⟩
      rcases hr with rfl | ⟨r0, r1⟩
      · go_wp2
        go_ret
        exact ⟨-1, rfl, .inl rfl, bnext hb hb1⟩
      · go_wp2
        refine ⟨⟨k + 1, r, by omega, by go_num, rfl, r0, ?_, bnext hb hb1⟩, by simp [intOf]; omega⟩
        have M2 := M1.out
        have r2 : r + (cntEntryS l[k] : Nat) ≤ m := r1
        rw [sum_take_succ _ _ _ hlt]
        push_cast
        omega
    · go_wp2
      go_ret
      refine ⟨_, rfl, .inr ⟨by omega, ?_⟩, hb⟩
      rw [List.take_of_length_le (by omega)] at m1
      unfold cntL
      push_cast
      omega

theorem eqEntrySS_own (l l' : List (List Entry)) (s s' : Sl) (w : World) (hl : cntL cntEntryS l ≤ 2000000) (hl' : cntL cntEntryS l' ≤ 2000000) (h : RdL (Dt.list entryD) w w.heap.size s.v l) (h' : RdL (Dt.list entryD) w w.heap.size s'.v l') :
    Calls Try.prog 101 #[.slice s.a s.n s.c, .slice s'.a s'.n s'.c] w fun e w' => e = .returned (.bool (decide (l = l'))) ∧ Below w.heap.size w w' := by
  obtain ⟨A, n, c⟩ := s
  obtain ⟨A0, c0, hv, -⟩ := h.form
  simp only [Sl.v, Value.slice.injEq] at hv
  obtain ⟨rfl, rfl, rfl⟩ := hv
  obtain ⟨A', n', c'⟩ := s'
  obtain ⟨A0, c0, hv, -⟩ := h'.form
  simp only [Sl.v, Value.slice.injEq] at hv
  obtain ⟨rfl, rfl, rfl⟩ := hv
  have hll : l.length ≤ 2000000 := Nat.le_trans (cntL_len _ _) hl
  have hll' : l'.length ≤ 2000000 := Nat.le_trans (cntL_len _ _) hl'
  have hcc : ∀ k (hk : k < l.length), cntEntryS l[k] ≤ 2000000 := fun k hk => by have := cntL_mem (cnt := cntEntryS) (List.getElem_mem hk); omega
  have hcc' : ∀ k (hk : k < l'.length), cntEntryS l'[k] ≤ 2000000 := fun k hk => by have := cntL_mem (cnt := cntEntryS) (List.getElem_mem hk); omega
  clear hl hl'
  by_cases hne : l.length = l'.length
  · have hb0 : ((l.length : Int) != (l'.length : Int)) = false := by simp [hne]
    have Hne := Lib.hid hne
    clear hne
    go_enter Try.func101, Try.ntmps101
    go_wp2
    go_loopw [5] (fun i wr => ∃ k : Nat, k ≤ l.length ∧ i = .int .i64 k ∧ Hid (l.take k = l'.take k) ∧ Below w.heap.size w wr) (fun i _ => l.length - (intOf i).toNat)
    case atStart => exact ⟨0, Nat.zero_le _, rfl, rfl, Below.refl _ _⟩
    case round =>
      obtain ⟨k, hk, rfl, heq, hb⟩ := hrel
      by_cases hlt : k < l.length
      · have hlt' : k < l'.length := by rw [← Hne.out]; exact hlt
        obtain ⟨b, o, s, rfl, hbb, hr, c0⟩ := (h.below hb).entryS hlt
        obtain ⟨b', o', s', rfl, hbb', hr', d0⟩ := (h'.below hb).entryS hlt'
        have hx : ∀ W, Below wr.heap.size wr W → (Dt.list entryD).rd W W.heap.size l[k] s := fun W hW => (Dt.list entryD).rd_more ((Dt.list entryD).rd_below ((Dt.list entryD).rd_more hr hb.size) hW) hW.size
        have hx' : ∀ W, Below wr.heap.size wr W → (Dt.list entryD).rd W W.heap.size l'[k] s' := fun W hW => (Dt.list entryD).rd_more ((Dt.list entryD).rd_below ((Dt.list entryD).rd_more hr' hb.size) hW) hW.size
        go_wp2
        go_still_tail 8, (by kernel_rfl)
        go_wp2_with (go_at_call 140; refine (eqEntryS_own l[k] l'[k] s s' _ (hcc k hlt) (hcc' k hlt') (hx _ (by first | exact Below.refl _ _ | exact (Below.refl _ _).drew)) (hx' _ (by first | exact Below.refl _ _ | exact (Below.refl _ _).drew))).mono ?_; rintro e w1 ⟨rfl, hb1⟩)
        · rename_i hd
          go_ret
          refine ⟨ret_bool ?_, (hb.drew).trans (hb1.mono hb.size)⟩
          simp only [Bool.false_eq, decide_eq_false_iff_not]
          intro e
          subst e
          simp at hd
        · rename_i hd
          refine ⟨⟨k + 1, by omega, by go_num, ?_, (hb.drew).trans (hb1.mono hb.size)⟩, by simp [intOf]; omega⟩
          show List.take (k + 1) l = List.take (k + 1) l'
          rw [take_snoc l k hlt, take_snoc l' k hlt', heq.out]
          simp at hd
          rw [hd]
      · go_wp2
        go_ret
        refine ⟨ret_bool ?_, hb⟩
        have h1 := heq.out
        rw [List.take_of_length_le (by omega), List.take_of_length_le (by rw [← Hne.out]; omega)] at h1
        simp [h1]
  · have hb0 : ((l.length : Int) != (l'.length : Int)) = true := by simp; omega
    go_enter Try.func101, Try.ntmps101
    go_wp2
    go_ret
    refine ⟨ret_bool ?_, Below.refl _ _⟩
    simp only [Bool.false_eq, decide_eq_false_iff_not]
    intro e
    exact hne (by rw [e])


theorem entryS_infoD : (Try.prog.info? 197).map (fun i => (i.zero, i.size, i.bytes)) = some (some (.slice none 0 0), 1, 24) := by kernel_rfl

theorem toEntrySS_own (l : List (List Entry)) (s : Sl) (w : World) (hl : cntL cntEntryS l ≤ 2000000) (h : RdL (Dt.list entryD) w w.heap.size s.v l) :
    Calls Try.prog 98 #[.slice s.a s.n s.c] w (OwnPost (Dt.list (Dt.list entryD)) slV l w) := by
  obtain ⟨A, n, c⟩ := s
  obtain ⟨A', c', hv, -⟩ := h.form
  simp only [Sl.v, Value.slice.injEq] at hv
  obtain ⟨rfl, rfl, rfl⟩ := hv
  have hll : l.length ≤ 2000000 := Nat.le_trans (cntL_len _ _) hl
  have hcc : ∀ k (hk : k < l.length), cntEntryS l[k] ≤ 2000000 := fun k hk => by have := cntL_mem (cnt := cntEntryS) (List.getElem_mem hk); omega
  clear hl
  obtain ⟨i0, hi0, hz0, hz1, hz2⟩ := info_parts entryS_infoD
  have hmk : ∀ w : World, (Instr.makeSlice 59 (.int .i64 (l.length : Int)) (.int .i64 (l.length : Int))).run Try.prog w = .ok (.slice (some ⟨w.heap.size, 0, none⟩) l.length l.length) (w.alloc (.cells (madeCells #[.slice none 0 0] l.length) 197)) := by
    intro w
    have := run_make (P := Try.prog) w 59 197 i0 _ Try.underlying59 hi0 hz0 .i64 .i64 l.length l.length (by omega) (by omega) (by rw [hz2]; omega) (by omega)
    rw [hz1] at this
    simpa [Value.cells] using this
  go_enter Try.func98, Try.ntmps98
  go_wp2
  go_loopw [4] (fun i wr => ∃ k : Nat, k ≤ l.length ∧ i = .int .i64 k ∧ Hid (∃ (rs : List ((List Entry) × Sl)) (G : List Nat), rs.map (·.1) = l.take k ∧ Ow (Dt.list entryD).enc 197 wr w.heap.size (.slice (some ⟨w.heap.size, 0, none⟩) l.length l.length) (rs ++ List.replicate (l.length - k) ([], ⟨none, 0, 0⟩)) ∧ Ows (Dt.list entryD) wr G rs ∧ G.Nodup ∧ ∀ b ∈ G, w.heap.size < b) ∧ Below w.heap.size w wr) (fun i _ => l.length - (intOf i).toNat)
  case atStart => exact ⟨0, Nat.zero_le _, rfl, ⟨[], [], rfl, by rw [List.nil_append, Nat.sub_zero]; exact Ow.made (Dt.list entryD).enc 197 w ([], ⟨none, 0, 0⟩) l.length (by decide) (by simp [maxLen]; omega) rfl (Nat.mul_one _).symm, .nil, List.nodup_nil, fun _ h => by cases h⟩, (Below.refl _ _).alloc (Nat.le_refl _) _⟩
  case round =>
    obtain ⟨k, hk, rfl, ⟨rs, G, hm, hown, hG, hGn, hGb⟩, hb⟩ := hrel
    have hrl : rs.length = k := by have := congrArg List.length hm; simpa [Nat.min_eq_left hk] using this
    by_cases hlt : k < l.length
    · obtain ⟨b, o, s, rfl, hbb, hr, c0⟩ := (h.below hb).entryS hlt
      have hx : ∀ W, Below wr.heap.size wr W → (Dt.list entryD).rd W W.heap.size l[k] s := fun W hW => (Dt.list entryD).rd_more ((Dt.list entryD).rd_below ((Dt.list entryD).rd_more hr hb.size) hW) hW.size
      have hlen : (rs ++ List.replicate (l.length - k) (([], ⟨none, 0, 0⟩) : (List Entry) × Sl)).length = l.length := by simp; omega
      have Hm := Lib.hid hm
      have Hrl := Lib.hid hrl
      clear hm hrl
      go_wp2_with (go_at_call 136; refine (toEntryS_own l[k] s _ (hcc k hlt) (hx _ (by first | exact Below.refl _ _ | exact (Below.refl _ _).drew))).mono ?_; rintro e w1 ⟨s1, F1, rfl, o1, n1, hb1⟩; have hown1 := hown.below hb1; have hf := hown1.free; have d0 := hown1.c_entryS (k := k) (by rw [hlen]; exact hlt))
      have hp := Ow.put hown1 hlen k hlt (l[k], s1)
      rw [show k * (Dt.list entryD).enc.sz = k from Nat.mul_one k] at hp
      have Hp := Bld.lay hG hGn hGb hb1 (r := (l[k], s1)) o1 n1 (Nat.lt_of_lt_of_le (hown.blk).2 (Nat.le_refl _)) hp.2
      rw [mix_snoc rs _ k l.length Hrl.out hlt] at hp
      refine ⟨⟨k + 1, by omega, by go_num, ⟨rs ++ [(l[k], s1)], G ++ F1, ?_, hp.1, Hp.1, Hp.2.1, Hp.2.2⟩, (hb.trans (hb1.mono hb.size)).grown hp.2 (Nat.le_trans hb.size hb1.size) (fun g hg => by simp at hg; omega)⟩, by simp [intOf]; omega⟩
      rw [List.map_append, Hm.out, take_snoc l k hlt]
      rfl
    · have hk' : k = l.length := by omega
      subst hk'
      rw [Nat.sub_self, List.replicate_zero, List.append_nil] at hown
      go_wp2
      go_ret
      rw [List.take_length] at hm
      have hB : Bld (Dt.list entryD) 197 wr w.heap.size (.slice (some ⟨w.heap.size, 0, none⟩) l.length l.length) rs := ⟨G, by rw [← hrl]; exact (by rw [hrl]; exact hown), hG, hGn, fun b hb' => ⟨Nat.le_of_lt (hGb b hb'), by simp [Value.ownBlock]; have := hGb b hb'; omega⟩⟩
      obtain ⟨F, h1, h2⟩ := hB.owl hm
      exact ⟨⟨some ⟨w.heap.size, 0, none⟩, l.length, l.length⟩, F, rfl, h1, h2, hb⟩


theorem markEntrySS_own (l : List (List Entry)) (s : Sl) (F : List Nat) (k : Int) (w : World) (hl : cntL cntEntryS l ≤ 2000000) (hk0 : 0 ≤ k) (hk1 : k ≤ 900000000) (h : OwL (Dt.list entryD) w F s.v l) :
    Calls Try.prog 150 #[.slice s.a s.n s.c, .int .i64 k] w (MkPost (Dt.list (Dt.list entryD)) F (mkL mkEntryS numEntryS k l) s (k + (numL numEntryS l : Nat)) w) := by
  obtain ⟨A, n, c⟩ := s
  obtain ⟨A', c', hv, -⟩ := h.form
  simp only [Sl.v, Value.slice.injEq] at hv
  obtain ⟨rfl, rfl, rfl⟩ := hv
  have hll : l.length ≤ 2000000 := Nat.le_trans (cntL_len _ _) hl
  have hnl : ∀ j, numL numEntryS (l.take j) ≤ 26000000 := fun j => by
    have h1 := numL_take_le numEntryS l j
    have h2 := numL_le (num := numEntryS) (cnt := cntEntryS) (K := 13) numEntryS_le l
    omega
  have hcc : ∀ k (hk : k < l.length), cntEntryS l[k] ≤ 2000000 := fun k hk => by have := cntL_mem (cnt := cntEntryS) (List.getElem_mem hk); omega
  have Hnl := Lib.hid hnl
  clear hnl hl
  go_enter Try.func150, Try.ntmps150
  go_wp2
  go_loopw [1, 5] (fun q i wr => ∃ (j : Nat) (m : Int), j ≤ l.length ∧ i = .int .i64 j ∧ q = .int .i64 m ∧ Hid (m = k + (numL numEntryS (l.take j) : Nat)) ∧ OwL (Dt.list entryD) wr F (.slice A l.length c) (mkL mkEntryS numEntryS k (l.take j) ++ l.drop j) ∧ Chg F w wr) (fun _ i _ => l.length - (intOf i).toNat)
  case atStart => exact ⟨0, k, Nat.zero_le _, rfl, rfl, by show k = _; simp [numL], h, Chg.refl _ _⟩
  case round =>
    obtain ⟨j, m, hj, rfl, rfl, hm, ho, hc⟩ := hrel
    have hm' := hm.out
    have hnj := Hnl.out j
    have hm0 : 0 ≤ m := by omega
    have hm1 : m ≤ 926000000 := by omega
    clear hm' hnj
    by_cases hlt : j < l.length
    · have hltI : (j : Int) < (l.length : Int) := by omega
      have hlen : (mkL mkEntryS numEntryS k (l.take j) ++ l.drop j).length = l.length := by simp [mkL_length]; omega
      obtain ⟨b, o, rs, s, G1, Fx, G2, rfl, hF, hrm, f0⟩ := ho.foc (j := j) (by rw [hlen]; exact hlt)
      rw [mkL_here mkEntryS numEntryS k l j hlt] at f0
      subst hF
      have Hrm := Lib.hid hrm
      clear hrm ho
      have c0 := f0.entryS
      have fr0 := f0.free
      have hce0 : cntL cntEntry l[j] ≤ 2000000 := by
        have := hcc j hlt
        unfold cntEntryS at this
        omega
      have hne0 : numL numEntry l[j] ≤ 26000000 := by
        have h2 := numL_le (num := numEntry) (cnt := cntEntry) (K := 13) numEntry_le l[j]
        omega
      go_wp2_with fail
      refine (markEntryS_own l[j] s Fx _ _ hce0 (by omega) (by omega) f0.here).mono ?_
      rintro e w1 ⟨rfl, o1, g1⟩
      have f1 := f0.sub (y := mkL mkEntry numEntry (m) l[j]) g1 o1 rfl
      have c1_0 := f1.entryS
      have fr1 := f1.free
      go_wp2
      have hmf := hm.out
      have hown := f1.owl Hrm.out
      have hval : mkL mkEntry numEntry (m) l[j] = mkEntryS m l[j] := rfl
      have hset := mkL_set mkEntryS numEntryS k l j hlt
      rw [← hm.out] at hset
      rw [hval, hset] at hown
      have hnum : (numL numEntryS (l.take (j + 1)) : Nat) = numL numEntryS (l.take j) + numEntryS l[j] := sum_take_succ _ _ _ hlt
      refine ⟨⟨j + 1, m + (numL numEntry l[j] : Nat), by omega, by go_num, rfl, ?_, hown, (hc).trans (g1.mono (fun _ hh => mem_here hh))⟩, by simp [intOf]; omega⟩
      have hun : numEntryS l[j] = numL numEntry l[j] := rfl
      show m + (numL numEntry l[j] : Nat) = _
      rw [hnum, hun]
      push_cast
      omega
    · have hj' : j = l.length := by omega
      subst hj'
      rw [List.take_length, List.drop_length, List.append_nil] at ho
      go_wp2
      go_ret
      refine ⟨ret_int ?_, ho, hc⟩
      rw [hm.out, List.take_length]


theorem heldEntrySS_own (l : List (List Entry)) (s : Sl) (k : Int) (w : World) (hl : cntL cntEntryS l ≤ 2000000) (hk0 : 0 ≤ k) (hk1 : k ≤ 900000000) (h : RdL (Dt.list entryD) w w.heap.size s.v (mkL mkEntryS numEntryS k l)) :
    Calls Try.prog 152 #[.slice s.a s.n s.c, .int .i64 k] w fun e w' => e = .returned (.int .i64 (k + (numL numEntryS l : Nat))) ∧ Below w.heap.size w w' := by
  obtain ⟨A, n, c⟩ := s
  obtain ⟨A', c', hv, -⟩ := h.form
  simp only [Sl.v, Value.slice.injEq, mkL_length] at hv
  obtain ⟨rfl, rfl, rfl⟩ := hv
  have hll : l.length ≤ 2000000 := Nat.le_trans (cntL_len _ _) hl
  have hnl : ∀ j, numL numEntryS (l.take j) ≤ 26000000 := fun j => by
    have h1 := numL_take_le numEntryS l j
    have h2 := numL_le (num := numEntryS) (cnt := cntEntryS) (K := 13) numEntryS_le l
    omega
  have hcc : ∀ k (hk : k < l.length), cntEntryS l[k] ≤ 2000000 := fun k hk => by have := cntL_mem (cnt := cntEntryS) (List.getElem_mem hk); omega
  have hcell : ∀ (wr : World) (j : Nat) (hj : j < l.length) (m : Int), Below w.heap.size w wr → m = k + (numL numEntryS (l.take j) : Nat) → ∃ b o, ∃ s : Sl, A = some ⟨b, o, none⟩ ∧ b < w.heap.size ∧ (Dt.list entryD).rd wr w.heap.size (mkEntryS m l[j]) s ∧ wr.cell? ⟨b, o + j, none⟩ = some (.slice s.a s.n s.c) := by
    intro wr j hj m hb hm
    obtain ⟨b, o, s, h1, h2, h3, h4⟩ := (h.below hb).entryS (k := j) (by rw [mkL_length]; exact hj)
    first | rw [mkL_get _ _ _ _ _ hj, ← hm] at h3 h4 | rw [mkL_get _ _ _ _ _ hj, ← hm] at h3
    exact ⟨b, o, s, h1, h2, h3, h4⟩
  have Hc := Lib.hid hcell
  have Hnl := Lib.hid hnl
  clear hcell hnl hl
  go_enter Try.func152, Try.ntmps152
  go_wp2
  go_loopw [1, 5] (fun q i wr => ∃ (j : Nat) (m : Int), j ≤ l.length ∧ i = .int .i64 j ∧ q = .int .i64 m ∧ Hid (m = k + (numL numEntryS (l.take j) : Nat)) ∧ Below w.heap.size w wr) (fun _ i _ => l.length - (intOf i).toNat)
  case atStart => exact ⟨0, k, Nat.zero_le _, rfl, rfl, by show k = _; simp [numL], Below.refl _ _⟩
  case round =>
    obtain ⟨j, m, hj, rfl, rfl, hm, hb⟩ := hrel
    have hm' := hm.out
    have hnj := Hnl.out j
    have hm0 : 0 ≤ m := by omega
    have hm1 : m ≤ 926000000 := by omega
    clear hm' hnj
    by_cases hlt : j < l.length
    · have hltI : (j : Int) < (l.length : Int) := by omega
      obtain ⟨b, o, s, rfl, hbb, hrd, c0⟩ := Hc.out wr j hlt m hb hm.out
      have hx : ∀ W, Below wr.heap.size wr W → (Dt.list entryD).rd W W.heap.size (mkEntryS m l[j]) s := fun W hW => (Dt.list entryD).rd_more ((Dt.list entryD).rd_below ((Dt.list entryD).rd_more hrd hb.size) hW) hW.size
      have hce0 : cntL cntEntry l[j] ≤ 2000000 := by
        have := hcc j hlt
        unfold cntEntryS at this
        omega
      have hne0 : numL numEntry l[j] ≤ 26000000 := by
        have h2 := numL_le (num := numEntry) (cnt := cntEntry) (K := 13) numEntry_le l[j]
        omega
      go_wp2_with fail
      refine (heldEntryS_own l[j] s _ _ hce0 (by omega) (by omega) (hx _ (by first | exact Below.refl _ _ | exact (Below.refl _ _).drew))).mono ?_
      rintro e v0 ⟨rfl, hb0⟩
      have B0 : Below wr.heap.size wr v0 := bnext (by first | exact Below.refl _ _ | exact (Below.refl _ _).drew) hb0
      obtain ⟨q0, p0⟩ := bcell B0
      have hbr0 := Nat.lt_of_lt_of_le hbb hb.size
      go_wp2
      have hnum : (numL numEntryS (l.take (j + 1)) : Nat) = numL numEntryS (l.take j) + numEntryS l[j] := sum_take_succ _ _ _ hlt
      refine ⟨⟨j + 1, m + (numL numEntry l[j] : Nat), by omega, by go_num, rfl, ?_, bnext hb B0⟩, by simp [intOf]; omega⟩
      have hun : numEntryS l[j] = numL numEntry l[j] := rfl
      have hmf := hm.out
      show m + (numL numEntry l[j] : Nat) = _
      rw [hnum, hun]
      push_cast
      omega
    · have hj' : j = l.length := by omega
      subst hj'
      go_wp2
      go_ret
      refine ⟨ret_int ?_, hb⟩
      rw [hm.out, List.take_length]

end Go.Proofs.Ytcapldjhcplfmaa
