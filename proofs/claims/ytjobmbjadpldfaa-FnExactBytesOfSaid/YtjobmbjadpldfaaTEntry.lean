/-
  Data of the type Entry: how it lies in memory, and the walks of the laws' helpers on it. Written by program (deep.py).
-/
import Derived.Test.YtjobmbjadpldfaaDp
namespace Go.Proofs.Ytjobmbjadpldfaa
open Go.RowKit
set_option maxRecDepth 100000
set_option maxHeartbeats 1000000
set_option linter.unusedVariables false
set_option linter.unusedSimpArgs false

structure Entry where
  prio : Int
  seq : Int
  run : Int
  task : Int
deriving DecidableEq, Inhabited

@[go_sem] abbrev entryW (x : Entry) (_s : Unit) : Value := .agg #[.int .i64 x.prio, .int .i64 x.seq, .int .i64 x.run, .int .i64 x.task]
abbrev entryD : Dt Entry := Dt.flat (fun q => [.int .i64 q.1.prio, .int .i64 q.1.seq, .int .i64 q.1.run, .int .i64 q.1.task]) 4 (fun _ => rfl) (fun q u hu => by simp at hu; rcases hu with rfl | rfl | rfl | rfl <;> rfl)
/-- all lengths in it together -/
def cntEntry (_ : Entry) : Nat := 0
/-- ints are int64, lengths are what a machine holds -/
def wfEntry (x : Entry) : Prop := Wf x.prio ∧ Wf x.seq ∧ Wf x.run ∧ Wf x.task
def numEntry (_ : Entry) : Nat := 4
/-- with the marks from k on -/
def mkEntry (k : Int) (_ : Entry) : Entry := ⟨k, k + 1, k + 1 + 1, k + 1 + 1 + 1⟩
theorem numEntry_le (x : Entry) : numEntry x ≤ 13 * (cntEntry x + 1) := by
  unfold numEntry cntEntry
  omega

theorem toEntry_own (x : Entry) (s : Unit) (w : World) (hl : cntEntry x ≤ 2000000) (h : entryD.rd w w.heap.size x s) :
    Calls Try.prog 96 #[entryW x s] w (OwnPost entryD entryW x w) := by
  have hbx : ∀ W, Below w.heap.size w W → entryD.rd W W.heap.size x s := fun W hW => entryD.rd_more (entryD.rd_below h hW) hW.size
  go_enter Try.func96, Try.ntmps96
  go_wp2
  refine bodyPost_ret (v := entryW x ()) ?_ rfl ?_
  · simp [entryW, results, Try.results96, go_sem]
  · exact ⟨(), [], rfl, rfl, (fun _ h => by cases h), by repeat (first | (with_reducible exact Below.refl _ _) | refine Below.setCell ?_ (by simp <;> omega) _ | refine Below.alloc ?_ (by simp <;> omega) _)⟩

theorem eqEntry_own (x y : Entry) (s r : Unit) (w : World) (hl : cntEntry x ≤ 2000000) (hl' : cntEntry y ≤ 2000000) (h : entryD.rd w w.heap.size x s) (h' : entryD.rd w w.heap.size y r) :
    Calls Try.prog 100 #[entryW x s, entryW y r] w fun e w' => e = .returned (.bool (decide (x = y))) ∧ Below w.heap.size w w' := by
  have hbx : ∀ W, Below w.heap.size w W → entryD.rd W W.heap.size x s := fun W hW => entryD.rd_more (entryD.rd_below h hW) hW.size
  have hby : ∀ W, Below w.heap.size w W → entryD.rd W W.heap.size y r := fun W hW => entryD.rd_more (entryD.rd_below h' hW) hW.size
  by_cases h0 : x.prio = y.prio
  case neg =>
    have t0 : (x.prio != y.prio) = true := by rw [bne_iff_ne]; exact h0
    have H := Lib.hid (show decide (x = y) = false by simp only [decide_eq_false_iff_not]; intro e; exact h0 (by rw [e]))
    clear h0
    go_enter Try.func100, Try.ntmps100
    go_wp2
    go_ret
    exact ⟨ret_bool (by first | exact H.out.symm | rfl), by repeat (first | exact Below.refl _ _ | refine Below.alloc ?_ (by simp <;> omega) _)⟩
  have t0 : (x.prio != y.prio) = false := by simp [h0]
  have H0 := Lib.hid h0
  clear h0
  by_cases h1 : x.seq = y.seq
  case neg =>
    have t1 : (x.seq != y.seq) = true := by rw [bne_iff_ne]; exact h1
    have H := Lib.hid (show decide (x = y) = false by simp only [decide_eq_false_iff_not]; intro e; exact h1 (by rw [e]))
    clear h1
    go_enter Try.func100, Try.ntmps100
    go_wp2
    go_ret
    exact ⟨ret_bool (by first | exact H.out.symm | rfl), by repeat (first | exact Below.refl _ _ | refine Below.alloc ?_ (by simp <;> omega) _)⟩
  have t1 : (x.seq != y.seq) = false := by simp [h1]
  have H1 := Lib.hid h1
  clear h1
  by_cases h2 : x.run = y.run
  case neg =>
    have t2 : (x.run != y.run) = true := by rw [bne_iff_ne]; exact h2
    have H := Lib.hid (show decide (x = y) = false by simp only [decide_eq_false_iff_not]; intro e; exact h2 (by rw [e]))
    clear h2
    go_enter Try.func100, Try.ntmps100
    go_wp2
    go_ret
    exact ⟨ret_bool (by first | exact H.out.symm | rfl), by repeat (first | exact Below.refl _ _ | refine Below.alloc ?_ (by simp <;> omega) _)⟩
  have t2 : (x.run != y.run) = false := by simp [h2]
  have H2 := Lib.hid h2
  clear h2
  by_cases h3 : x.task = y.task
  case neg =>
    have t3 : (x.task != y.task) = true := by rw [bne_iff_ne]; exact h3
    have H := Lib.hid (show decide (x = y) = false by simp only [decide_eq_false_iff_not]; intro e; exact h3 (by rw [e]))
    clear h3
    go_enter Try.func100, Try.ntmps100
    go_wp2
    go_ret
    exact ⟨ret_bool (by first | exact H.out.symm | rfl), by repeat (first | exact Below.refl _ _ | refine Below.alloc ?_ (by simp <;> omega) _)⟩
  have t3 : (x.task != y.task) = false := by simp [h3]
  have H3 := Lib.hid h3
  clear h3
  have H := Lib.hid (show decide (x = y) = true by
    simp only [decide_eq_true_eq]
    have hh := And.intro H0.out (And.intro H1.out (And.intro H2.out H3.out))
    obtain ⟨e0, e1, e2, e3⟩ := hh
    cases x
    cases y
    simp only at e0 e1 e2 e3
    subst e0 e1 e2 e3
    rfl)
  go_enter Try.func100, Try.ntmps100
  go_wp2
  go_ret
  exact ⟨ret_bool (by first | exact H.out.symm | rfl), by repeat (first | exact Below.refl _ _ | refine Below.alloc ?_ (by simp <;> omega) _)⟩

theorem RdL.entry {w : World} {B : Nat} {A : Option Addr} {n c : Nat} {l : List (Entry)} (h : RdL entryD w B (.slice A n c) l) {k : Nat} (hk : k < l.length) :
    ∃ b o, ∃ _s : Unit, A = some ⟨b, o, none⟩ ∧ b < B ∧ entryD.rd w B l[k] _s ∧ w.cell? ⟨b, o + k * 4, none⟩ = some (.int .i64 l[k].prio) ∧ w.cell? ⟨b, o + k * 4 + 1, none⟩ = some (.int .i64 l[k].seq) ∧ w.cell? ⟨b, o + k * 4 + 2, none⟩ = some (.int .i64 l[k].run) ∧ w.cell? ⟨b, o + k * 4 + 3, none⟩ = some (.int .i64 l[k].task) := by
  obtain ⟨b, o, s, rfl, hb, hc, hr⟩ := h.at_ k hk
  exact ⟨b, o, s, rfl, hb, hr, hc 0 _ rfl, hc 1 _ rfl, hc 2 _ rfl, hc 3 _ rfl⟩
theorem Ow.c_entry {E : TypeId} {w : World} {base g n cap : Nat} {l : List ((Entry) × Unit)} (h : Ow entryD.enc E w base (.slice (some ⟨g, 0, none⟩) n cap) l) {k : Nat} (hk : k < l.length) :
    w.cell? ⟨g, k * 4, none⟩ = some (.int .i64 l[k].1.prio) ∧ w.cell? ⟨g, k * 4 + 1, none⟩ = some (.int .i64 l[k].1.seq) ∧ w.cell? ⟨g, k * 4 + 2, none⟩ = some (.int .i64 l[k].1.run) ∧ w.cell? ⟨g, k * 4 + 3, none⟩ = some (.int .i64 l[k].1.task) := by
  rcases h.form with ⟨h1, _⟩ | ⟨g', cap', hv, _, _, _, _, _, hc⟩
  · simp at h1
  · simp only [Value.slice.injEq, Option.some.injEq, Addr.mk.injEq, and_true] at hv
    obtain ⟨rfl, _, _⟩ := hv
    exact ⟨hc k hk 0 _ rfl, hc k hk 1 _ rfl, hc k hk 2 _ rfl, hc k hk 3 _ rfl⟩
theorem Foc.entry {w : World} {b o n c j : Nat} {rs : List ((Entry) × Unit)} {G1 Fx G2 : List Nat} {x : Entry} {s : Unit} (h : Foc entryD w b o n c rs j G1 Fx G2 x s) :
    w.cell? ⟨b, o + j * 4, none⟩ = some (.int .i64 x.prio) ∧ w.cell? ⟨b, o + j * 4 + 1, none⟩ = some (.int .i64 x.seq) ∧ w.cell? ⟨b, o + j * 4 + 2, none⟩ = some (.int .i64 x.run) ∧ w.cell? ⟨b, o + j * 4 + 3, none⟩ = some (.int .i64 x.task) := ⟨h.cells 0 _ rfl, h.cells 1 _ rfl, h.cells 2 _ rfl, h.cells 3 _ rfl⟩

theorem szEntryS_own (l : List (Entry)) (s : Sl) (left : Int) (w : World) (h0 : 0 ≤ left) (h1 : left ≤ 2000000) (hw : wfL wfEntry l) (h : RdL entryD w w.heap.size s.v l) :
    Calls Try.prog 66 #[.slice s.a s.n s.c, .int .i64 left] w (SzPost left (cntL cntEntry l) w) := by
  obtain ⟨A, n, c⟩ := s
  obtain ⟨A', c', hv, -⟩ := h.form
  simp only [Sl.v, Value.slice.injEq] at hv
  obtain ⟨rfl, rfl, rfl⟩ := hv
  have hll := hw.1
  by_cases hlt : left < l.length
  · go_enter Try.func66, Try.ntmps66
    go_wp2
    go_ret
    exact ⟨-1, rfl, .inl rfl, Below.refl _ _⟩
  go_enter Try.func66, Try.ntmps66
  go_wp2
  go_ret
  exact ⟨_, rfl, .inr ⟨by omega, by rw [cntL_zero (cnt := cntEntry) (fun _ => rfl) l]; omega⟩, Below.refl _ _⟩

theorem eqEntryS_own (l l' : List (Entry)) (s s' : Sl) (w : World) (hl : cntL cntEntry l ≤ 2000000) (hl' : cntL cntEntry l' ≤ 2000000) (h : RdL entryD w w.heap.size s.v l) (h' : RdL entryD w w.heap.size s'.v l') :
    Calls Try.prog 77 #[.slice s.a s.n s.c, .slice s'.a s'.n s'.c] w fun e w' => e = .returned (.bool (decide (l = l'))) ∧ Below w.heap.size w w' := by
  obtain ⟨A, n, c⟩ := s
  obtain ⟨A0, c0, hv, -⟩ := h.form
  simp only [Sl.v, Value.slice.injEq] at hv
  obtain ⟨rfl, rfl, rfl⟩ := hv
  obtain ⟨A', n', c'⟩ := s'
  obtain ⟨A0, c0, hv, -⟩ := h'.form
  simp only [Sl.v, Value.slice.injEq] at hv
  obtain ⟨rfl, rfl, rfl⟩ := hv
  have hll : l.length ≤ 2000000 := Nat.le_trans (cntL_len _ _) hl
  have hll' : l'.length ≤ 2000000 := Nat.le_trans (cntL_len _ _) hl'
  have hcc : ∀ k (hk : k < l.length), cntEntry l[k] ≤ 2000000 := fun k hk => by have := cntL_mem (cnt := cntEntry) (List.getElem_mem hk); omega
  have hcc' : ∀ k (hk : k < l'.length), cntEntry l'[k] ≤ 2000000 := fun k hk => by have := cntL_mem (cnt := cntEntry) (List.getElem_mem hk); omega
  clear hl hl'
  by_cases hne : l.length = l'.length
  · have hb0 : ((l.length : Int) != (l'.length : Int)) = false := by simp [hne]
    have Hne := Lib.hid hne
    clear hne
    go_enter Try.func77, Try.ntmps77
    go_wp2
    go_loopw [5] (fun i wr => ∃ k : Nat, k ≤ l.length ∧ i = .int .i64 k ∧ Hid (l.take k = l'.take k) ∧ Below w.heap.size w wr) (fun i _ => l.length - (intOf i).toNat)
    case atStart => exact ⟨0, Nat.zero_le _, rfl, rfl, Below.refl _ _⟩
    case round =>
      obtain ⟨k, hk, rfl, heq, hb⟩ := hrel
      by_cases hlt : k < l.length
      · have hlt' : k < l'.length := by rw [← Hne.out]; exact hlt
        obtain ⟨b, o, s, rfl, hbb, hr, c0, c1, c2, c3⟩ := (h.below hb).entry hlt
        obtain ⟨b', o', s', rfl, hbb', hr', d0, d1, d2, d3⟩ := (h'.below hb).entry hlt'
        have hx : ∀ W, Below wr.heap.size wr W → entryD.rd W W.heap.size l[k] s := fun W hW => entryD.rd_more (entryD.rd_below (entryD.rd_more hr hb.size) hW) hW.size
        have hx' : ∀ W, Below wr.heap.size wr W → entryD.rd W W.heap.size l'[k] s' := fun W hW => entryD.rd_more (entryD.rd_below (entryD.rd_more hr' hb.size) hW) hW.size
        go_wp2
        go_still_tail 8, (by kernel_rfl)
        go_wp2_with (go_at_call 100; refine (eqEntry_own l[k] l'[k] s s' _ (hcc k hlt) (hcc' k hlt') (hx _ (by first | exact Below.refl _ _ | exact (Below.refl _ _).drew)) (hx' _ (by first | exact Below.refl _ _ | exact (Below.refl _ _).drew))).mono ?_; rintro e w1 ⟨rfl, hb1⟩)
        · rename_i hd
          go_ret
          refine ⟨ret_bool ?_, (hb.drew).trans (hb1.mono hb.size)⟩
          simp only [Bool.false_eq, decide_eq_false_iff_not]
          intro e
          subst e
          simp at hd
        · rename_i hd
          refine ⟨⟨k + 1, by omega, by go_num, ?_, (hb.drew).trans (hb1.mono hb.size)⟩, by simp [intOf]; omega⟩
          show List.take (k + 1) l = List.take (k + 1) l'
          rw [take_snoc l k hlt, take_snoc l' k hlt', heq.out]
          simp at hd
          rw [hd]
      · go_wp2
        go_ret
        refine ⟨ret_bool ?_, hb⟩
        have h1 := heq.out
        rw [List.take_of_length_le (by omega), List.take_of_length_le (by rw [← Hne.out]; omega)] at h1
        simp [h1]
  · have hb0 : ((l.length : Int) != (l'.length : Int)) = true := by simp; omega
    go_enter Try.func77, Try.ntmps77
    go_wp2
    go_ret
    refine ⟨ret_bool ?_, Below.refl _ _⟩
    simp only [Bool.false_eq, decide_eq_false_iff_not]
    intro e
    exact hne (by rw [e])


theorem entry_infoD : (Try.prog.info? 99).map (fun i => (i.zero, i.size, i.bytes)) = some (some (.agg #[.int .i64 0, .int .i64 0, .int .i64 0, .int .i64 0]), 4, 32) := by kernel_rfl

theorem toEntryS_own (l : List (Entry)) (s : Sl) (w : World) (hl : cntL cntEntry l ≤ 2000000) (h : RdL entryD w w.heap.size s.v l) :
    Calls Try.prog 69 #[.slice s.a s.n s.c] w (OwnPost (Dt.list entryD) slV l w) := by
  obtain ⟨A, n, c⟩ := s
  obtain ⟨A', c', hv, -⟩ := h.form
  simp only [Sl.v, Value.slice.injEq] at hv
  obtain ⟨rfl, rfl, rfl⟩ := hv
  have hll : l.length ≤ 2000000 := Nat.le_trans (cntL_len _ _) hl
  have hcc : ∀ k (hk : k < l.length), cntEntry l[k] ≤ 2000000 := fun k hk => by have := cntL_mem (cnt := cntEntry) (List.getElem_mem hk); omega
  clear hl
  obtain ⟨i0, hi0, hz0, hz1, hz2⟩ := info_parts entry_infoD
  have hmk : ∀ w : World, (Instr.makeSlice 97 (.int .i64 (l.length : Int)) (.int .i64 (l.length : Int))).run Try.prog w = .ok (.slice (some ⟨w.heap.size, 0, none⟩) l.length l.length) (w.alloc (.cells (madeCells #[.int .i64 0, .int .i64 0, .int .i64 0, .int .i64 0] (l.length * 4)) 99)) := by
    intro w
    have := run_make (P := Try.prog) w 97 99 i0 _ Try.underlying97 hi0 hz0 .i64 .i64 l.length l.length (by omega) (by omega) (by rw [hz2]; omega) (by omega)
    rw [hz1] at this
    simpa [Value.cells] using this
  go_enter Try.func69, Try.ntmps69
  go_wp2
  go_loopw [4] (fun i wr => ∃ k : Nat, k ≤ l.length ∧ i = .int .i64 k ∧ Hid (∃ (rs : List ((Entry) × Unit)) (G : List Nat), rs.map (·.1) = l.take k ∧ Ow entryD.enc 99 wr w.heap.size (.slice (some ⟨w.heap.size, 0, none⟩) l.length l.length) (rs ++ List.replicate (l.length - k) (⟨0, 0, 0, 0⟩, ())) ∧ Ows entryD wr G rs ∧ G.Nodup ∧ ∀ b ∈ G, w.heap.size < b) ∧ Below w.heap.size w wr) (fun i _ => l.length - (intOf i).toNat)
  case atStart => exact ⟨0, Nat.zero_le _, rfl, ⟨[], [], rfl, by rw [List.nil_append, Nat.sub_zero]; exact Ow.made entryD.enc 99 w (⟨0, 0, 0, 0⟩, ()) l.length (by decide) (by simp [maxLen]; omega) rfl rfl, .nil, List.nodup_nil, fun _ h => by cases h⟩, (Below.refl _ _).alloc (Nat.le_refl _) _⟩
  case round =>
    obtain ⟨k, hk, rfl, ⟨rs, G, hm, hown, hG, hGn, hGb⟩, hb⟩ := hrel
    have hrl : rs.length = k := by have := congrArg List.length hm; simpa [Nat.min_eq_left hk] using this
    by_cases hlt : k < l.length
    · obtain ⟨b, o, s, rfl, hbb, hr, c0, c1, c2, c3⟩ := (h.below hb).entry hlt
      have hx : ∀ W, Below wr.heap.size wr W → entryD.rd W W.heap.size l[k] s := fun W hW => entryD.rd_more (entryD.rd_below (entryD.rd_more hr hb.size) hW) hW.size
      have hlen : (rs ++ List.replicate (l.length - k) ((⟨0, 0, 0, 0⟩, ()) : (Entry) × Unit)).length = l.length := by simp; omega
      have Hm := Lib.hid hm
      have Hrl := Lib.hid hrl
      clear hm hrl
      go_wp2_with (go_at_call 96; refine (toEntry_own l[k] s _ (hcc k hlt) (hx _ (by first | exact Below.refl _ _ | exact (Below.refl _ _).drew))).mono ?_; rintro e w1 ⟨s1, F1, rfl, o1, n1, hb1⟩; have hown1 := hown.below hb1; have hf := hown1.free; obtain ⟨d0, d1, d2, d3⟩ := hown1.c_entry (k := k) (by rw [hlen]; exact hlt))
      have hp := Ow.put hown1 hlen k hlt (l[k], s1)
      have Hp := Bld.lay hG hGn hGb hb1 (r := (l[k], s1)) o1 n1 (Nat.lt_of_lt_of_le (hown.blk).2 (Nat.le_refl _)) hp.2
      rw [mix_snoc rs _ k l.length Hrl.out hlt] at hp
      refine ⟨⟨k + 1, by omega, by go_num, ⟨rs ++ [(l[k], s1)], G ++ F1, ?_, hp.1, Hp.1, Hp.2.1, Hp.2.2⟩, (hb.trans (hb1.mono hb.size)).grown hp.2 (Nat.le_trans hb.size hb1.size) (fun g hg => by simp at hg; omega)⟩, by simp [intOf]; omega⟩
      rw [List.map_append, Hm.out, take_snoc l k hlt]
      rfl
    · have hk' : k = l.length := by omega
      subst hk'
      rw [Nat.sub_self, List.replicate_zero, List.append_nil] at hown
      go_wp2
      go_ret
      rw [List.take_length] at hm
      have hB : Bld entryD 99 wr w.heap.size (.slice (some ⟨w.heap.size, 0, none⟩) l.length l.length) rs := ⟨G, by rw [← hrl]; exact (by rw [hrl]; exact hown), hG, hGn, fun b hb' => ⟨Nat.le_of_lt (hGb b hb'), by simp [Value.ownBlock]; have := hGb b hb'; omega⟩⟩
      obtain ⟨F, h1, h2⟩ := hB.owl hm
      exact ⟨⟨some ⟨w.heap.size, 0, none⟩, l.length, l.length⟩, F, rfl, h1, h2, hb⟩


def cntEntryS (x : List Entry) : Nat := cntL cntEntry x
def wfEntryS (x : List Entry) : Prop := wfL wfEntry x
def numEntryS (x : List Entry) : Nat := numL numEntry x
def mkEntryS (k : Int) (x : List Entry) : List Entry := mkL mkEntry numEntry k x
theorem numEntryS_le (x : List Entry) : numEntryS x ≤ 13 * (cntEntryS x + 1) := by
  have h := numL_le (num := numEntry) (cnt := cntEntry) (K := 13) numEntry_le x
  unfold numEntryS cntEntryS
  omega

theorem RdL.entryS {w : World} {B : Nat} {A : Option Addr} {n c : Nat} {l : List (List Entry)} (h : RdL (Dt.list entryD) w B (.slice A n c) l) {k : Nat} (hk : k < l.length) :
    ∃ b o, ∃ s : Sl, A = some ⟨b, o, none⟩ ∧ b < B ∧ (Dt.list entryD).rd w B l[k] s ∧ w.cell? ⟨b, o + k, none⟩ = some (.slice s.a s.n s.c) := by
  obtain ⟨b, o, s, rfl, hb, hc, hr⟩ := h.at_ k hk
  exact ⟨b, o, s, rfl, hb, hr, (by have hh := hc 0 _ rfl; rw [show k * (Dt.list entryD).enc.sz = k from Nat.mul_one k] at hh; exact hh)⟩
theorem Ow.c_entryS {E : TypeId} {w : World} {base g n cap : Nat} {l : List ((List Entry) × Sl)} (h : Ow (Dt.list entryD).enc E w base (.slice (some ⟨g, 0, none⟩) n cap) l) {k : Nat} (hk : k < l.length) :
    w.cell? ⟨g, k, none⟩ = some (.slice l[k].2.a l[k].2.n l[k].2.c) := by
  rcases h.form with ⟨h1, _⟩ | ⟨g', cap', hv, _, _, _, _, _, hc⟩
  · simp at h1
  · simp only [Value.slice.injEq, Option.some.injEq, Addr.mk.injEq, and_true] at hv
    obtain ⟨rfl, _, _⟩ := hv
    exact (by have hh := hc k hk 0 _ rfl; rw [show k * (Dt.list entryD).enc.sz = k from Nat.mul_one k] at hh; exact hh)
theorem Foc.entryS {w : World} {b o n c j : Nat} {rs : List ((List Entry) × Sl)} {G1 Fx G2 : List Nat} {x : List Entry} {s : Sl} (h : Foc (Dt.list entryD) w b o n c rs j G1 Fx G2 x s) :
    w.cell? ⟨b, o + j, none⟩ = some (.slice s.a s.n s.c) := (by have hh := h.cells 0 _ rfl; rw [show j * (Dt.list entryD).enc.sz = j from Nat.mul_one j] at hh; exact hh)

theorem szEntrySS_own (l : List (List Entry)) (s : Sl) (left : Int) (w : World) (h0 : 0 ≤ left) (h1 : left ≤ 2000000) (hw : wfL wfEntryS l) (h : RdL (Dt.list entryD) w w.heap.size s.v l) :
    Calls Try.prog 41 #[.slice s.a s.n s.c, .int .i64 left] w (SzPost left (cntL cntEntryS l) w) := by
  obtain ⟨A, n, c⟩ := s
  obtain ⟨A', c', hv, -⟩ := h.form
  simp only [Sl.v, Value.slice.injEq] at hv
  obtain ⟨rfl, rfl, rfl⟩ := hv
  have hll := hw.1
  by_cases hlt : left < l.length
  · go_enter Try.func41, Try.ntmps41
    go_wp2
    go_ret
    exact ⟨-1, rfl, .inl rfl, Below.refl _ _⟩
  have Hw := Lib.hid hw
  clear hw
  go_enter Try.func41, Try.ntmps41
  go_wp2
  go_loopw [1, 5] (fun t i wr => ∃ k : Nat, ∃ m : Int, k ≤ l.length ∧ i = .int .i64 k ∧ t = .int .i64 m ∧ 0 ≤ m ∧ m + l.length + (((l.take k).map cntEntryS).sum : Nat) ≤ left ∧ Below w.heap.size w wr) (fun _ i _ => l.length - (intOf i).toNat)
  case atStart => exact ⟨0, _, Nat.zero_le _, rfl, rfl, by omega, by simp <;> omega, Below.refl _ _⟩
  case round =>
    obtain ⟨k, m, hk, rfl, rfl, m0, m1, hb⟩ := hrel
    by_cases hlt : k < l.length
    · obtain ⟨b, o, s, rfl, hbb, hr, c0⟩ := (h.below hb).entryS hlt
      have hx : ∀ W, Below wr.heap.size wr W → (Dt.list entryD).rd W W.heap.size l[k] s := fun W hW => (Dt.list entryD).rd_more ((Dt.list entryD).rd_below ((Dt.list entryD).rd_more hr hb.size) hW) hW.size
      have hwk : wfEntryS l[k] := Hw.out.2 _ (List.getElem_mem hlt)
      have M1 := Lib.hid m1
      have m2 : m ≤ 2000000 := by omega
      clear m1
      go_wp2_with fail
      refine (szEntryS_own l[k] s m _ m0 m2 hwk (hx _ (by first | exact Below.refl _ _ | exact (Below.refl _ _).drew))).mono ?_
      rintro e w1 ⟨r, rfl, hr, hb1⟩
      rcases hr with rfl | ⟨r0, r1⟩
      · go_wp2
        go_ret
        exact ⟨-1, rfl, .inl rfl, bnext hb hb1⟩
      · go_wp2
        refine ⟨⟨k + 1, r, by omega, by go_num, rfl, r0, ?_, bnext hb hb1⟩, by simp [intOf]; omega⟩
        have M2 := M1.out
        have r2 : r + (cntEntryS l[k] : Nat) ≤ m := r1
        rw [sum_take_succ _ _ _ hlt]
        push_cast
        omega
    · go_wp2
      go_ret
      refine ⟨_, rfl, .inr ⟨by omega, ?_⟩, hb⟩
      rw [List.take_of_length_le (by omega)] at m1
      unfold cntL
      push_cast
      omega

theorem eqEntrySS_own (l l' : List (List Entry)) (s s' : Sl) (w : World) (hl : cntL cntEntryS l ≤ 2000000) (hl' : cntL cntEntryS l' ≤ 2000000) (h : RdL (Dt.list entryD) w w.heap.size s.v l) (h' : RdL (Dt.list entryD) w w.heap.size s'.v l') :
    Calls Try.prog 50 #[.slice s.a s.n s.c, .slice s'.a s'.n s'.c] w fun e w' => e = .returned (.bool (decide (l = l'))) ∧ Below w.heap.size w w' := by
  obtain ⟨A, n, c⟩ := s
  obtain ⟨A0, c0, hv, -⟩ := h.form
  simp only [Sl.v, Value.slice.injEq] at hv
  obtain ⟨rfl, rfl, rfl⟩ := hv
  obtain ⟨A', n', c'⟩ := s'
  obtain ⟨A0, c0, hv, -⟩ := h'.form
  simp only [Sl.v, Value.slice.injEq] at hv
  obtain ⟨rfl, rfl, rfl⟩ := hv
  have hll : l.length ≤ 2000000 := Nat.le_trans (cntL_len _ _) hl
  have hll' : l'.length ≤ 2000000 := Nat.le_trans (cntL_len _ _) hl'
  have hcc : ∀ k (hk : k < l.length), cntEntryS l[k] ≤ 2000000 := fun k hk => by have := cntL_mem (cnt := cntEntryS) (List.getElem_mem hk); omega
  have hcc' : ∀ k (hk : k < l'.length), cntEntryS l'[k] ≤ 2000000 := fun k hk => by have := cntL_mem (cnt := cntEntryS) (List.getElem_mem hk); omega
  clear hl hl'
  by_cases hne : l.length = l'.length
  · have hb0 : ((l.length : Int) != (l'.length : Int)) = false := by simp [hne]
    have Hne := Lib.hid hne
    clear hne
    go_enter Try.func50, Try.ntmps50
    go_wp2
    go_loopw [5] (fun i wr => ∃ k : Nat, k ≤ l.length ∧ i = .int .i64 k ∧ Hid (l.take k = l'.take k) ∧ Below w.heap.size w wr) (fun i _ => l.length - (intOf i).toNat)
    case atStart => exact ⟨0, Nat.zero_le _, rfl, rfl, Below.refl _ _⟩
    case round =>
      obtain ⟨k, hk, rfl, heq, hb⟩ := hrel
      by_cases hlt : k < l.length
      · have hlt' : k < l'.length := by rw [← Hne.out]; exact hlt
        obtain ⟨b, o, s, rfl, hbb, hr, c0⟩ := (h.below hb).entryS hlt
        obtain ⟨b', o', s', rfl, hbb', hr', d0⟩ := (h'.below hb).entryS hlt'
        have hx : ∀ W, Below wr.heap.size wr W → (Dt.list entryD).rd W W.heap.size l[k] s := fun W hW => (Dt.list entryD).rd_more ((Dt.list entryD).rd_below ((Dt.list entryD).rd_more hr hb.size) hW) hW.size
        have hx' : ∀ W, Below wr.heap.size wr W → (Dt.list entryD).rd W W.heap.size l'[k] s' := fun W hW => (Dt.list entryD).rd_more ((Dt.list entryD).rd_below ((Dt.list entryD).rd_more hr' hb.size) hW) hW.size
        go_wp2
        go_still_tail 8, (by kernel_rfl)
        go_wp2_with (go_at_call 77; refine (eqEntryS_own l[k] l'[k] s s' _ (hcc k hlt) (hcc' k hlt') (hx _ (by first | exact Below.refl _ _ | exact (Below.refl _ _).drew)) (hx' _ (by first | exact Below.refl _ _ | exact (Below.refl _ _).drew))).mono ?_; rintro e w1 ⟨rfl, hb1⟩)
        · rename_i hd
          go_ret
          refine ⟨ret_bool ?_, (hb.drew).trans (hb1.mono hb.size)⟩
          simp only [Bool.false_eq, decide_eq_false_iff_not]
          intro e
          subst e
          simp at hd
        · rename_i hd
          refine ⟨⟨k + 1, by omega, by go_num, ?_, (hb.drew).trans (hb1.mono hb.size)⟩, by simp [intOf]; omega⟩
          show List.take (k + 1) l = List.take (k + 1) l'
          rw [take_snoc l k hlt, take_snoc l' k hlt', heq.out]
          simp at hd
          rw [hd]
      · go_wp2
        go_ret
        refine ⟨ret_bool ?_, hb⟩
        have h1 := heq.out
        rw [List.take_of_length_le (by omega), List.take_of_length_le (by rw [← Hne.out]; omega)] at h1
        simp [h1]
  · have hb0 : ((l.length : Int) != (l'.length : Int)) = true := by simp; omega
    go_enter Try.func50, Try.ntmps50
    go_wp2
    go_ret
    refine ⟨ret_bool ?_, Below.refl _ _⟩
    simp only [Bool.false_eq, decide_eq_false_iff_not]
    intro e
    exact hne (by rw [e])


theorem entryS_infoD : (Try.prog.info? 97).map (fun i => (i.zero, i.size, i.bytes)) = some (some (.slice none 0 0), 1, 24) := by kernel_rfl

theorem toEntrySS_own (l : List (List Entry)) (s : Sl) (w : World) (hl : cntL cntEntryS l ≤ 2000000) (h : RdL (Dt.list entryD) w w.heap.size s.v l) :
    Calls Try.prog 45 #[.slice s.a s.n s.c] w (OwnPost (Dt.list (Dt.list entryD)) slV l w) := by
  obtain ⟨A, n, c⟩ := s
  obtain ⟨A', c', hv, -⟩ := h.form
  simp only [Sl.v, Value.slice.injEq] at hv
  obtain ⟨rfl, rfl, rfl⟩ := hv
  have hll : l.length ≤ 2000000 := Nat.le_trans (cntL_len _ _) hl
  have hcc : ∀ k (hk : k < l.length), cntEntryS l[k] ≤ 2000000 := fun k hk => by have := cntL_mem (cnt := cntEntryS) (List.getElem_mem hk); omega
  clear hl
  obtain ⟨i0, hi0, hz0, hz1, hz2⟩ := info_parts entryS_infoD
  have hmk : ∀ w : World, (Instr.makeSlice 44 (.int .i64 (l.length : Int)) (.int .i64 (l.length : Int))).run Try.prog w = .ok (.slice (some ⟨w.heap.size, 0, none⟩) l.length l.length) (w.alloc (.cells (madeCells #[.slice none 0 0] l.length) 97)) := by
    intro w
    have := run_make (P := Try.prog) w 44 97 i0 _ Try.underlying44 hi0 hz0 .i64 .i64 l.length l.length (by omega) (by omega) (by rw [hz2]; omega) (by omega)
    rw [hz1] at this
    simpa [Value.cells] using this
  go_enter Try.func45, Try.ntmps45
  go_wp2
  go_loopw [4] (fun i wr => ∃ k : Nat, k ≤ l.length ∧ i = .int .i64 k ∧ Hid (∃ (rs : List ((List Entry) × Sl)) (G : List Nat), rs.map (·.1) = l.take k ∧ Ow (Dt.list entryD).enc 97 wr w.heap.size (.slice (some ⟨w.heap.size, 0, none⟩) l.length l.length) (rs ++ List.replicate (l.length - k) ([], ⟨none, 0, 0⟩)) ∧ Ows (Dt.list entryD) wr G rs ∧ G.Nodup ∧ ∀ b ∈ G, w.heap.size < b) ∧ Below w.heap.size w wr) (fun i _ => l.length - (intOf i).toNat)
  case atStart => exact ⟨0, Nat.zero_le _, rfl, ⟨[], [], rfl, by rw [List.nil_append, Nat.sub_zero]; exact Ow.made (Dt.list entryD).enc 97 w ([], ⟨none, 0, 0⟩) l.length (by decide) (by simp [maxLen]; omega) rfl (Nat.mul_one _).symm, .nil, List.nodup_nil, fun _ h => by cases h⟩, (Below.refl _ _).alloc (Nat.le_refl _) _⟩
  case round =>
    obtain ⟨k, hk, rfl, ⟨rs, G, hm, hown, hG, hGn, hGb⟩, hb⟩ := hrel
    have hrl : rs.length = k := by have := congrArg List.length hm; simpa [Nat.min_eq_left hk] using this
    by_cases hlt : k < l.length
    · obtain ⟨b, o, s, rfl, hbb, hr, c0⟩ := (h.below hb).entryS hlt
      have hx : ∀ W, Below wr.heap.size wr W → (Dt.list entryD).rd W W.heap.size l[k] s := fun W hW => (Dt.list entryD).rd_more ((Dt.list entryD).rd_below ((Dt.list entryD).rd_more hr hb.size) hW) hW.size
      have hlen : (rs ++ List.replicate (l.length - k) (([], ⟨none, 0, 0⟩) : (List Entry) × Sl)).length = l.length := by simp; omega
      have Hm := Lib.hid hm
      have Hrl := Lib.hid hrl
      clear hm hrl
      go_wp2_with (go_at_call 69; refine (toEntryS_own l[k] s _ (hcc k hlt) (hx _ (by first | exact Below.refl _ _ | exact (Below.refl _ _).drew))).mono ?_; rintro e w1 ⟨s1, F1, rfl, o1, n1, hb1⟩; have hown1 := hown.below hb1; have hf := hown1.free; have d0 := hown1.c_entryS (k := k) (by rw [hlen]; exact hlt))
      have hp := Ow.put hown1 hlen k hlt (l[k], s1)
      rw [show k * (Dt.list entryD).enc.sz = k from Nat.mul_one k] at hp
      have Hp := Bld.lay hG hGn hGb hb1 (r := (l[k], s1)) o1 n1 (Nat.lt_of_lt_of_le (hown.blk).2 (Nat.le_refl _)) hp.2
      rw [mix_snoc rs _ k l.length Hrl.out hlt] at hp
      refine ⟨⟨k + 1, by omega, by go_num, ⟨rs ++ [(l[k], s1)], G ++ F1, ?_, hp.1, Hp.1, Hp.2.1, Hp.2.2⟩, (hb.trans (hb1.mono hb.size)).grown hp.2 (Nat.le_trans hb.size hb1.size) (fun g hg => by simp at hg; omega)⟩, by simp [intOf]; omega⟩
      rw [List.map_append, Hm.out, take_snoc l k hlt]
      rfl
    · have hk' : k = l.length := by omega
      subst hk'
      rw [Nat.sub_self, List.replicate_zero, List.append_nil] at hown
      go_wp2
      go_ret
      rw [List.take_length] at hm
      have hB : Bld (Dt.list entryD) 97 wr w.heap.size (.slice (some ⟨w.heap.size, 0, none⟩) l.length l.length) rs := ⟨G, by rw [← hrl]; exact (by rw [hrl]; exact hown), hG, hGn, fun b hb' => ⟨Nat.le_of_lt (hGb b hb'), by simp [Value.ownBlock]; have := hGb b hb'; omega⟩⟩
      obtain ⟨F, h1, h2⟩ := hB.owl hm
      exact ⟨⟨some ⟨w.heap.size, 0, none⟩, l.length, l.length⟩, F, rfl, h1, h2, hb⟩


end Go.Proofs.Ytjobmbjadpldfaa
