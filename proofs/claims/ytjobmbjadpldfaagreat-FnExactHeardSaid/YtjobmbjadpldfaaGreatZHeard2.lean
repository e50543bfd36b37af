/-
  Data of the type Entry: how it lies in memory, and the walks of the laws' helpers on it. Written by program (deep.py). Data of the type Edge: how it lies in memory, and the walks of the laws' helpers on it. Written by program (deep.py). Data of the type Task: how it lies in memory, and the walks of the laws' helpers on it. Written by program (deep.py). A variable of a struct type, that lies in memory as a row of cells; what keeps it. What a task waits for, what waits for it: the plain lists; l06Before and l06Behind of the reference. How long a slice is that reads as a list. Data of the type Re
-/
import Derived.Test.YtjobmbjadpldfaaGreatZHeard1
section
namespace Go.Proofs.YtjobmbjadpldfaaGreat
open Go.RowKit
set_option maxRecDepth 100000
set_option maxHeartbeats 1000000
set_option linter.unusedVariables false
set_option linter.unusedSimpArgs false

structure Entry where
  prio : Int
  seq : Int
  run : Int
  task : Int
deriving DecidableEq, Inhabited

@[go_sem] abbrev entryW (x : Entry) (_s : Unit) : Value := .agg #[.int .i64 x.prio, .int .i64 x.seq, .int .i64 x.run, .int .i64 x.task]
abbrev entryD : Dt Entry := Dt.flat (fun q => [.int .i64 q.1.prio, .int .i64 q.1.seq, .int .i64 q.1.run, .int .i64 q.1.task]) 4 (fun _ => rfl) (fun q u hu => by simp at hu; rcases hu with rfl | rfl | rfl | rfl <;> rfl)
/-- all lengths in it together -/
def cntEntry (_ : Entry) : Nat := 0
/-- ints are int64, lengths are what a machine holds -/
def wfEntry (x : Entry) : Prop := Wf x.prio ∧ Wf x.seq ∧ Wf x.run ∧ Wf x.task
def numEntry (_ : Entry) : Nat := 4
/-- with the marks from k on -/
def mkEntry (k : Int) (_ : Entry) : Entry := ⟨k, k + 1, k + 1 + 1, k + 1 + 1 + 1⟩
theorem numEntry_le (x : Entry) : numEntry x ≤ 13 * (cntEntry x + 1) := by
  unfold numEntry cntEntry
  omega

theorem toEntry_own (x : Entry) (s : Unit) (w : World) (hl : cntEntry x ≤ 2000000) (h : entryD.rd w w.heap.size x s) :
    Calls Tryz.prog 97 #[entryW x s] w (OwnPost entryD entryW x w) := by
  have hbx : ∀ W, Below w.heap.size w W → entryD.rd W W.heap.size x s := fun W hW => entryD.rd_more (entryD.rd_below h hW) hW.size
  go_enter Tryz.func97, Tryz.ntmps97
  go_wp2
  refine bodyPost_ret (v := entryW x ()) ?_ rfl ?_
  · simp [entryW, results, Tryz.results97, go_sem]
  · exact ⟨(), [], rfl, rfl, (fun _ h => by cases h), by repeat (first | (with_reducible exact Below.refl _ _) | refine Below.setCell ?_ (by simp <;> omega) _ | refine Below.alloc ?_ (by simp <;> omega) _)⟩

theorem eqEntry_own (x y : Entry) (s r : Unit) (w : World) (hl : cntEntry x ≤ 2000000) (hl' : cntEntry y ≤ 2000000) (h : entryD.rd w w.heap.size x s) (h' : entryD.rd w w.heap.size y r) :
    Calls Tryz.prog 101 #[entryW x s, entryW y r] w fun e w' => e = .returned (.bool (decide (x = y))) ∧ Below w.heap.size w w' := by
  have hbx : ∀ W, Below w.heap.size w W → entryD.rd W W.heap.size x s := fun W hW => entryD.rd_more (entryD.rd_below h hW) hW.size
  have hby : ∀ W, Below w.heap.size w W → entryD.rd W W.heap.size y r := fun W hW => entryD.rd_more (entryD.rd_below h' hW) hW.size
  by_cases h0 : x.prio = y.prio
  case neg =>
    have t0 : (x.prio != y.prio) = true := by rw [bne_iff_ne]; exact h0
    have H := Lib.hid (show decide (x = y) = false by simp only [decide_eq_false_iff_not]; intro e; exact h0 (by rw [e]))
    clear h0
    go_enter Tryz.func101, Tryz.ntmps101
    go_wp2
    go_ret
    exact ⟨ret_bool (by first | exact H.out.symm | rfl), by repeat (first | exact Below.refl _ _ | refine Below.alloc ?_ (by simp <;> omega) _)⟩
  have t0 : (x.prio != y.prio) = false := by simp [h0]
  have H0 := Lib.hid h0
  clear h0
  by_cases h1 : x.seq = y.seq
  case neg =>
    have t1 : (x.seq != y.seq) = true := by rw [bne_iff_ne]; exact h1
    have H := Lib.hid (show decide (x = y) = false by simp only [decide_eq_false_iff_not]; intro e; exact h1 (by rw [e]))
    clear h1
    go_enter Tryz.func101, Tryz.ntmps101
    go_wp2
    go_ret
    exact ⟨ret_bool (by first | exact H.out.symm | rfl), by repeat (first | exact Below.refl _ _ | refine Below.alloc ?_ (by simp <;> omega) _)⟩
  have t1 : (x.seq != y.seq) = false := by simp [h1]
  have H1 := Lib.hid h1
  clear h1
  by_cases h2 : x.run = y.run
  case neg =>
    have t2 : (x.run != y.run) = true := by rw [bne_iff_ne]; exact h2
    have H := Lib.hid (show decide (x = y) = false by simp only [decide_eq_false_iff_not]; intro e; exact h2 (by rw [e]))
    clear h2
    go_enter Tryz.func101, Tryz.ntmps101
    go_wp2
    go_ret
    exact ⟨ret_bool (by first | exact H.out.symm | rfl), by repeat (first | exact Below.refl _ _ | refine Below.alloc ?_ (by simp <;> omega) _)⟩
  have t2 : (x.run != y.run) = false := by simp [h2]
  have H2 := Lib.hid h2
  clear h2
  by_cases h3 : x.task = y.task
  case neg =>
    have t3 : (x.task != y.task) = true := by rw [bne_iff_ne]; exact h3
    have H := Lib.hid (show decide (x = y) = false by simp only [decide_eq_false_iff_not]; intro e; exact h3 (by rw [e]))
    clear h3
    go_enter Tryz.func101, Tryz.ntmps101
    go_wp2
    go_ret
    exact ⟨ret_bool (by first | exact H.out.symm | rfl), by repeat (first | exact Below.refl _ _ | refine Below.alloc ?_ (by simp <;> omega) _)⟩
  have t3 : (x.task != y.task) = false := by simp [h3]
  have H3 := Lib.hid h3
  clear h3
  have H := Lib.hid (show decide (x = y) = true by
    simp only [decide_eq_true_eq]
    have hh := And.intro H0.out (And.intro H1.out (And.intro H2.out H3.out))
    obtain ⟨e0, e1, e2, e3⟩ := hh
    cases x
    cases y
    simp only at e0 e1 e2 e3
    subst e0 e1 e2 e3
    rfl)
  go_enter Tryz.func101, Tryz.ntmps101
  go_wp2
  go_ret
  exact ⟨ret_bool (by first | exact H.out.symm | rfl), by repeat (first | exact Below.refl _ _ | refine Below.alloc ?_ (by simp <;> omega) _)⟩

theorem RdL.entry {w : World} {B : Nat} {A : Option Addr} {n c : Nat} {l : List (Entry)} (h : RdL entryD w B (.slice A n c) l) {k : Nat} (hk : k < l.length) :
    ∃ b o, ∃ _s : Unit, A = some ⟨b, o, none⟩ ∧ b < B ∧ entryD.rd w B l[k] _s ∧ w.cell? ⟨b, o + k * 4, none⟩ = some (.int .i64 l[k].prio) ∧ w.cell? ⟨b, o + k * 4 + 1, none⟩ = some (.int .i64 l[k].seq) ∧ w.cell? ⟨b, o + k * 4 + 2, none⟩ = some (.int .i64 l[k].run) ∧ w.cell? ⟨b, o + k * 4 + 3, none⟩ = some (.int .i64 l[k].task) := by
  obtain ⟨b, o, s, rfl, hb, hc, hr⟩ := h.at_ k hk
  exact ⟨b, o, s, rfl, hb, hr, hc 0 _ rfl, hc 1 _ rfl, hc 2 _ rfl, hc 3 _ rfl⟩
theorem Ow.c_entry {E : TypeId} {w : World} {base g n cap : Nat} {l : List ((Entry) × Unit)} (h : Ow entryD.enc E w base (.slice (some ⟨g, 0, none⟩) n cap) l) {k : Nat} (hk : k < l.length) :
    w.cell? ⟨g, k * 4, none⟩ = some (.int .i64 l[k].1.prio) ∧ w.cell? ⟨g, k * 4 + 1, none⟩ = some (.int .i64 l[k].1.seq) ∧ w.cell? ⟨g, k * 4 + 2, none⟩ = some (.int .i64 l[k].1.run) ∧ w.cell? ⟨g, k * 4 + 3, none⟩ = some (.int .i64 l[k].1.task) := by
  rcases h.form with ⟨h1, _⟩ | ⟨g', cap', hv, _, _, _, _, _, hc⟩
  · simp at h1
  · simp only [Value.slice.injEq, Option.some.injEq, Addr.mk.injEq, and_true] at hv
    obtain ⟨rfl, _, _⟩ := hv
    exact ⟨hc k hk 0 _ rfl, hc k hk 1 _ rfl, hc k hk 2 _ rfl, hc k hk 3 _ rfl⟩
theorem Foc.entry {w : World} {b o n c j : Nat} {rs : List ((Entry) × Unit)} {G1 Fx G2 : List Nat} {x : Entry} {s : Unit} (h : Foc entryD w b o n c rs j G1 Fx G2 x s) :
    w.cell? ⟨b, o + j * 4, none⟩ = some (.int .i64 x.prio) ∧ w.cell? ⟨b, o + j * 4 + 1, none⟩ = some (.int .i64 x.seq) ∧ w.cell? ⟨b, o + j * 4 + 2, none⟩ = some (.int .i64 x.run) ∧ w.cell? ⟨b, o + j * 4 + 3, none⟩ = some (.int .i64 x.task) := ⟨h.cells 0 _ rfl, h.cells 1 _ rfl, h.cells 2 _ rfl, h.cells 3 _ rfl⟩

theorem szEntryS_own (l : List (Entry)) (s : Sl) (left : Int) (w : World) (h0 : 0 ≤ left) (h1 : left ≤ 2000000) (hw : wfL wfEntry l) (h : RdL entryD w w.heap.size s.v l) :
    Calls Tryz.prog 64 #[.slice s.a s.n s.c, .int .i64 left] w (SzPost left (cntL cntEntry l) w) := by
  obtain ⟨A, n, c⟩ := s
  obtain ⟨A', c', hv, -⟩ := h.form
  simp only [Sl.v, Value.slice.injEq] at hv
  obtain ⟨rfl, rfl, rfl⟩ := hv
  have hll := hw.1
  by_cases hlt : left < l.length
  · go_enter Tryz.func64, Tryz.ntmps64
    go_wp2
    go_ret
    exact ⟨-1, rfl, .inl rfl, Below.refl _ _⟩
  go_enter Tryz.func64, Tryz.ntmps64
  go_wp2
  go_ret
  exact ⟨_, rfl, .inr ⟨by omega, by rw [cntL_zero (cnt := cntEntry) (fun _ => rfl) l]; omega⟩, Below.refl _ _⟩

theorem eqEntryS_own (l l' : List (Entry)) (s s' : Sl) (w : World) (hl : cntL cntEntry l ≤ 2000000) (hl' : cntL cntEntry l' ≤ 2000000) (h : RdL entryD w w.heap.size s.v l) (h' : RdL entryD w w.heap.size s'.v l') :
    Calls Tryz.prog 71 #[.slice s.a s.n s.c, .slice s'.a s'.n s'.c] w fun e w' => e = .returned (.bool (decide (l = l'))) ∧ Below w.heap.size w w' := by
  obtain ⟨A, n, c⟩ := s
  obtain ⟨A0, c0, hv, -⟩ := h.form
  simp only [Sl.v, Value.slice.injEq] at hv
  obtain ⟨rfl, rfl, rfl⟩ := hv
  obtain ⟨A', n', c'⟩ := s'
  obtain ⟨A0, c0, hv, -⟩ := h'.form
  simp only [Sl.v, Value.slice.injEq] at hv
  obtain ⟨rfl, rfl, rfl⟩ := hv
  have hll : l.length ≤ 2000000 := Nat.le_trans (cntL_len _ _) hl
  have hll' : l'.length ≤ 2000000 := Nat.le_trans (cntL_len _ _) hl'
  have hcc : ∀ k (hk : k < l.length), cntEntry l[k] ≤ 2000000 := fun k hk => by have := cntL_mem (cnt := cntEntry) (List.getElem_mem hk); omega
  have hcc' : ∀ k (hk : k < l'.length), cntEntry l'[k] ≤ 2000000 := fun k hk => by have := cntL_mem (cnt := cntEntry) (List.getElem_mem hk); omega
  clear hl hl'
  by_cases hne : l.length = l'.length
  · have hb0 : ((l.length : Int) != (l'.length : Int)) = false := by simp [hne]
    have Hne := Lib.hid hne
    clear hne
    go_enter Tryz.func71, Tryz.ntmps71
    go_wp2
    go_loopw [5] (fun i wr => ∃ k : Nat, k ≤ l.length ∧ i = .int .i64 k ∧ Hid (l.take k = l'.take k) ∧ Below w.heap.size w wr) (fun i _ => l.length - (intOf i).toNat)
    case atStart => exact ⟨0, Nat.zero_le _, rfl, rfl, Below.refl _ _⟩
    case round =>
      obtain ⟨k, hk, rfl, heq, hb⟩ := hrel
      by_cases hlt : k < l.length
      · have hlt' : k < l'.length := by rw [← Hne.out]; exact hlt
        obtain ⟨b, o, s, rfl, hbb, hr, c0, c1, c2, c3⟩ := (h.below hb).entry hlt
        obtain ⟨b', o', s', rfl, hbb', hr', d0, d1, d2, d3⟩ := (h'.below hb).entry hlt'
        have hx : ∀ W, Below wr.heap.size wr W → entryD.rd W W.heap.size l[k] s := fun W hW => entryD.rd_more (entryD.rd_below (entryD.rd_more hr hb.size) hW) hW.size
        have hx' : ∀ W, Below wr.heap.size wr W → entryD.rd W W.heap.size l'[k] s' := fun W hW => entryD.rd_more (entryD.rd_below (entryD.rd_more hr' hb.size) hW) hW.size
        go_wp2
        go_still_tail 8, (by kernel_rfl)
        go_wp2_with (go_at_call 101; refine (eqEntry_own l[k] l'[k] s s' _ (hcc k hlt) (hcc' k hlt') (hx _ (by first | exact Below.refl _ _ | exact (Below.refl _ _).drew)) (hx' _ (by first | exact Below.refl _ _ | exact (Below.refl _ _).drew))).mono ?_; rintro e w1 ⟨rfl, hb1⟩)
        · rename_i hd
          go_ret
          refine ⟨ret_bool ?_, (hb.drew).trans (hb1.mono hb.size)⟩
          simp only [Bool.false_eq, decide_eq_false_iff_not]
          intro e
          subst e
          simp at hd
        · rename_i hd
          refine ⟨⟨k + 1, by omega, by go_num, ?_, (hb.drew).trans (hb1.mono hb.size)⟩, by simp [intOf]; omega⟩
          show List.take (k + 1) l = List.take (k + 1) l'
          rw [take_snoc l k hlt, take_snoc l' k hlt', heq.out]
          simp at hd
          rw [hd]
      · go_wp2
        go_ret
        refine ⟨ret_bool ?_, hb⟩
        have h1 := heq.out
        rw [List.take_of_length_le (by omega), List.take_of_length_le (by rw [← Hne.out]; omega)] at h1
        simp [h1]
  · have hb0 : ((l.length : Int) != (l'.length : Int)) = true := by simp; omega
    go_enter Tryz.func71, Tryz.ntmps71
    go_wp2
    go_ret
    refine ⟨ret_bool ?_, Below.refl _ _⟩
    simp only [Bool.false_eq, decide_eq_false_iff_not]
    intro e
    exact hne (by rw [e])


theorem entry_infoD : (Tryz.prog.info? 96).map (fun i => (i.zero, i.size, i.bytes)) = some (some (.agg #[.int .i64 0, .int .i64 0, .int .i64 0, .int .i64 0]), 4, 32) := by kernel_rfl

theorem toEntryS_own (l : List (Entry)) (s : Sl) (w : World) (hl : cntL cntEntry l ≤ 2000000) (h : RdL entryD w w.heap.size s.v l) :
    Calls Tryz.prog 67 #[.slice s.a s.n s.c] w (OwnPost (Dt.list entryD) slV l w) := by
  obtain ⟨A, n, c⟩ := s
  obtain ⟨A', c', hv, -⟩ := h.form
  simp only [Sl.v, Value.slice.injEq] at hv
  obtain ⟨rfl, rfl, rfl⟩ := hv
  have hll : l.length ≤ 2000000 := Nat.le_trans (cntL_len _ _) hl
  have hcc : ∀ k (hk : k < l.length), cntEntry l[k] ≤ 2000000 := fun k hk => by have := cntL_mem (cnt := cntEntry) (List.getElem_mem hk); omega
  clear hl
  obtain ⟨i0, hi0, hz0, hz1, hz2⟩ := info_parts entry_infoD
  have hmk : ∀ w : World, (Instr.makeSlice 85 (.int .i64 (l.length : Int)) (.int .i64 (l.length : Int))).run Tryz.prog w = .ok (.slice (some ⟨w.heap.size, 0, none⟩) l.length l.length) (w.alloc (.cells (madeCells #[.int .i64 0, .int .i64 0, .int .i64 0, .int .i64 0] (l.length * 4)) 96)) := by
    intro w
    have := run_make (P := Tryz.prog) w 85 96 i0 _ Tryz.underlying85 hi0 hz0 .i64 .i64 l.length l.length (by omega) (by omega) (by rw [hz2]; omega) (by omega)
    rw [hz1] at this
    simpa [Value.cells] using this
  go_enter Tryz.func67, Tryz.ntmps67
  go_wp2
  go_loopw [4] (fun i wr => ∃ k : Nat, k ≤ l.length ∧ i = .int .i64 k ∧ Hid (∃ (rs : List ((Entry) × Unit)) (G : List Nat), rs.map (·.1) = l.take k ∧ Ow entryD.enc 96 wr w.heap.size (.slice (some ⟨w.heap.size, 0, none⟩) l.length l.length) (rs ++ List.replicate (l.length - k) (⟨0, 0, 0, 0⟩, ())) ∧ Ows entryD wr G rs ∧ G.Nodup ∧ ∀ b ∈ G, w.heap.size < b) ∧ Below w.heap.size w wr) (fun i _ => l.length - (intOf i).toNat)
  case atStart => exact ⟨0, Nat.zero_le _, rfl, ⟨[], [], rfl, by rw [List.nil_append, Nat.sub_zero]; exact Ow.made entryD.enc 96 w (⟨0, 0, 0, 0⟩, ()) l.length (by decide) (by simp [maxLen]; omega) rfl rfl, .nil, List.nodup_nil, fun _ h => by cases h⟩, (Below.refl _ _).alloc (Nat.le_refl _) _⟩
  case round =>
    obtain ⟨k, hk, rfl, ⟨rs, G, hm, hown, hG, hGn, hGb⟩, hb⟩ := hrel
    have hrl : rs.length = k := by have := congrArg List.length hm; simpa [Nat.min_eq_left hk] using this
    by_cases hlt : k < l.length
    · obtain ⟨b, o, s, rfl, hbb, hr, c0, c1, c2, c3⟩ := (h.below hb).entry hlt
      have hx : ∀ W, Below wr.heap.size wr W → entryD.rd W W.heap.size l[k] s := fun W hW => entryD.rd_more (entryD.rd_below (entryD.rd_more hr hb.size) hW) hW.size
      have hlen : (rs ++ List.replicate (l.length - k) ((⟨0, 0, 0, 0⟩, ()) : (Entry) × Unit)).length = l.length := by simp; omega
      have Hm := Lib.hid hm
      have Hrl := Lib.hid hrl
      clear hm hrl
      go_wp2_with (go_at_call 97; refine (toEntry_own l[k] s _ (hcc k hlt) (hx _ (by first | exact Below.refl _ _ | exact (Below.refl _ _).drew))).mono ?_; rintro e w1 ⟨s1, F1, rfl, o1, n1, hb1⟩; have hown1 := hown.below hb1; have hf := hown1.free; obtain ⟨d0, d1, d2, d3⟩ := hown1.c_entry (k := k) (by rw [hlen]; exact hlt))
      have hp := Ow.put hown1 hlen k hlt (l[k], s1)
      have Hp := Bld.lay hG hGn hGb hb1 (r := (l[k], s1)) o1 n1 (Nat.lt_of_lt_of_le (hown.blk).2 (Nat.le_refl _)) hp.2
      rw [mix_snoc rs _ k l.length Hrl.out hlt] at hp
      refine ⟨⟨k + 1, by omega, by go_num, ⟨rs ++ [(l[k], s1)], G ++ F1, ?_, hp.1, Hp.1, Hp.2.1, Hp.2.2⟩, (hb.trans (hb1.mono hb.size)).grown hp.2 (Nat.le_trans hb.size hb1.size) (fun g hg => by simp at hg; omega)⟩, by simp [intOf]; omega⟩
      rw [List.map_append, Hm.out, take_snoc l k hlt]
      rfl
    · have hk' : k = l.length := by omega
      subst hk'
      rw [Nat.sub_self, List.replicate_zero, List.append_nil] at hown
      go_wp2
      go_ret
      rw [List.take_length] at hm
      have hB : Bld entryD 96 wr w.heap.size (.slice (some ⟨w.heap.size, 0, none⟩) l.length l.length) rs := ⟨G, by rw [← hrl]; exact (by rw [hrl]; exact hown), hG, hGn, fun b hb' => ⟨Nat.le_of_lt (hGb b hb'), by simp [Value.ownBlock]; have := hGb b hb'; omega⟩⟩
      obtain ⟨F, h1, h2⟩ := hB.owl hm
      exact ⟨⟨some ⟨w.heap.size, 0, none⟩, l.length, l.length⟩, F, rfl, h1, h2, hb⟩


theorem markEntryS_own (l : List (Entry)) (s : Sl) (F : List Nat) (k : Int) (w : World) (hl : cntL cntEntry l ≤ 2000000) (hk0 : 0 ≤ k) (hk1 : k ≤ 1000000000) (h : OwL entryD w F s.v l) :
    Calls Tryz.prog 73 #[.slice s.a s.n s.c, .int .i64 k] w (MkPost (Dt.list entryD) F (mkL mkEntry numEntry k l) s (k + (numL numEntry l : Nat)) w) := by
  obtain ⟨A, n, c⟩ := s
  obtain ⟨A', c', hv, -⟩ := h.form
  simp only [Sl.v, Value.slice.injEq] at hv
  obtain ⟨rfl, rfl, rfl⟩ := hv
  have hll : l.length ≤ 2000000 := Nat.le_trans (cntL_len _ _) hl
  have hnl : ∀ j, numL numEntry (l.take j) ≤ 26000000 := fun j => by
    have h1 := numL_take_le numEntry l j
    have h2 := numL_le (num := numEntry) (cnt := cntEntry) (K := 13) numEntry_le l
    omega
  have Hnl := Lib.hid hnl
  clear hnl hl
  go_enter Tryz.func73, Tryz.ntmps73
  go_wp2
  go_loopw [1, 5] (fun q i wr => ∃ (j : Nat) (m : Int), j ≤ l.length ∧ i = .int .i64 j ∧ q = .int .i64 m ∧ Hid (m = k + (numL numEntry (l.take j) : Nat)) ∧ OwL entryD wr F (.slice A l.length c) (mkL mkEntry numEntry k (l.take j) ++ l.drop j) ∧ Chg F w wr) (fun _ i _ => l.length - (intOf i).toNat)
  case atStart => exact ⟨0, k, Nat.zero_le _, rfl, rfl, by show k = _; simp [numL], h, Chg.refl _ _⟩
  case round =>
    obtain ⟨j, m, hj, rfl, rfl, hm, ho, hc⟩ := hrel
    have hm' := hm.out
    have hnj := Hnl.out j
    have hm0 : 0 ≤ m := by omega
    have hm1 : m ≤ 1026000000 := by omega
    clear hm' hnj
    by_cases hlt : j < l.length
    · have hltI : (j : Int) < (l.length : Int) := by omega
      have hlen : (mkL mkEntry numEntry k (l.take j) ++ l.drop j).length = l.length := by simp [mkL_length]; omega
      obtain ⟨b, o, rs, s, G1, Fx, G2, rfl, hF, hrm, f0⟩ := ho.foc (j := j) (by rw [hlen]; exact hlt)
      rw [mkL_here mkEntry numEntry k l j hlt] at f0
      subst hF
      have Hrm := Lib.hid hrm
      clear hrm ho
      obtain ⟨c0, c1, c2, c3⟩ := f0.entry
      have fr0 := f0.free
      go_wp2
      obtain ⟨f1, g1⟩ := f0.put ⟨m, m + 1, m + 1 + 1, m + 1 + 1 + 1⟩ 0 [.int .i64 (m), .int .i64 (m + 1), .int .i64 (m + 1 + 1), .int .i64 (m + 1 + 1 + 1)] (by show 0 + 4 ≤ 4; omega) (fun i hi => match i, hi with | 0, _ => rfl | 1, _ => rfl | 2, _ => rfl | 3, _ => rfl | i + 4, hi => absurd hi (by simp)) (fun i hi hx => match i, hi, hx with | 0, _, hx => absurd hx (by simp) | 1, _, hx => absurd hx (by simp) | 2, _, hx => absurd hx (by simp) | 3, _, hx => absurd hx (by simp) | i + 4, hi, _ => absurd hi (by show ¬ (i + 4 < 4); omega)) (fun _ hh => hh)
      have hmf := hm.out
      have hown := f1.owl Hrm.out
      have hval : ⟨m, m + 1, m + 1 + 1, m + 1 + 1 + 1⟩ = mkEntry m l[j] := rfl
      have hset := mkL_set mkEntry numEntry k l j hlt
      rw [← hm.out] at hset
      rw [hval, hset] at hown
      have hnum : (numL numEntry (l.take (j + 1)) : Nat) = numL numEntry (l.take j) + numEntry l[j] := sum_take_succ _ _ _ hlt
      refine ⟨⟨j + 1, m + 1 + 1 + 1 + 1, by omega, by go_num, rfl, ?_, hown, (hc).trans (g1.mono (fun _ hh => mem_box hh))⟩, by simp [intOf]; omega⟩
      have hun : numEntry l[j] = 4 := rfl
      show m + 1 + 1 + 1 + 1 = _
      rw [hnum, hun]
      push_cast
      omega
    · have hj' : j = l.length := by omega
      subst hj'
      rw [List.take_length, List.drop_length, List.append_nil] at ho
      go_wp2
      go_ret
      refine ⟨ret_int ?_, ho, hc⟩
      rw [hm.out, List.take_length]


theorem heldEntryS_own (l : List (Entry)) (s : Sl) (k : Int) (w : World) (hl : cntL cntEntry l ≤ 2000000) (hk0 : 0 ≤ k) (hk1 : k ≤ 1000000000) (h : RdL entryD w w.heap.size s.v (mkL mkEntry numEntry k l)) :
    Calls Tryz.prog 104 #[.slice s.a s.n s.c, .int .i64 k] w fun e w' => e = .returned (.int .i64 (k + (numL numEntry l : Nat))) ∧ Below w.heap.size w w' := by
  obtain ⟨A, n, c⟩ := s
  obtain ⟨A', c', hv, -⟩ := h.form
  simp only [Sl.v, Value.slice.injEq, mkL_length] at hv
  obtain ⟨rfl, rfl, rfl⟩ := hv
  have hll : l.length ≤ 2000000 := Nat.le_trans (cntL_len _ _) hl
  have hnl : ∀ j, numL numEntry (l.take j) ≤ 26000000 := fun j => by
    have h1 := numL_take_le numEntry l j
    have h2 := numL_le (num := numEntry) (cnt := cntEntry) (K := 13) numEntry_le l
    omega
  have hcell : ∀ (wr : World) (j : Nat) (hj : j < l.length) (m : Int), Below w.heap.size w wr → m = k + (numL numEntry (l.take j) : Nat) → ∃ b o, ∃ s : Unit, A = some ⟨b, o, none⟩ ∧ b < w.heap.size ∧ entryD.rd wr w.heap.size (mkEntry m l[j]) s ∧ wr.cell? ⟨b, o + j * 4, none⟩ = some (.int .i64 (m)) ∧ wr.cell? ⟨b, o + j * 4 + 1, none⟩ = some (.int .i64 (m + 1)) ∧ wr.cell? ⟨b, o + j * 4 + 2, none⟩ = some (.int .i64 (m + 1 + 1)) ∧ wr.cell? ⟨b, o + j * 4 + 3, none⟩ = some (.int .i64 (m + 1 + 1 + 1)) := by
    intro wr j hj m hb hm
    obtain ⟨b, o, s, h1, h2, h3, h4⟩ := (h.below hb).entry (k := j) (by rw [mkL_length]; exact hj)
    first | rw [mkL_get _ _ _ _ _ hj, ← hm] at h3 h4 | rw [mkL_get _ _ _ _ _ hj, ← hm] at h3
    exact ⟨b, o, s, h1, h2, h3, h4⟩
  have Hc := Lib.hid hcell
  have Hnl := Lib.hid hnl
  clear hcell hnl hl
  go_enter Tryz.func104, Tryz.ntmps104
  go_wp2
  go_loopw [1, 5] (fun q i wr => ∃ (j : Nat) (m : Int), j ≤ l.length ∧ i = .int .i64 j ∧ q = .int .i64 m ∧ Hid (m = k + (numL numEntry (l.take j) : Nat)) ∧ Below w.heap.size w wr) (fun _ i _ => l.length - (intOf i).toNat)
  case atStart => exact ⟨0, k, Nat.zero_le _, rfl, rfl, by show k = _; simp [numL], Below.refl _ _⟩
  case round =>
    obtain ⟨j, m, hj, rfl, rfl, hm, hb⟩ := hrel
    have hm' := hm.out
    have hnj := Hnl.out j
    have hm0 : 0 ≤ m := by omega
    have hm1 : m ≤ 1026000000 := by omega
    clear hm' hnj
    by_cases hlt : j < l.length
    · have hltI : (j : Int) < (l.length : Int) := by omega
      obtain ⟨b, o, s, rfl, hbb, hrd, c0, c1, c2, c3⟩ := Hc.out wr j hlt m hb hm.out
      go_wp2
      have hnum : (numL numEntry (l.take (j + 1)) : Nat) = numL numEntry (l.take j) + numEntry l[j] := sum_take_succ _ _ _ hlt
      refine ⟨⟨j + 1, m + 1 + 1 + 1 + 1, by omega, by go_num, rfl, ?_, hb⟩, by simp [intOf]; omega⟩
      have hun : numEntry l[j] = 4 := rfl
      have hmf := hm.out
      show m + 1 + 1 + 1 + 1 = _
      rw [hnum, hun]
      push_cast
      omega
    · have hj' : j = l.length := by omega
      subst hj'
      go_wp2
      go_ret
      refine ⟨ret_int ?_, hb⟩
      rw [hm.out, List.take_length]

def cntEntryS (x : List Entry) : Nat := cntL cntEntry x
def wfEntryS (x : List Entry) : Prop := wfL wfEntry x
def numEntryS (x : List Entry) : Nat := numL numEntry x
def mkEntryS (k : Int) (x : List Entry) : List Entry := mkL mkEntry numEntry k x
theorem numEntryS_le (x : List Entry) : numEntryS x ≤ 13 * (cntEntryS x + 1) := by
  have h := numL_le (num := numEntry) (cnt := cntEntry) (K := 13) numEntry_le x
  unfold numEntryS cntEntryS
  omega

theorem RdL.entryS {w : World} {B : Nat} {A : Option Addr} {n c : Nat} {l : List (List Entry)} (h : RdL (Dt.list entryD) w B (.slice A n c) l) {k : Nat} (hk : k < l.length) :
    ∃ b o, ∃ s : Sl, A = some ⟨b, o, none⟩ ∧ b < B ∧ (Dt.list entryD).rd w B l[k] s ∧ w.cell? ⟨b, o + k, none⟩ = some (.slice s.a s.n s.c) := by
  obtain ⟨b, o, s, rfl, hb, hc, hr⟩ := h.at_ k hk
  exact ⟨b, o, s, rfl, hb, hr, (by have hh := hc 0 _ rfl; rw [show k * (Dt.list entryD).enc.sz = k from Nat.mul_one k] at hh; exact hh)⟩
theorem Ow.c_entryS {E : TypeId} {w : World} {base g n cap : Nat} {l : List ((List Entry) × Sl)} (h : Ow (Dt.list entryD).enc E w base (.slice (some ⟨g, 0, none⟩) n cap) l) {k : Nat} (hk : k < l.length) :
    w.cell? ⟨g, k, none⟩ = some (.slice l[k].2.a l[k].2.n l[k].2.c) := by
  rcases h.form with ⟨h1, _⟩ | ⟨g', cap', hv, _, _, _, _, _, hc⟩
  · simp at h1
  · simp only [Value.slice.injEq, Option.some.injEq, Addr.mk.injEq, and_true] at hv
    obtain ⟨rfl, _, _⟩ := hv
    exact (by have hh := hc k hk 0 _ rfl; rw [show k * (Dt.list entryD).enc.sz = k from Nat.mul_one k] at hh; exact hh)
theorem Foc.entryS {w : World} {b o n c j : Nat} {rs : List ((List Entry) × Sl)} {G1 Fx G2 : List Nat} {x : List Entry} {s : Sl} (h : Foc (Dt.list entryD) w b o n c rs j G1 Fx G2 x s) :
    w.cell? ⟨b, o + j, none⟩ = some (.slice s.a s.n s.c) := (by have hh := h.cells 0 _ rfl; rw [show j * (Dt.list entryD).enc.sz = j from Nat.mul_one j] at hh; exact hh)

theorem szEntrySS_own (l : List (List Entry)) (s : Sl) (left : Int) (w : World) (h0 : 0 ≤ left) (h1 : left ≤ 2000000) (hw : wfL wfEntryS l) (h : RdL (Dt.list entryD) w w.heap.size s.v l) :
    Calls Tryz.prog 31 #[.slice s.a s.n s.c, .int .i64 left] w (SzPost left (cntL cntEntryS l) w) := by
  obtain ⟨A, n, c⟩ := s
  obtain ⟨A', c', hv, -⟩ := h.form
  simp only [Sl.v, Value.slice.injEq] at hv
  obtain ⟨rfl, rfl, rfl⟩ := hv
  have hll := hw.1
  by_cases hlt : left < l.length
  · go_enter Tryz.func31, Tryz.ntmps31
    go_wp2
    go_ret
    exact ⟨-1, rfl, .inl rfl, Below.refl _ _⟩
  have Hw := Lib.hid hw
  clear hw
  go_enter Tryz.func31, Tryz.ntmps31
  go_wp2
  go_loopw [1, 5] (fun t i wr => ∃ k : Nat, ∃ m : Int, k ≤ l.length ∧ i = .int .i64 k ∧ t = .int .i64 m ∧ 0 ≤ m ∧ m + l.length + (((l.take k).map cntEntryS).sum : Nat) ≤ left ∧ Below w.heap.size w wr) (fun _ i _ => l.length - (intOf i).toNat)
  case atStart => exact ⟨0, _, Nat.zero_le _, rfl, rfl, by omega, by simp <;> omega, Below.refl _ _⟩
  case round =>
    obtain ⟨k, m, hk, rfl, rfl, m0, m1, hb⟩ := hrel
    by_cases hlt : k < l.length
    · obtain ⟨b, o, s, rfl, hbb, hr, c0⟩ := (h.below hb).entryS hlt
      have hx : ∀ W, Below wr.heap.size wr W → (Dt.list entryD).rd W W.heap.size l[k] s := fun W hW => (Dt.list entryD).rd_more ((Dt.list entryD).rd_below ((Dt.list entryD).rd_more hr hb.size) hW) hW.size
      have hwk : wfEntryS l[k] := Hw.out.2 _ (List.getElem_mem hlt)
      have M1 := Lib.hid m1
      have m2 : m ≤ 2000000 := by omega
      clear m1
      go_wp2_with fail
      refine (szEntryS_own l[k] s m _ m0 m2 hwk (hx _ (by first | exact Below.refl _ _ | exact (Below.refl _ _).drew))).mono ?_
      rintro e w1 ⟨r, rfl, hr, hb1⟩
      rcases hr with rfl | ⟨r0, r1⟩
      · go_wp2
        go_ret
        exact ⟨-1, rfl, .inl rfl, bnext hb hb1⟩
      · go_wp2
        refine ⟨⟨k + 1, r, by omega, by go_num, rfl, r0, ?_, bnext hb hb1⟩, by simp [intOf]; omega⟩
        have M2 := M1.out
        have r2 : r + (cntEntryS l[k] : Nat) ≤ m := r1
        rw [sum_take_succ _ _ _ hlt]
        push_cast
        omega
    · go_wp2
      go_ret
      refine ⟨_, rfl, .inr ⟨by omega, ?_⟩, hb⟩
      rw [List.take_of_length_le (by omega)] at m1
      unfold cntL
      push_cast
      omega

theorem eqEntrySS_own (l l' : List (List Entry)) (s s' : Sl) (w : World) (hl : cntL cntEntryS l ≤ 2000000) (hl' : cntL cntEntryS l' ≤ 2000000) (h : RdL (Dt.list entryD) w w.heap.size s.v l) (h' : RdL (Dt.list entryD) w w.heap.size s'.v l') :
    Calls Tryz.prog 38 #[.slice s.a s.n s.c, .slice s'.a s'.n s'.c] w fun e w' => e = .returned (.bool (decide (l = l'))) ∧ Below w.heap.size w w' := by
  obtain ⟨A, n, c⟩ := s
  obtain ⟨A0, c0, hv, -⟩ := h.form
  simp only [Sl.v, Value.slice.injEq] at hv
  obtain ⟨rfl, rfl, rfl⟩ := hv
  obtain ⟨A', n', c'⟩ := s'
  obtain ⟨A0, c0, hv, -⟩ := h'.form
  simp only [Sl.v, Value.slice.injEq] at hv
  obtain ⟨rfl, rfl, rfl⟩ := hv
  have hll : l.length ≤ 2000000 := Nat.le_trans (cntL_len _ _) hl
  have hll' : l'.length ≤ 2000000 := Nat.le_trans (cntL_len _ _) hl'
  have hcc : ∀ k (hk : k < l.length), cntEntryS l[k] ≤ 2000000 := fun k hk => by have := cntL_mem (cnt := cntEntryS) (List.getElem_mem hk); omega
  have hcc' : ∀ k (hk : k < l'.length), cntEntryS l'[k] ≤ 2000000 := fun k hk => by have := cntL_mem (cnt := cntEntryS) (List.getElem_mem hk); omega
  clear hl hl'
  by_cases hne : l.length = l'.length
  · have hb0 : ((l.length : Int) != (l'.length : Int)) = false := by simp [hne]
    have Hne := Lib.hid hne
    clear hne
    go_enter Tryz.func38, Tryz.ntmps38
    go_wp2
    go_loopw [5] (fun i wr => ∃ k : Nat, k ≤ l.length ∧ i = .int .i64 k ∧ Hid (l.take k = l'.take k) ∧ Below w.heap.size w wr) (fun i _ => l.length - (intOf i).toNat)
    case atStart => exact ⟨0, Nat.zero_le _, rfl, rfl, Below.refl _ _⟩
    case round =>
      obtain ⟨k, hk, rfl, heq, hb⟩ := hrel
      by_cases hlt : k < l.length
      · have hlt' : k < l'.length := by rw [← Hne.out]; exact hlt
        obtain ⟨b, o, s, rfl, hbb, hr, c0⟩ := (h.below hb).entryS hlt
        obtain ⟨b', o', s', rfl, hbb', hr', d0⟩ := (h'.below hb).entryS hlt'
        have hx : ∀ W, Below wr.heap.size wr W → (Dt.list entryD).rd W W.heap.size l[k] s := fun W hW => (Dt.list entryD).rd_more ((Dt.list entryD).rd_below ((Dt.list entryD).rd_more hr hb.size) hW) hW.size
        have hx' : ∀ W, Below wr.heap.size wr W → (Dt.list entryD).rd W W.heap.size l'[k] s' := fun W hW => (Dt.list entryD).rd_more ((Dt.list entryD).rd_below ((Dt.list entryD).rd_more hr' hb.size) hW) hW.size
        go_wp2
        go_still_tail 8, (by kernel_rfl)
        go_wp2_with (go_at_call 71; refine (eqEntryS_own l[k] l'[k] s s' _ (hcc k hlt) (hcc' k hlt') (hx _ (by first | exact Below.refl _ _ | exact (Below.refl _ _).drew)) (hx' _ (by first | exact Below.refl _ _ | exact (Below.refl _ _).drew))).mono ?_; rintro e w1 ⟨rfl, hb1⟩)
        · rename_i hd
          go_ret
          refine ⟨ret_bool ?_, (hb.drew).trans (hb1.mono hb.size)⟩
          simp only [Bool.false_eq, decide_eq_false_iff_not]
          intro e
          subst e
          simp at hd
        · rename_i hd
          refine ⟨⟨k + 1, by omega, by go_num, ?_, (hb.drew).trans (hb1.mono hb.size)⟩, by simp [intOf]; omega⟩
          show List.take (k + 1) l = List.take (k + 1) l'
          rw [take_snoc l k hlt, take_snoc l' k hlt', heq.out]
          simp at hd
          rw [hd]
      · go_wp2
        go_ret
        refine ⟨ret_bool ?_, hb⟩
        have h1 := heq.out
        rw [List.take_of_length_le (by omega), List.take_of_length_le (by rw [← Hne.out]; omega)] at h1
        simp [h1]
  · have hb0 : ((l.length : Int) != (l'.length : Int)) = true := by simp; omega
    go_enter Tryz.func38, Tryz.ntmps38
    go_wp2
    go_ret
    refine ⟨ret_bool ?_, Below.refl _ _⟩
    simp only [Bool.false_eq, decide_eq_false_iff_not]
    intro e
    exact hne (by rw [e])


theorem entryS_infoD : (Tryz.prog.info? 85).map (fun i => (i.zero, i.size, i.bytes)) = some (some (.slice none 0 0), 1, 24) := by kernel_rfl

theorem toEntrySS_own (l : List (List Entry)) (s : Sl) (w : World) (hl : cntL cntEntryS l ≤ 2000000) (h : RdL (Dt.list entryD) w w.heap.size s.v l) :
    Calls Tryz.prog 35 #[.slice s.a s.n s.c] w (OwnPost (Dt.list (Dt.list entryD)) slV l w) := by
  obtain ⟨A, n, c⟩ := s
  obtain ⟨A', c', hv, -⟩ := h.form
  simp only [Sl.v, Value.slice.injEq] at hv
  obtain ⟨rfl, rfl, rfl⟩ := hv
  have hll : l.length ≤ 2000000 := Nat.le_trans (cntL_len _ _) hl
  have hcc : ∀ k (hk : k < l.length), cntEntryS l[k] ≤ 2000000 := fun k hk => by have := cntL_mem (cnt := cntEntryS) (List.getElem_mem hk); omega
  clear hl
  obtain ⟨i0, hi0, hz0, hz1, hz2⟩ := info_parts entryS_infoD
  have hmk : ∀ w : World, (Instr.makeSlice 31 (.int .i64 (l.length : Int)) (.int .i64 (l.length : Int))).run Tryz.prog w = .ok (.slice (some ⟨w.heap.size, 0, none⟩) l.length l.length) (w.alloc (.cells (madeCells #[.slice none 0 0] l.length) 85)) := by
    intro w
    have := run_make (P := Tryz.prog) w 31 85 i0 _ Tryz.underlying31 hi0 hz0 .i64 .i64 l.length l.length (by omega) (by omega) (by rw [hz2]; omega) (by omega)
    rw [hz1] at this
    simpa [Value.cells] using this
  go_enter Tryz.func35, Tryz.ntmps35
  go_wp2
  go_loopw [4] (fun i wr => ∃ k : Nat, k ≤ l.length ∧ i = .int .i64 k ∧ Hid (∃ (rs : List ((List Entry) × Sl)) (G : List Nat), rs.map (·.1) = l.take k ∧ Ow (Dt.list entryD).enc 85 wr w.heap.size (.slice (some ⟨w.heap.size, 0, none⟩) l.length l.length) (rs ++ List.replicate (l.length - k) ([], ⟨none, 0, 0⟩)) ∧ Ows (Dt.list entryD) wr G rs ∧ G.Nodup ∧ ∀ b ∈ G, w.heap.size < b) ∧ Below w.heap.size w wr) (fun i _ => l.length - (intOf i).toNat)
  case atStart => exact ⟨0, Nat.zero_le _, rfl, ⟨[], [], rfl, by rw [List.nil_append, Nat.sub_zero]; exact Ow.made (Dt.list entryD).enc 85 w ([], ⟨none, 0, 0⟩) l.length (by decide) (by simp [maxLen]; omega) rfl (Nat.mul_one _).symm, .nil, List.nodup_nil, fun _ h => by cases h⟩, (Below.refl _ _).alloc (Nat.le_refl _) _⟩
  case round =>
    obtain ⟨k, hk, rfl, ⟨rs, G, hm, hown, hG, hGn, hGb⟩, hb⟩ := hrel
    have hrl : rs.length = k := by have := congrArg List.length hm; simpa [Nat.min_eq_left hk] using this
    by_cases hlt : k < l.length
    · obtain ⟨b, o, s, rfl, hbb, hr, c0⟩ := (h.below hb).entryS hlt
      have hx : ∀ W, Below wr.heap.size wr W → (Dt.list entryD).rd W W.heap.size l[k] s := fun W hW => (Dt.list entryD).rd_more ((Dt.list entryD).rd_below ((Dt.list entryD).rd_more hr hb.size) hW) hW.size
      have hlen : (rs ++ List.replicate (l.length - k) (([], ⟨none, 0, 0⟩) : (List Entry) × Sl)).length = l.length := by simp; omega
      have Hm := Lib.hid hm
      have Hrl := Lib.hid hrl
      clear hm hrl
      go_wp2_with (go_at_call 67; refine (toEntryS_own l[k] s _ (hcc k hlt) (hx _ (by first | exact Below.refl _ _ | exact (Below.refl _ _).drew))).mono ?_; rintro e w1 ⟨s1, F1, rfl, o1, n1, hb1⟩; have hown1 := hown.below hb1; have hf := hown1.free; have d0 := hown1.c_entryS (k := k) (by rw [hlen]; exact hlt))
      have hp := Ow.put hown1 hlen k hlt (l[k], s1)
      rw [show k * (Dt.list entryD).enc.sz = k from Nat.mul_one k] at hp
      have Hp := Bld.lay hG hGn hGb hb1 (r := (l[k], s1)) o1 n1 (Nat.lt_of_lt_of_le (hown.blk).2 (Nat.le_refl _)) hp.2
      rw [mix_snoc rs _ k l.length Hrl.out hlt] at hp
      refine ⟨⟨k + 1, by omega, by go_num, ⟨rs ++ [(l[k], s1)], G ++ F1, ?_, hp.1, Hp.1, Hp.2.1, Hp.2.2⟩, (hb.trans (hb1.mono hb.size)).grown hp.2 (Nat.le_trans hb.size hb1.size) (fun g hg => by simp at hg; omega)⟩, by simp [intOf]; omega⟩
      rw [List.map_append, Hm.out, take_snoc l k hlt]
      rfl
    · have hk' : k = l.length := by omega
      subst hk'
      rw [Nat.sub_self, List.replicate_zero, List.append_nil] at hown
      go_wp2
      go_ret
      rw [List.take_length] at hm
      have hB : Bld (Dt.list entryD) 85 wr w.heap.size (.slice (some ⟨w.heap.size, 0, none⟩) l.length l.length) rs := ⟨G, by rw [← hrl]; exact (by rw [hrl]; exact hown), hG, hGn, fun b hb' => ⟨Nat.le_of_lt (hGb b hb'), by simp [Value.ownBlock]; have := hGb b hb'; omega⟩⟩
      obtain ⟨F, h1, h2⟩ := hB.owl hm
      exact ⟨⟨some ⟨w.heap.size, 0, none⟩, l.length, l.length⟩, F, rfl, h1, h2, hb⟩


theorem markEntrySS_own (l : List (List Entry)) (s : Sl) (F : List Nat) (k : Int) (w : World) (hl : cntL cntEntryS l ≤ 2000000) (hk0 : 0 ≤ k) (hk1 : k ≤ 900000000) (h : OwL (Dt.list entryD) w F s.v l) :
    Calls Tryz.prog 40 #[.slice s.a s.n s.c, .int .i64 k] w (MkPost (Dt.list (Dt.list entryD)) F (mkL mkEntryS numEntryS k l) s (k + (numL numEntryS l : Nat)) w) := by
  obtain ⟨A, n, c⟩ := s
  obtain ⟨A', c', hv, -⟩ := h.form
  simp only [Sl.v, Value.slice.injEq] at hv
  obtain ⟨rfl, rfl, rfl⟩ := hv
  have hll : l.length ≤ 2000000 := Nat.le_trans (cntL_len _ _) hl
  have hnl : ∀ j, numL numEntryS (l.take j) ≤ 26000000 := fun j => by
    have h1 := numL_take_le numEntryS l j
    have h2 := numL_le (num := numEntryS) (cnt := cntEntryS) (K := 13) numEntryS_le l
    omega
  have hcc : ∀ k (hk : k < l.length), cntEntryS l[k] ≤ 2000000 := fun k hk => by have := cntL_mem (cnt := cntEntryS) (List.getElem_mem hk); omega
  have Hnl := Lib.hid hnl
  clear hnl hl
  go_enter Tryz.func40, Tryz.ntmps40
  go_wp2
  go_loopw [1, 5] (fun q i wr => ∃ (j : Nat) (m : Int), j ≤ l.length ∧ i = .int .i64 j ∧ q = .int .i64 m ∧ Hid (m = k + (numL numEntryS (l.take j) : Nat)) ∧ OwL (Dt.list entryD) wr F (.slice A l.length c) (mkL mkEntryS numEntryS k (l.take j) ++ l.drop j) ∧ Chg F w wr) (fun _ i _ => l.length - (intOf i).toNat)
  case atStart => exact ⟨0, k, Nat.zero_le _, rfl, rfl, by show k = _; simp [numL], h, Chg.refl _ _⟩
  case round =>
    obtain ⟨j, m, hj, rfl, rfl, hm, ho, hc⟩ := hrel
    have hm' := hm.out
    have hnj := Hnl.out j
    have hm0 : 0 ≤ m := by omega
    have hm1 : m ≤ 926000000 := by omega
    clear hm' hnj
    by_cases hlt : j < l.length
    · have hltI : (j : Int) < (l.length : Int) := by omega
      have hlen : (mkL mkEntryS numEntryS k (l.take j) ++ l.drop j).length = l.length := by simp [mkL_length]; omega
      obtain ⟨b, o, rs, s, G1, Fx, G2, rfl, hF, hrm, f0⟩ := ho.foc (j := j) (by rw [hlen]; exact hlt)
      rw [mkL_here mkEntryS numEntryS k l j hlt] at f0
      subst hF
      have Hrm := Lib.hid hrm
      clear hrm ho
      have c0 := f0.entryS
      have fr0 := f0.free
      have hce0 : cntL cntEntry l[j] ≤ 2000000 := by
        have := hcc j hlt
        unfold cntEntryS at this
        omega
      have hne0 : numL numEntry l[j] ≤ 26000000 := by
        have h2 := numL_le (num := numEntry) (cnt := cntEntry) (K := 13) numEntry_le l[j]
        omega
      go_wp2_with fail
      refine (markEntryS_own l[j] s Fx _ _ hce0 (by omega) (by omega) f0.here).mono ?_
      rintro e w1 ⟨rfl, o1, g1⟩
      have f1 := f0.sub (y := mkL mkEntry numEntry (m) l[j]) g1 o1 rfl
      have c1_0 := f1.entryS
      have fr1 := f1.free
      go_wp2
      have hmf := hm.out
      have hown := f1.owl Hrm.out
      have hval : mkL mkEntry numEntry (m) l[j] = mkEntryS m l[j] := rfl
      have hset := mkL_set mkEntryS numEntryS k l j hlt
      rw [← hm.out] at hset
      rw [hval, hset] at hown
      have hnum : (numL numEntryS (l.take (j + 1)) : Nat) = numL numEntryS (l.take j) + numEntryS l[j] := sum_take_succ _ _ _ hlt
      refine ⟨⟨j + 1, m + (numL numEntry l[j] : Nat), by omega, by go_num, rfl, ?_, hown, (hc).trans (g1.mono (fun _ hh => mem_here hh))⟩, by simp [intOf]; omega⟩
      have hun : numEntryS l[j] = numL numEntry l[j] := rfl
      show m + (numL numEntry l[j] : Nat) = _
      rw [hnum, hun]
      push_cast
      omega
    · have hj' : j = l.length := by omega
      subst hj'
      rw [List.take_length, List.drop_length, List.append_nil] at ho
      go_wp2
      go_ret
      refine ⟨ret_int ?_, ho, hc⟩
      rw [hm.out, List.take_length]


theorem heldEntrySS_own (l : List (List Entry)) (s : Sl) (k : Int) (w : World) (hl : cntL cntEntryS l ≤ 2000000) (hk0 : 0 ≤ k) (hk1 : k ≤ 900000000) (h : RdL (Dt.list entryD) w w.heap.size s.v (mkL mkEntryS numEntryS k l)) :
    Calls Tryz.prog 76 #[.slice s.a s.n s.c, .int .i64 k] w fun e w' => e = .returned (.int .i64 (k + (numL numEntryS l : Nat))) ∧ Below w.heap.size w w' := by
  obtain ⟨A, n, c⟩ := s
  obtain ⟨A', c', hv, -⟩ := h.form
  simp only [Sl.v, Value.slice.injEq, mkL_length] at hv
  obtain ⟨rfl, rfl, rfl⟩ := hv
  have hll : l.length ≤ 2000000 := Nat.le_trans (cntL_len _ _) hl
  have hnl : ∀ j, numL numEntryS (l.take j) ≤ 26000000 := fun j => by
    have h1 := numL_take_le numEntryS l j
    have h2 := numL_le (num := numEntryS) (cnt := cntEntryS) (K := 13) numEntryS_le l
    omega
  have hcc : ∀ k (hk : k < l.length), cntEntryS l[k] ≤ 2000000 := fun k hk => by have := cntL_mem (cnt := cntEntryS) (List.getElem_mem hk); omega
  have hcell : ∀ (wr : World) (j : Nat) (hj : j < l.length) (m : Int), Below w.heap.size w wr → m = k + (numL numEntryS (l.take j) : Nat) → ∃ b o, ∃ s : Sl, A = some ⟨b, o, none⟩ ∧ b < w.heap.size ∧ (Dt.list entryD).rd wr w.heap.size (mkEntryS m l[j]) s ∧ wr.cell? ⟨b, o + j, none⟩ = some (.slice s.a s.n s.c) := by
    intro wr j hj m hb hm
    obtain ⟨b, o, s, h1, h2, h3, h4⟩ := (h.below hb).entryS (k := j) (by rw [mkL_length]; exact hj)
    first | rw [mkL_get _ _ _ _ _ hj, ← hm] at h3 h4 | rw [mkL_get _ _ _ _ _ hj, ← hm] at h3
    exact ⟨b, o, s, h1, h2, h3, h4⟩
  have Hc := Lib.hid hcell
  have Hnl := Lib.hid hnl
  clear hcell hnl hl
  go_enter Tryz.func76, Tryz.ntmps76
  go_wp2
  go_loopw [1, 5] (fun q i wr => ∃ (j : Nat) (m : Int), j ≤ l.length ∧ i = .int .i64 j ∧ q = .int .i64 m ∧ Hid (m = k + (numL numEntryS (l.take j) : Nat)) ∧ Below w.heap.size w wr) (fun _ i _ => l.length - (intOf i).toNat)
  case atStart => exact ⟨0, k, Nat.zero_le _, rfl, rfl, by show k = _; simp [numL], Below.refl _ _⟩
  case round =>
    obtain ⟨j, m, hj, rfl, rfl, hm, hb⟩ := hrel
    have hm' := hm.out
    have hnj := Hnl.out j
    have hm0 : 0 ≤ m := by omega
    have hm1 : m ≤ 926000000 := by omega
    clear hm' hnj
    by_cases hlt : j < l.length
    · have hltI : (j : Int) < (l.length : Int) := by omega
      obtain ⟨b, o, s, rfl, hbb, hrd, c0⟩ := Hc.out wr j hlt m hb hm.out
      have hx : ∀ W, Below wr.heap.size wr W → (Dt.list entryD).rd W W.heap.size (mkEntryS m l[j]) s := fun W hW => (Dt.list entryD).rd_more ((Dt.list entryD).rd_below ((Dt.list entryD).rd_more hrd hb.size) hW) hW.size
      have hce0 : cntL cntEntry l[j] ≤ 2000000 := by
        have := hcc j hlt
        unfold cntEntryS at this
        omega
      have hne0 : numL numEntry l[j] ≤ 26000000 := by
        have h2 := numL_le (num := numEntry) (cnt := cntEntry) (K := 13) numEntry_le l[j]
        omega
      go_wp2_with fail
      refine (heldEntryS_own l[j] s _ _ hce0 (by omega) (by omega) (hx _ (by first | exact Below.refl _ _ | exact (Below.refl _ _).drew))).mono ?_
      rintro e v0 ⟨rfl, hb0⟩
      have B0 : Below wr.heap.size wr v0 := bnext (by first | exact Below.refl _ _ | exact (Below.refl _ _).drew) hb0
      obtain ⟨q0, p0⟩ := bcell B0
      have hbr0 := Nat.lt_of_lt_of_le hbb hb.size
      go_wp2
      have hnum : (numL numEntryS (l.take (j + 1)) : Nat) = numL numEntryS (l.take j) + numEntryS l[j] := sum_take_succ _ _ _ hlt
      refine ⟨⟨j + 1, m + (numL numEntry l[j] : Nat), by omega, by go_num, rfl, ?_, bnext hb B0⟩, by simp [intOf]; omega⟩
      have hun : numEntryS l[j] = numL numEntry l[j] := rfl
      have hmf := hm.out
      show m + (numL numEntry l[j] : Nat) = _
      rw [hnum, hun]
      push_cast
      omega
    · have hj' : j = l.length := by omega
      subst hj'
      go_wp2
      go_ret
      refine ⟨ret_int ?_, hb⟩
      rw [hm.out, List.take_length]

end Go.Proofs.YtjobmbjadpldfaaGreat
end
section
namespace Go.Proofs.YtjobmbjadpldfaaGreat
open Go.RowKit
set_option maxRecDepth 100000
set_option maxHeartbeats 1000000
set_option linter.unusedVariables false
set_option linter.unusedSimpArgs false

@[go_sem] abbrev edgeW (x : Edge) (_s : Unit) : Value := .agg #[.int .i64 x.fr, .int .i64 x.to]
abbrev edgeD : Dt Edge := Dt.flat (fun q => [.int .i64 q.1.fr, .int .i64 q.1.to]) 2 (fun _ => rfl) (fun q u hu => by simp at hu; rcases hu with rfl | rfl <;> rfl)
/-- all lengths in it together -/
def cntEdge (_ : Edge) : Nat := 0
/-- ints are int64, lengths are what a machine holds -/
def wfEdge (x : Edge) : Prop := Wf x.fr ∧ Wf x.to
def numEdge (_ : Edge) : Nat := 2
/-- with the marks from k on -/
def mkEdge (k : Int) (_ : Edge) : Edge := ⟨k, k + 1⟩
theorem numEdge_le (x : Edge) : numEdge x ≤ 13 * (cntEdge x + 1) := by
  unfold numEdge cntEdge
  omega

theorem toEdge_own (x : Edge) (s : Unit) (w : World) (hl : cntEdge x ≤ 2000000) (h : edgeD.rd w w.heap.size x s) :
    Calls Tryz.prog 121 #[edgeW x s] w (OwnPost edgeD edgeW x w) := by
  have hbx : ∀ W, Below w.heap.size w W → edgeD.rd W W.heap.size x s := fun W hW => edgeD.rd_more (edgeD.rd_below h hW) hW.size
  go_enter Tryz.func121, Tryz.ntmps121
  go_wp2
  refine bodyPost_ret (v := edgeW x ()) ?_ rfl ?_
  · simp [edgeW, results, Tryz.results121, go_sem]
  · exact ⟨(), [], rfl, rfl, (fun _ h => by cases h), by repeat (first | (with_reducible exact Below.refl _ _) | refine Below.setCell ?_ (by simp <;> omega) _ | refine Below.alloc ?_ (by simp <;> omega) _)⟩

theorem eqEdge_own (x y : Edge) (s r : Unit) (w : World) (hl : cntEdge x ≤ 2000000) (hl' : cntEdge y ≤ 2000000) (h : edgeD.rd w w.heap.size x s) (h' : edgeD.rd w w.heap.size y r) :
    Calls Tryz.prog 122 #[edgeW x s, edgeW y r] w fun e w' => e = .returned (.bool (decide (x = y))) ∧ Below w.heap.size w w' := by
  have hbx : ∀ W, Below w.heap.size w W → edgeD.rd W W.heap.size x s := fun W hW => edgeD.rd_more (edgeD.rd_below h hW) hW.size
  have hby : ∀ W, Below w.heap.size w W → edgeD.rd W W.heap.size y r := fun W hW => edgeD.rd_more (edgeD.rd_below h' hW) hW.size
  by_cases h0 : x.fr = y.fr
  case neg =>
    have t0 : (x.fr != y.fr) = true := by rw [bne_iff_ne]; exact h0
    have H := Lib.hid (show decide (x = y) = false by simp only [decide_eq_false_iff_not]; intro e; exact h0 (by rw [e]))
    clear h0
    go_enter Tryz.func122, Tryz.ntmps122
    go_wp2
    go_ret
    exact ⟨ret_bool (by first | exact H.out.symm | rfl), by repeat (first | exact Below.refl _ _ | refine Below.alloc ?_ (by simp <;> omega) _)⟩
  have t0 : (x.fr != y.fr) = false := by simp [h0]
  have H0 := Lib.hid h0
  clear h0
  by_cases h1 : x.to = y.to
  case neg =>
    have t1 : (x.to != y.to) = true := by rw [bne_iff_ne]; exact h1
    have H := Lib.hid (show decide (x = y) = false by simp only [decide_eq_false_iff_not]; intro e; exact h1 (by rw [e]))
    clear h1
    go_enter Tryz.func122, Tryz.ntmps122
    go_wp2
    go_ret
    exact ⟨ret_bool (by first | exact H.out.symm | rfl), by repeat (first | exact Below.refl _ _ | refine Below.alloc ?_ (by simp <;> omega) _)⟩
  have t1 : (x.to != y.to) = false := by simp [h1]
  have H1 := Lib.hid h1
  clear h1
  have H := Lib.hid (show decide (x = y) = true by
    simp only [decide_eq_true_eq]
    have hh := And.intro H0.out H1.out
    obtain ⟨e0, e1⟩ := hh
    cases x
    cases y
    simp only at e0 e1
    subst e0 e1
    rfl)
  go_enter Tryz.func122, Tryz.ntmps122
  go_wp2
  go_ret
  exact ⟨ret_bool (by first | exact H.out.symm | rfl), by repeat (first | exact Below.refl _ _ | refine Below.alloc ?_ (by simp <;> omega) _)⟩

theorem RdL.edge {w : World} {B : Nat} {A : Option Addr} {n c : Nat} {l : List (Edge)} (h : RdL edgeD w B (.slice A n c) l) {k : Nat} (hk : k < l.length) :
    ∃ b o, ∃ _s : Unit, A = some ⟨b, o, none⟩ ∧ b < B ∧ edgeD.rd w B l[k] _s ∧ w.cell? ⟨b, o + k * 2, none⟩ = some (.int .i64 l[k].fr) ∧ w.cell? ⟨b, o + k * 2 + 1, none⟩ = some (.int .i64 l[k].to) := by
  obtain ⟨b, o, s, rfl, hb, hc, hr⟩ := h.at_ k hk
  exact ⟨b, o, s, rfl, hb, hr, hc 0 _ rfl, hc 1 _ rfl⟩
theorem Ow.c_edge {E : TypeId} {w : World} {base g n cap : Nat} {l : List ((Edge) × Unit)} (h : Ow edgeD.enc E w base (.slice (some ⟨g, 0, none⟩) n cap) l) {k : Nat} (hk : k < l.length) :
    w.cell? ⟨g, k * 2, none⟩ = some (.int .i64 l[k].1.fr) ∧ w.cell? ⟨g, k * 2 + 1, none⟩ = some (.int .i64 l[k].1.to) := by
  rcases h.form with ⟨h1, _⟩ | ⟨g', cap', hv, _, _, _, _, _, hc⟩
  · simp at h1
  · simp only [Value.slice.injEq, Option.some.injEq, Addr.mk.injEq, and_true] at hv
    obtain ⟨rfl, _, _⟩ := hv
    exact ⟨hc k hk 0 _ rfl, hc k hk 1 _ rfl⟩
theorem Foc.edge {w : World} {b o n c j : Nat} {rs : List ((Edge) × Unit)} {G1 Fx G2 : List Nat} {x : Edge} {s : Unit} (h : Foc edgeD w b o n c rs j G1 Fx G2 x s) :
    w.cell? ⟨b, o + j * 2, none⟩ = some (.int .i64 x.fr) ∧ w.cell? ⟨b, o + j * 2 + 1, none⟩ = some (.int .i64 x.to) := ⟨h.cells 0 _ rfl, h.cells 1 _ rfl⟩

theorem szEdgeS_own (l : List (Edge)) (s : Sl) (left : Int) (w : World) (h0 : 0 ≤ left) (h1 : left ≤ 2000000) (hw : wfL wfEdge l) (h : RdL edgeD w w.heap.size s.v l) :
    Calls Tryz.prog 114 #[.slice s.a s.n s.c, .int .i64 left] w (SzPost left (cntL cntEdge l) w) := by
  obtain ⟨A, n, c⟩ := s
  obtain ⟨A', c', hv, -⟩ := h.form
  simp only [Sl.v, Value.slice.injEq] at hv
  obtain ⟨rfl, rfl, rfl⟩ := hv
  have hll := hw.1
  by_cases hlt : left < l.length
  · go_enter Tryz.func114, Tryz.ntmps114
    go_wp2
    go_ret
    exact ⟨-1, rfl, .inl rfl, Below.refl _ _⟩
  go_enter Tryz.func114, Tryz.ntmps114
  go_wp2
  go_ret
  exact ⟨_, rfl, .inr ⟨by omega, by rw [cntL_zero (cnt := cntEdge) (fun _ => rfl) l]; omega⟩, Below.refl _ _⟩

theorem eqEdgeS_own (l l' : List (Edge)) (s s' : Sl) (w : World) (hl : cntL cntEdge l ≤ 2000000) (hl' : cntL cntEdge l' ≤ 2000000) (h : RdL edgeD w w.heap.size s.v l) (h' : RdL edgeD w w.heap.size s'.v l') :
    Calls Tryz.prog 117 #[.slice s.a s.n s.c, .slice s'.a s'.n s'.c] w fun e w' => e = .returned (.bool (decide (l = l'))) ∧ Below w.heap.size w w' := by
  obtain ⟨A, n, c⟩ := s
  obtain ⟨A0, c0, hv, -⟩ := h.form
  simp only [Sl.v, Value.slice.injEq] at hv
  obtain ⟨rfl, rfl, rfl⟩ := hv
  obtain ⟨A', n', c'⟩ := s'
  obtain ⟨A0, c0, hv, -⟩ := h'.form
  simp only [Sl.v, Value.slice.injEq] at hv
  obtain ⟨rfl, rfl, rfl⟩ := hv
  have hll : l.length ≤ 2000000 := Nat.le_trans (cntL_len _ _) hl
  have hll' : l'.length ≤ 2000000 := Nat.le_trans (cntL_len _ _) hl'
  have hcc : ∀ k (hk : k < l.length), cntEdge l[k] ≤ 2000000 := fun k hk => by have := cntL_mem (cnt := cntEdge) (List.getElem_mem hk); omega
  have hcc' : ∀ k (hk : k < l'.length), cntEdge l'[k] ≤ 2000000 := fun k hk => by have := cntL_mem (cnt := cntEdge) (List.getElem_mem hk); omega
  clear hl hl'
  by_cases hne : l.length = l'.length
  · have hb0 : ((l.length : Int) != (l'.length : Int)) = false := by simp [hne]
    have Hne := Lib.hid hne
    clear hne
    go_enter Tryz.func117, Tryz.ntmps117
    go_wp2
    go_loopw [5] (fun i wr => ∃ k : Nat, k ≤ l.length ∧ i = .int .i64 k ∧ Hid (l.take k = l'.take k) ∧ Below w.heap.size w wr) (fun i _ => l.length - (intOf i).toNat)
    case atStart => exact ⟨0, Nat.zero_le _, rfl, rfl, Below.refl _ _⟩
    case round =>
      obtain ⟨k, hk, rfl, heq, hb⟩ := hrel
      by_cases hlt : k < l.length
      · have hlt' : k < l'.length := by rw [← Hne.out]; exact hlt
        obtain ⟨b, o, s, rfl, hbb, hr, c0, c1⟩ := (h.below hb).edge hlt
        obtain ⟨b', o', s', rfl, hbb', hr', d0, d1⟩ := (h'.below hb).edge hlt'
        have hx : ∀ W, Below wr.heap.size wr W → edgeD.rd W W.heap.size l[k] s := fun W hW => edgeD.rd_more (edgeD.rd_below (edgeD.rd_more hr hb.size) hW) hW.size
        have hx' : ∀ W, Below wr.heap.size wr W → edgeD.rd W W.heap.size l'[k] s' := fun W hW => edgeD.rd_more (edgeD.rd_below (edgeD.rd_more hr' hb.size) hW) hW.size
        go_wp2
        go_still_tail 8, (by kernel_rfl)
        go_wp2_with (go_at_call 122; refine (eqEdge_own l[k] l'[k] s s' _ (hcc k hlt) (hcc' k hlt') (hx _ (by first | exact Below.refl _ _ | exact (Below.refl _ _).drew)) (hx' _ (by first | exact Below.refl _ _ | exact (Below.refl _ _).drew))).mono ?_; rintro e w1 ⟨rfl, hb1⟩)
        · rename_i hd
          go_ret
          refine ⟨ret_bool ?_, (hb.drew).trans (hb1.mono hb.size)⟩
          simp only [Bool.false_eq, decide_eq_false_iff_not]
          intro e
          subst e
          simp at hd
        · rename_i hd
          refine ⟨⟨k + 1, by omega, by go_num, ?_, (hb.drew).trans (hb1.mono hb.size)⟩, by simp [intOf]; omega⟩
          show List.take (k + 1) l = List.take (k + 1) l'
          rw [take_snoc l k hlt, take_snoc l' k hlt', heq.out]
          simp at hd
          rw [hd]
      · go_wp2
        go_ret
        refine ⟨ret_bool ?_, hb⟩
        have h1 := heq.out
        rw [List.take_of_length_le (by omega), List.take_of_length_le (by rw [← Hne.out]; omega)] at h1
        simp [h1]
  · have hb0 : ((l.length : Int) != (l'.length : Int)) = true := by simp; omega
    go_enter Tryz.func117, Tryz.ntmps117
    go_wp2
    go_ret
    refine ⟨ret_bool ?_, Below.refl _ _⟩
    simp only [Bool.false_eq, decide_eq_false_iff_not]
    intro e
    exact hne (by rw [e])


theorem edge_infoD : (Tryz.prog.info? 140).map (fun i => (i.zero, i.size, i.bytes)) = some (some (.agg #[.int .i64 0, .int .i64 0]), 2, 16) := by kernel_rfl

theorem toEdgeS_own (l : List (Edge)) (s : Sl) (w : World) (hl : cntL cntEdge l ≤ 2000000) (h : RdL edgeD w w.heap.size s.v l) :
    Calls Tryz.prog 115 #[.slice s.a s.n s.c] w (OwnPost (Dt.list edgeD) slV l w) := by
  obtain ⟨A, n, c⟩ := s
  obtain ⟨A', c', hv, -⟩ := h.form
  simp only [Sl.v, Value.slice.injEq] at hv
  obtain ⟨rfl, rfl, rfl⟩ := hv
  have hll : l.length ≤ 2000000 := Nat.le_trans (cntL_len _ _) hl
  have hcc : ∀ k (hk : k < l.length), cntEdge l[k] ≤ 2000000 := fun k hk => by have := cntL_mem (cnt := cntEdge) (List.getElem_mem hk); omega
  clear hl
  obtain ⟨i0, hi0, hz0, hz1, hz2⟩ := info_parts edge_infoD
  have hmk : ∀ w : World, (Instr.makeSlice 79 (.int .i64 (l.length : Int)) (.int .i64 (l.length : Int))).run Tryz.prog w = .ok (.slice (some ⟨w.heap.size, 0, none⟩) l.length l.length) (w.alloc (.cells (madeCells #[.int .i64 0, .int .i64 0] (l.length * 2)) 140)) := by
    intro w
    have := run_make (P := Tryz.prog) w 79 140 i0 _ Tryz.underlying79 hi0 hz0 .i64 .i64 l.length l.length (by omega) (by omega) (by rw [hz2]; omega) (by omega)
    rw [hz1] at this
    simpa [Value.cells] using this
  go_enter Tryz.func115, Tryz.ntmps115
  go_wp2
  go_loopw [4] (fun i wr => ∃ k : Nat, k ≤ l.length ∧ i = .int .i64 k ∧ Hid (∃ (rs : List ((Edge) × Unit)) (G : List Nat), rs.map (·.1) = l.take k ∧ Ow edgeD.enc 140 wr w.heap.size (.slice (some ⟨w.heap.size, 0, none⟩) l.length l.length) (rs ++ List.replicate (l.length - k) (⟨0, 0⟩, ())) ∧ Ows edgeD wr G rs ∧ G.Nodup ∧ ∀ b ∈ G, w.heap.size < b) ∧ Below w.heap.size w wr) (fun i _ => l.length - (intOf i).toNat)
  case atStart => exact ⟨0, Nat.zero_le _, rfl, ⟨[], [], rfl, by rw [List.nil_append, Nat.sub_zero]; exact Ow.made edgeD.enc 140 w (⟨0, 0⟩, ()) l.length (by decide) (by simp [maxLen]; omega) rfl rfl, .nil, List.nodup_nil, fun _ h => by cases h⟩, (Below.refl _ _).alloc (Nat.le_refl _) _⟩
  case round =>
    obtain ⟨k, hk, rfl, ⟨rs, G, hm, hown, hG, hGn, hGb⟩, hb⟩ := hrel
    have hrl : rs.length = k := by have := congrArg List.length hm; simpa [Nat.min_eq_left hk] using this
    by_cases hlt : k < l.length
    · obtain ⟨b, o, s, rfl, hbb, hr, c0, c1⟩ := (h.below hb).edge hlt
      have hx : ∀ W, Below wr.heap.size wr W → edgeD.rd W W.heap.size l[k] s := fun W hW => edgeD.rd_more (edgeD.rd_below (edgeD.rd_more hr hb.size) hW) hW.size
      have hlen : (rs ++ List.replicate (l.length - k) ((⟨0, 0⟩, ()) : (Edge) × Unit)).length = l.length := by simp; omega
      have Hm := Lib.hid hm
      have Hrl := Lib.hid hrl
      clear hm hrl
      go_wp2_with (go_at_call 121; refine (toEdge_own l[k] s _ (hcc k hlt) (hx _ (by first | exact Below.refl _ _ | exact (Below.refl _ _).drew))).mono ?_; rintro e w1 ⟨s1, F1, rfl, o1, n1, hb1⟩; have hown1 := hown.below hb1; have hf := hown1.free; obtain ⟨d0, d1⟩ := hown1.c_edge (k := k) (by rw [hlen]; exact hlt))
      have hp := Ow.put hown1 hlen k hlt (l[k], s1)
      have Hp := Bld.lay hG hGn hGb hb1 (r := (l[k], s1)) o1 n1 (Nat.lt_of_lt_of_le (hown.blk).2 (Nat.le_refl _)) hp.2
      rw [mix_snoc rs _ k l.length Hrl.out hlt] at hp
      refine ⟨⟨k + 1, by omega, by go_num, ⟨rs ++ [(l[k], s1)], G ++ F1, ?_, hp.1, Hp.1, Hp.2.1, Hp.2.2⟩, (hb.trans (hb1.mono hb.size)).grown hp.2 (Nat.le_trans hb.size hb1.size) (fun g hg => by simp at hg; omega)⟩, by simp [intOf]; omega⟩
      rw [List.map_append, Hm.out, take_snoc l k hlt]
      rfl
    · have hk' : k = l.length := by omega
      subst hk'
      rw [Nat.sub_self, List.replicate_zero, List.append_nil] at hown
      go_wp2
      go_ret
      rw [List.take_length] at hm
      have hB : Bld edgeD 140 wr w.heap.size (.slice (some ⟨w.heap.size, 0, none⟩) l.length l.length) rs := ⟨G, by rw [← hrl]; exact (by rw [hrl]; exact hown), hG, hGn, fun b hb' => ⟨Nat.le_of_lt (hGb b hb'), by simp [Value.ownBlock]; have := hGb b hb'; omega⟩⟩
      obtain ⟨F, h1, h2⟩ := hB.owl hm
      exact ⟨⟨some ⟨w.heap.size, 0, none⟩, l.length, l.length⟩, F, rfl, h1, h2, hb⟩


theorem markEdgeS_own (l : List (Edge)) (s : Sl) (F : List Nat) (k : Int) (w : World) (hl : cntL cntEdge l ≤ 2000000) (hk0 : 0 ≤ k) (hk1 : k ≤ 1000000000) (h : OwL edgeD w F s.v l) :
    Calls Tryz.prog 74 #[.slice s.a s.n s.c, .int .i64 k] w (MkPost (Dt.list edgeD) F (mkL mkEdge numEdge k l) s (k + (numL numEdge l : Nat)) w) := by
  obtain ⟨A, n, c⟩ := s
  obtain ⟨A', c', hv, -⟩ := h.form
  simp only [Sl.v, Value.slice.injEq] at hv
  obtain ⟨rfl, rfl, rfl⟩ := hv
  have hll : l.length ≤ 2000000 := Nat.le_trans (cntL_len _ _) hl
  have hnl : ∀ j, numL numEdge (l.take j) ≤ 26000000 := fun j => by
    have h1 := numL_take_le numEdge l j
    have h2 := numL_le (num := numEdge) (cnt := cntEdge) (K := 13) numEdge_le l
    omega
  have Hnl := Lib.hid hnl
  clear hnl hl
  go_enter Tryz.func74, Tryz.ntmps74
  go_wp2
  go_loopw [1, 5] (fun q i wr => ∃ (j : Nat) (m : Int), j ≤ l.length ∧ i = .int .i64 j ∧ q = .int .i64 m ∧ Hid (m = k + (numL numEdge (l.take j) : Nat)) ∧ OwL edgeD wr F (.slice A l.length c) (mkL mkEdge numEdge k (l.take j) ++ l.drop j) ∧ Chg F w wr) (fun _ i _ => l.length - (intOf i).toNat)
  case atStart => exact ⟨0, k, Nat.zero_le _, rfl, rfl, by show k = _; simp [numL], h, Chg.refl _ _⟩
  case round =>
    obtain ⟨j, m, hj, rfl, rfl, hm, ho, hc⟩ := hrel
    have hm' := hm.out
    have hnj := Hnl.out j
    have hm0 : 0 ≤ m := by omega
    have hm1 : m ≤ 1026000000 := by omega
    clear hm' hnj
    by_cases hlt : j < l.length
    · have hltI : (j : Int) < (l.length : Int) := by omega
      have hlen : (mkL mkEdge numEdge k (l.take j) ++ l.drop j).length = l.length := by simp [mkL_length]; omega
      obtain ⟨b, o, rs, s, G1, Fx, G2, rfl, hF, hrm, f0⟩ := ho.foc (j := j) (by rw [hlen]; exact hlt)
      rw [mkL_here mkEdge numEdge k l j hlt] at f0
      subst hF
      have Hrm := Lib.hid hrm
      clear hrm ho
      obtain ⟨c0, c1⟩ := f0.edge
      have fr0 := f0.free
      go_wp2
      obtain ⟨f1, g1⟩ := f0.put ⟨m, m + 1⟩ 0 [.int .i64 (m), .int .i64 (m + 1)] (by show 0 + 2 ≤ 2; omega) (fun i hi => match i, hi with | 0, _ => rfl | 1, _ => rfl | i + 2, hi => absurd hi (by simp)) (fun i hi hx => match i, hi, hx with | 0, _, hx => absurd hx (by simp) | 1, _, hx => absurd hx (by simp) | i + 2, hi, _ => absurd hi (by show ¬ (i + 2 < 2); omega)) (fun _ hh => hh)
      have hmf := hm.out
      have hown := f1.owl Hrm.out
      have hval : ⟨m, m + 1⟩ = mkEdge m l[j] := rfl
      have hset := mkL_set mkEdge numEdge k l j hlt
      rw [← hm.out] at hset
      rw [hval, hset] at hown
      have hnum : (numL numEdge (l.take (j + 1)) : Nat) = numL numEdge (l.take j) + numEdge l[j] := sum_take_succ _ _ _ hlt
      refine ⟨⟨j + 1, m + 1 + 1, by omega, by go_num, rfl, ?_, hown, (hc).trans (g1.mono (fun _ hh => mem_box hh))⟩, by simp [intOf]; omega⟩
      have hun : numEdge l[j] = 2 := rfl
      show m + 1 + 1 = _
      rw [hnum, hun]
      push_cast
      omega
    · have hj' : j = l.length := by omega
      subst hj'
      rw [List.take_length, List.drop_length, List.append_nil] at ho
      go_wp2
      go_ret
      refine ⟨ret_int ?_, ho, hc⟩
      rw [hm.out, List.take_length]


theorem heldEdgeS_own (l : List (Edge)) (s : Sl) (k : Int) (w : World) (hl : cntL cntEdge l ≤ 2000000) (hk0 : 0 ≤ k) (hk1 : k ≤ 1000000000) (h : RdL edgeD w w.heap.size s.v (mkL mkEdge numEdge k l)) :
    Calls Tryz.prog 105 #[.slice s.a s.n s.c, .int .i64 k] w fun e w' => e = .returned (.int .i64 (k + (numL numEdge l : Nat))) ∧ Below w.heap.size w w' := by
  obtain ⟨A, n, c⟩ := s
  obtain ⟨A', c', hv, -⟩ := h.form
  simp only [Sl.v, Value.slice.injEq, mkL_length] at hv
  obtain ⟨rfl, rfl, rfl⟩ := hv
  have hll : l.length ≤ 2000000 := Nat.le_trans (cntL_len _ _) hl
  have hnl : ∀ j, numL numEdge (l.take j) ≤ 26000000 := fun j => by
    have h1 := numL_take_le numEdge l j
    have h2 := numL_le (num := numEdge) (cnt := cntEdge) (K := 13) numEdge_le l
    omega
  have hcell : ∀ (wr : World) (j : Nat) (hj : j < l.length) (m : Int), Below w.heap.size w wr → m = k + (numL numEdge (l.take j) : Nat) → ∃ b o, ∃ s : Unit, A = some ⟨b, o, none⟩ ∧ b < w.heap.size ∧ edgeD.rd wr w.heap.size (mkEdge m l[j]) s ∧ wr.cell? ⟨b, o + j * 2, none⟩ = some (.int .i64 (m)) ∧ wr.cell? ⟨b, o + j * 2 + 1, none⟩ = some (.int .i64 (m + 1)) := by
    intro wr j hj m hb hm
    obtain ⟨b, o, s, h1, h2, h3, h4⟩ := (h.below hb).edge (k := j) (by rw [mkL_length]; exact hj)
    first | rw [mkL_get _ _ _ _ _ hj, ← hm] at h3 h4 | rw [mkL_get _ _ _ _ _ hj, ← hm] at h3
    exact ⟨b, o, s, h1, h2, h3, h4⟩
  have Hc := Lib.hid hcell
  have Hnl := Lib.hid hnl
  clear hcell hnl hl
  go_enter Tryz.func105, Tryz.ntmps105
  go_wp2
  go_loopw [1, 5] (fun q i wr => ∃ (j : Nat) (m : Int), j ≤ l.length ∧ i = .int .i64 j ∧ q = .int .i64 m ∧ Hid (m = k + (numL numEdge (l.take j) : Nat)) ∧ Below w.heap.size w wr) (fun _ i _ => l.length - (intOf i).toNat)
  case atStart => exact ⟨0, k, Nat.zero_le _, rfl, rfl, by show k = _; simp [numL], Below.refl _ _⟩
  case round =>
    obtain ⟨j, m, hj, rfl, rfl, hm, hb⟩ := hrel
    have hm' := hm.out
    have hnj := Hnl.out j
    have hm0 : 0 ≤ m := by omega
    have hm1 : m ≤ 1026000000 := by omega
    clear hm' hnj
    by_cases hlt : j < l.length
    · have hltI : (j : Int) < (l.length : Int) := by omega
      obtain ⟨b, o, s, rfl, hbb, hrd, c0, c1⟩ := Hc.out wr j hlt m hb hm.out
      go_wp2
      have hnum : (numL numEdge (l.take (j + 1)) : Nat) = numL numEdge (l.take j) + numEdge l[j] := sum_take_succ _ _ _ hlt
      refine ⟨⟨j + 1, m + 1 + 1, by omega, by go_num, rfl, ?_, hb⟩, by simp [intOf]; omega⟩
      have hun : numEdge l[j] = 2 := rfl
      have hmf := hm.out
      show m + 1 + 1 = _
      rw [hnum, hun]
      push_cast
      omega
    · have hj' : j = l.length := by omega
      subst hj'
      go_wp2
      go_ret
      refine ⟨ret_int ?_, hb⟩
      rw [hm.out, List.take_length]

end Go.Proofs.YtjobmbjadpldfaaGreat
end
section
namespace Go.Proofs.YtjobmbjadpldfaaGreat
open Go.RowKit
set_option maxRecDepth 100000
set_option maxHeartbeats 1000000
set_option linter.unusedVariables false
set_option linter.unusedSimpArgs false

structure Task where
  state : Int
  need : Int
  try_ : Int
  until_ : Int
deriving DecidableEq, Inhabited

@[go_sem] abbrev taskW (x : Task) (_s : Unit) : Value := .agg #[.int .i64 x.state, .int .i64 x.need, .int .i64 x.try_, .int .i64 x.until_]
abbrev taskD : Dt Task := Dt.flat (fun q => [.int .i64 q.1.state, .int .i64 q.1.need, .int .i64 q.1.try_, .int .i64 q.1.until_]) 4 (fun _ => rfl) (fun q u hu => by simp at hu; rcases hu with rfl | rfl | rfl | rfl <;> rfl)
/-- all lengths in it together -/
def cntTask (_ : Task) : Nat := 0
/-- ints are int64, lengths are what a machine holds -/
def wfTask (x : Task) : Prop := Wf x.state ∧ Wf x.need ∧ Wf x.try_ ∧ Wf x.until_
def numTask (_ : Task) : Nat := 4
/-- with the marks from k on -/
def mkTask (k : Int) (_ : Task) : Task := ⟨k, k + 1, k + 1 + 1, k + 1 + 1 + 1⟩
theorem numTask_le (x : Task) : numTask x ≤ 13 * (cntTask x + 1) := by
  unfold numTask cntTask
  omega

theorem toTask_own (x : Task) (s : Unit) (w : World) (hl : cntTask x ≤ 2000000) (h : taskD.rd w w.heap.size x s) :
    Calls Tryz.prog 116 #[taskW x s] w (OwnPost taskD taskW x w) := by
  have hbx : ∀ W, Below w.heap.size w W → taskD.rd W W.heap.size x s := fun W hW => taskD.rd_more (taskD.rd_below h hW) hW.size
  go_enter Tryz.func116, Tryz.ntmps116
  go_wp2
  refine bodyPost_ret (v := taskW x ()) ?_ rfl ?_
  · simp [taskW, results, Tryz.results116, go_sem]
  · exact ⟨(), [], rfl, rfl, (fun _ h => by cases h), by repeat (first | (with_reducible exact Below.refl _ _) | refine Below.setCell ?_ (by simp <;> omega) _ | refine Below.alloc ?_ (by simp <;> omega) _)⟩

theorem eqTask_own (x y : Task) (s r : Unit) (w : World) (hl : cntTask x ≤ 2000000) (hl' : cntTask y ≤ 2000000) (h : taskD.rd w w.heap.size x s) (h' : taskD.rd w w.heap.size y r) :
    Calls Tryz.prog 118 #[taskW x s, taskW y r] w fun e w' => e = .returned (.bool (decide (x = y))) ∧ Below w.heap.size w w' := by
  have hbx : ∀ W, Below w.heap.size w W → taskD.rd W W.heap.size x s := fun W hW => taskD.rd_more (taskD.rd_below h hW) hW.size
  have hby : ∀ W, Below w.heap.size w W → taskD.rd W W.heap.size y r := fun W hW => taskD.rd_more (taskD.rd_below h' hW) hW.size
  by_cases h0 : x.state = y.state
  case neg =>
    have t0 : (x.state != y.state) = true := by rw [bne_iff_ne]; exact h0
    have H := Lib.hid (show decide (x = y) = false by simp only [decide_eq_false_iff_not]; intro e; exact h0 (by rw [e]))
    clear h0
    go_enter Tryz.func118, Tryz.ntmps118
    go_wp2
    go_ret
    exact ⟨ret_bool (by first | exact H.out.symm | rfl), by repeat (first | exact Below.refl _ _ | refine Below.alloc ?_ (by simp <;> omega) _)⟩
  have t0 : (x.state != y.state) = false := by simp [h0]
  have H0 := Lib.hid h0
  clear h0
  by_cases h1 : x.need = y.need
  case neg =>
    have t1 : (x.need != y.need) = true := by rw [bne_iff_ne]; exact h1
    have H := Lib.hid (show decide (x = y) = false by simp only [decide_eq_false_iff_not]; intro e; exact h1 (by rw [e]))
    clear h1
    go_enter Tryz.func118, Tryz.ntmps118
    go_wp2
    go_ret
    exact ⟨ret_bool (by first | exact H.out.symm | rfl), by repeat (first | exact Below.refl _ _ | refine Below.alloc ?_ (by simp <;> omega) _)⟩
  have t1 : (x.need != y.need) = false := by simp [h1]
  have H1 := Lib.hid h1
  clear h1
  by_cases h2 : x.try_ = y.try_
  case neg =>
    have t2 : (x.try_ != y.try_) = true := by rw [bne_iff_ne]; exact h2
    have H := Lib.hid (show decide (x = y) = false by simp only [decide_eq_false_iff_not]; intro e; exact h2 (by rw [e]))
    clear h2
    go_enter Tryz.func118, Tryz.ntmps118
    go_wp2
    go_ret
    exact ⟨ret_bool (by first | exact H.out.symm | rfl), by repeat (first | exact Below.refl _ _ | refine Below.alloc ?_ (by simp <;> omega) _)⟩
  have t2 : (x.try_ != y.try_) = false := by simp [h2]
  have H2 := Lib.hid h2
  clear h2
  by_cases h3 : x.until_ = y.until_
  case neg =>
    have t3 : (x.until_ != y.until_) = true := by rw [bne_iff_ne]; exact h3
    have H := Lib.hid (show decide (x = y) = false by simp only [decide_eq_false_iff_not]; intro e; exact h3 (by rw [e]))
    clear h3
    go_enter Tryz.func118, Tryz.ntmps118
    go_wp2
    go_ret
    exact ⟨ret_bool (by first | exact H.out.symm | rfl), by repeat (first | exact Below.refl _ _ | refine Below.alloc ?_ (by simp <;> omega) _)⟩
  have t3 : (x.until_ != y.until_) = false := by simp [h3]
  have H3 := Lib.hid h3
  clear h3
  have H := Lib.hid (show decide (x = y) = true by
    simp only [decide_eq_true_eq]
    have hh := And.intro H0.out (And.intro H1.out (And.intro H2.out H3.out))
    obtain ⟨e0, e1, e2, e3⟩ := hh
    cases x
    cases y
    simp only at e0 e1 e2 e3
    subst e0 e1 e2 e3
    rfl)
  go_enter Tryz.func118, Tryz.ntmps118
  go_wp2
  go_ret
  exact ⟨ret_bool (by first | exact H.out.symm | rfl), by repeat (first | exact Below.refl _ _ | refine Below.alloc ?_ (by simp <;> omega) _)⟩

theorem RdL.task {w : World} {B : Nat} {A : Option Addr} {n c : Nat} {l : List (Task)} (h : RdL taskD w B (.slice A n c) l) {k : Nat} (hk : k < l.length) :
    ∃ b o, ∃ _s : Unit, A = some ⟨b, o, none⟩ ∧ b < B ∧ taskD.rd w B l[k] _s ∧ w.cell? ⟨b, o + k * 4, none⟩ = some (.int .i64 l[k].state) ∧ w.cell? ⟨b, o + k * 4 + 1, none⟩ = some (.int .i64 l[k].need) ∧ w.cell? ⟨b, o + k * 4 + 2, none⟩ = some (.int .i64 l[k].try_) ∧ w.cell? ⟨b, o + k * 4 + 3, none⟩ = some (.int .i64 l[k].until_) := by
  obtain ⟨b, o, s, rfl, hb, hc, hr⟩ := h.at_ k hk
  exact ⟨b, o, s, rfl, hb, hr, hc 0 _ rfl, hc 1 _ rfl, hc 2 _ rfl, hc 3 _ rfl⟩
theorem Ow.c_task {E : TypeId} {w : World} {base g n cap : Nat} {l : List ((Task) × Unit)} (h : Ow taskD.enc E w base (.slice (some ⟨g, 0, none⟩) n cap) l) {k : Nat} (hk : k < l.length) :
    w.cell? ⟨g, k * 4, none⟩ = some (.int .i64 l[k].1.state) ∧ w.cell? ⟨g, k * 4 + 1, none⟩ = some (.int .i64 l[k].1.need) ∧ w.cell? ⟨g, k * 4 + 2, none⟩ = some (.int .i64 l[k].1.try_) ∧ w.cell? ⟨g, k * 4 + 3, none⟩ = some (.int .i64 l[k].1.until_) := by
  rcases h.form with ⟨h1, _⟩ | ⟨g', cap', hv, _, _, _, _, _, hc⟩
  · simp at h1
  · simp only [Value.slice.injEq, Option.some.injEq, Addr.mk.injEq, and_true] at hv
    obtain ⟨rfl, _, _⟩ := hv
    exact ⟨hc k hk 0 _ rfl, hc k hk 1 _ rfl, hc k hk 2 _ rfl, hc k hk 3 _ rfl⟩
theorem Foc.task {w : World} {b o n c j : Nat} {rs : List ((Task) × Unit)} {G1 Fx G2 : List Nat} {x : Task} {s : Unit} (h : Foc taskD w b o n c rs j G1 Fx G2 x s) :
    w.cell? ⟨b, o + j * 4, none⟩ = some (.int .i64 x.state) ∧ w.cell? ⟨b, o + j * 4 + 1, none⟩ = some (.int .i64 x.need) ∧ w.cell? ⟨b, o + j * 4 + 2, none⟩ = some (.int .i64 x.try_) ∧ w.cell? ⟨b, o + j * 4 + 3, none⟩ = some (.int .i64 x.until_) := ⟨h.cells 0 _ rfl, h.cells 1 _ rfl, h.cells 2 _ rfl, h.cells 3 _ rfl⟩

theorem szTaskS_own (l : List (Task)) (s : Sl) (left : Int) (w : World) (h0 : 0 ≤ left) (h1 : left ≤ 2000000) (hw : wfL wfTask l) (h : RdL taskD w w.heap.size s.v l) :
    Calls Tryz.prog 95 #[.slice s.a s.n s.c, .int .i64 left] w (SzPost left (cntL cntTask l) w) := by
  obtain ⟨A, n, c⟩ := s
  obtain ⟨A', c', hv, -⟩ := h.form
  simp only [Sl.v, Value.slice.injEq] at hv
  obtain ⟨rfl, rfl, rfl⟩ := hv
  have hll := hw.1
  by_cases hlt : left < l.length
  · go_enter Tryz.func95, Tryz.ntmps95
    go_wp2
    go_ret
    exact ⟨-1, rfl, .inl rfl, Below.refl _ _⟩
  go_enter Tryz.func95, Tryz.ntmps95
  go_wp2
  go_ret
  exact ⟨_, rfl, .inr ⟨by omega, by rw [cntL_zero (cnt := cntTask) (fun _ => rfl) l]; omega⟩, Below.refl _ _⟩

theorem eqTaskS_own (l l' : List (Task)) (s s' : Sl) (w : World) (hl : cntL cntTask l ≤ 2000000) (hl' : cntL cntTask l' ≤ 2000000) (h : RdL taskD w w.heap.size s.v l) (h' : RdL taskD w w.heap.size s'.v l') :
    Calls Tryz.prog 103 #[.slice s.a s.n s.c, .slice s'.a s'.n s'.c] w fun e w' => e = .returned (.bool (decide (l = l'))) ∧ Below w.heap.size w w' := by
  obtain ⟨A, n, c⟩ := s
  obtain ⟨A0, c0, hv, -⟩ := h.form
  simp only [Sl.v, Value.slice.injEq] at hv
  obtain ⟨rfl, rfl, rfl⟩ := hv
  obtain ⟨A', n', c'⟩ := s'
  obtain ⟨A0, c0, hv, -⟩ := h'.form
  simp only [Sl.v, Value.slice.injEq] at hv
  obtain ⟨rfl, rfl, rfl⟩ := hv
  have hll : l.length ≤ 2000000 := Nat.le_trans (cntL_len _ _) hl
  have hll' : l'.length ≤ 2000000 := Nat.le_trans (cntL_len _ _) hl'
  have hcc : ∀ k (hk : k < l.length), cntTask l[k] ≤ 2000000 := fun k hk => by have := cntL_mem (cnt := cntTask) (List.getElem_mem hk); omega
  have hcc' : ∀ k (hk : k < l'.length), cntTask l'[k] ≤ 2000000 := fun k hk => by have := cntL_mem (cnt := cntTask) (List.getElem_mem hk); omega
  clear hl hl'
  by_cases hne : l.length = l'.length
  · have hb0 : ((l.length : Int) != (l'.length : Int)) = false := by simp [hne]
    have Hne := Lib.hid hne
    clear hne
    go_enter Tryz.func103, Tryz.ntmps103
    go_wp2
    go_loopw [5] (fun i wr => ∃ k : Nat, k ≤ l.length ∧ i = .int .i64 k ∧ Hid (l.take k = l'.take k) ∧ Below w.heap.size w wr) (fun i _ => l.length - (intOf i).toNat)
    case atStart => exact ⟨0, Nat.zero_le _, rfl, rfl, Below.refl _ _⟩
    case round =>
      obtain ⟨k, hk, rfl, heq, hb⟩ := hrel
      by_cases hlt : k < l.length
      · have hlt' : k < l'.length := by rw [← Hne.out]; exact hlt
        obtain ⟨b, o, s, rfl, hbb, hr, c0, c1, c2, c3⟩ := (h.below hb).task hlt
        obtain ⟨b', o', s', rfl, hbb', hr', d0, d1, d2, d3⟩ := (h'.below hb).task hlt'
        have hx : ∀ W, Below wr.heap.size wr W → taskD.rd W W.heap.size l[k] s := fun W hW => taskD.rd_more (taskD.rd_below (taskD.rd_more hr hb.size) hW) hW.size
        have hx' : ∀ W, Below wr.heap.size wr W → taskD.rd W W.heap.size l'[k] s' := fun W hW => taskD.rd_more (taskD.rd_below (taskD.rd_more hr' hb.size) hW) hW.size
        go_wp2
        go_still_tail 8, (by kernel_rfl)
        go_wp2_with (go_at_call 118; refine (eqTask_own l[k] l'[k] s s' _ (hcc k hlt) (hcc' k hlt') (hx _ (by first | exact Below.refl _ _ | exact (Below.refl _ _).drew)) (hx' _ (by first | exact Below.refl _ _ | exact (Below.refl _ _).drew))).mono ?_; rintro e w1 ⟨rfl, hb1⟩)
        · rename_i hd
          go_ret
          refine ⟨ret_bool ?_, (hb.drew).trans (hb1.mono hb.size)⟩
          simp only [Bool.false_eq, decide_eq_false_iff_not]
          intro e
          subst e
          simp at hd
        · rename_i hd
          refine ⟨⟨k + 1, by omega, by go_num, ?_, (hb.drew).trans (hb1.mono hb.size)⟩, by simp [intOf]; omega⟩
          show List.take (k + 1) l = List.take (k + 1) l'
          rw [take_snoc l k hlt, take_snoc l' k hlt', heq.out]
          simp at hd
          rw [hd]
      · go_wp2
        go_ret
        refine ⟨ret_bool ?_, hb⟩
        have h1 := heq.out
        rw [List.take_of_length_le (by omega), List.take_of_length_le (by rw [← Hne.out]; omega)] at h1
        simp [h1]
  · have hb0 : ((l.length : Int) != (l'.length : Int)) = true := by simp; omega
    go_enter Tryz.func103, Tryz.ntmps103
    go_wp2
    go_ret
    refine ⟨ret_bool ?_, Below.refl _ _⟩
    simp only [Bool.false_eq, decide_eq_false_iff_not]
    intro e
    exact hne (by rw [e])


theorem task_infoD : (Tryz.prog.info? 120).map (fun i => (i.zero, i.size, i.bytes)) = some (some (.agg #[.int .i64 0, .int .i64 0, .int .i64 0, .int .i64 0]), 4, 32) := by kernel_rfl

theorem toTaskS_own (l : List (Task)) (s : Sl) (w : World) (hl : cntL cntTask l ≤ 2000000) (h : RdL taskD w w.heap.size s.v l) :
    Calls Tryz.prog 99 #[.slice s.a s.n s.c] w (OwnPost (Dt.list taskD) slV l w) := by
  obtain ⟨A, n, c⟩ := s
  obtain ⟨A', c', hv, -⟩ := h.form
  simp only [Sl.v, Value.slice.injEq] at hv
  obtain ⟨rfl, rfl, rfl⟩ := hv
  have hll : l.length ≤ 2000000 := Nat.le_trans (cntL_len _ _) hl
  have hcc : ∀ k (hk : k < l.length), cntTask l[k] ≤ 2000000 := fun k hk => by have := cntL_mem (cnt := cntTask) (List.getElem_mem hk); omega
  clear hl
  obtain ⟨i0, hi0, hz0, hz1, hz2⟩ := info_parts task_infoD
  have hmk : ∀ w : World, (Instr.makeSlice 82 (.int .i64 (l.length : Int)) (.int .i64 (l.length : Int))).run Tryz.prog w = .ok (.slice (some ⟨w.heap.size, 0, none⟩) l.length l.length) (w.alloc (.cells (madeCells #[.int .i64 0, .int .i64 0, .int .i64 0, .int .i64 0] (l.length * 4)) 120)) := by
    intro w
    have := run_make (P := Tryz.prog) w 82 120 i0 _ Tryz.underlying82 hi0 hz0 .i64 .i64 l.length l.length (by omega) (by omega) (by rw [hz2]; omega) (by omega)
    rw [hz1] at this
    simpa [Value.cells] using this
  go_enter Tryz.func99, Tryz.ntmps99
  go_wp2
  go_loopw [4] (fun i wr => ∃ k : Nat, k ≤ l.length ∧ i = .int .i64 k ∧ Hid (∃ (rs : List ((Task) × Unit)) (G : List Nat), rs.map (·.1) = l.take k ∧ Ow taskD.enc 120 wr w.heap.size (.slice (some ⟨w.heap.size, 0, none⟩) l.length l.length) (rs ++ List.replicate (l.length - k) (⟨0, 0, 0, 0⟩, ())) ∧ Ows taskD wr G rs ∧ G.Nodup ∧ ∀ b ∈ G, w.heap.size < b) ∧ Below w.heap.size w wr) (fun i _ => l.length - (intOf i).toNat)
  case atStart => exact ⟨0, Nat.zero_le _, rfl, ⟨[], [], rfl, by rw [List.nil_append, Nat.sub_zero]; exact Ow.made taskD.enc 120 w (⟨0, 0, 0, 0⟩, ()) l.length (by decide) (by simp [maxLen]; omega) rfl rfl, .nil, List.nodup_nil, fun _ h => by cases h⟩, (Below.refl _ _).alloc (Nat.le_refl _) _⟩
  case round =>
    obtain ⟨k, hk, rfl, ⟨rs, G, hm, hown, hG, hGn, hGb⟩, hb⟩ := hrel
    have hrl : rs.length = k := by have := congrArg List.length hm; simpa [Nat.min_eq_left hk] using this
    by_cases hlt : k < l.length
    · obtain ⟨b, o, s, rfl, hbb, hr, c0, c1, c2, c3⟩ := (h.below hb).task hlt
      have hx : ∀ W, Below wr.heap.size wr W → taskD.rd W W.heap.size l[k] s := fun W hW => taskD.rd_more (taskD.rd_below (taskD.rd_more hr hb.size) hW) hW.size
      have hlen : (rs ++ List.replicate (l.length - k) ((⟨0, 0, 0, 0⟩, ()) : (Task) × Unit)).length = l.length := by simp; omega
      have Hm := Lib.hid hm
      have Hrl := Lib.hid hrl
      clear hm hrl
      go_wp2_with (go_at_call 116; refine (toTask_own l[k] s _ (hcc k hlt) (hx _ (by first | exact Below.refl _ _ | exact (Below.refl _ _).drew))).mono ?_; rintro e w1 ⟨s1, F1, rfl, o1, n1, hb1⟩; have hown1 := hown.below hb1; have hf := hown1.free; obtain ⟨d0, d1, d2, d3⟩ := hown1.c_task (k := k) (by rw [hlen]; exact hlt))
      have hp := Ow.put hown1 hlen k hlt (l[k], s1)
      have Hp := Bld.lay hG hGn hGb hb1 (r := (l[k], s1)) o1 n1 (Nat.lt_of_lt_of_le (hown.blk).2 (Nat.le_refl _)) hp.2
      rw [mix_snoc rs _ k l.length Hrl.out hlt] at hp
      refine ⟨⟨k + 1, by omega, by go_num, ⟨rs ++ [(l[k], s1)], G ++ F1, ?_, hp.1, Hp.1, Hp.2.1, Hp.2.2⟩, (hb.trans (hb1.mono hb.size)).grown hp.2 (Nat.le_trans hb.size hb1.size) (fun g hg => by simp at hg; omega)⟩, by simp [intOf]; omega⟩
      rw [List.map_append, Hm.out, take_snoc l k hlt]
      rfl
    · have hk' : k = l.length := by omega
      subst hk'
      rw [Nat.sub_self, List.replicate_zero, List.append_nil] at hown
      go_wp2
      go_ret
      rw [List.take_length] at hm
      have hB : Bld taskD 120 wr w.heap.size (.slice (some ⟨w.heap.size, 0, none⟩) l.length l.length) rs := ⟨G, by rw [← hrl]; exact (by rw [hrl]; exact hown), hG, hGn, fun b hb' => ⟨Nat.le_of_lt (hGb b hb'), by simp [Value.ownBlock]; have := hGb b hb'; omega⟩⟩
      obtain ⟨F, h1, h2⟩ := hB.owl hm
      exact ⟨⟨some ⟨w.heap.size, 0, none⟩, l.length, l.length⟩, F, rfl, h1, h2, hb⟩


theorem markTaskS_own (l : List (Task)) (s : Sl) (F : List Nat) (k : Int) (w : World) (hl : cntL cntTask l ≤ 2000000) (hk0 : 0 ≤ k) (hk1 : k ≤ 1000000000) (h : OwL taskD w F s.v l) :
    Calls Tryz.prog 75 #[.slice s.a s.n s.c, .int .i64 k] w (MkPost (Dt.list taskD) F (mkL mkTask numTask k l) s (k + (numL numTask l : Nat)) w) := by
  obtain ⟨A, n, c⟩ := s
  obtain ⟨A', c', hv, -⟩ := h.form
  simp only [Sl.v, Value.slice.injEq] at hv
  obtain ⟨rfl, rfl, rfl⟩ := hv
  have hll : l.length ≤ 2000000 := Nat.le_trans (cntL_len _ _) hl
  have hnl : ∀ j, numL numTask (l.take j) ≤ 26000000 := fun j => by
    have h1 := numL_take_le numTask l j
    have h2 := numL_le (num := numTask) (cnt := cntTask) (K := 13) numTask_le l
    omega
  have Hnl := Lib.hid hnl
  clear hnl hl
  go_enter Tryz.func75, Tryz.ntmps75
  go_wp2
  go_loopw [1, 5] (fun q i wr => ∃ (j : Nat) (m : Int), j ≤ l.length ∧ i = .int .i64 j ∧ q = .int .i64 m ∧ Hid (m = k + (numL numTask (l.take j) : Nat)) ∧ OwL taskD wr F (.slice A l.length c) (mkL mkTask numTask k (l.take j) ++ l.drop j) ∧ Chg F w wr) (fun _ i _ => l.length - (intOf i).toNat)
  case atStart => exact ⟨0, k, Nat.zero_le _, rfl, rfl, by show k = _; simp [numL], h, Chg.refl _ _⟩
  case round =>
    obtain ⟨j, m, hj, rfl, rfl, hm, ho, hc⟩ := hrel
    have hm' := hm.out
    have hnj := Hnl.out j
    have hm0 : 0 ≤ m := by omega
    have hm1 : m ≤ 1026000000 := by omega
    clear hm' hnj
    by_cases hlt : j < l.length
    · have hltI : (j : Int) < (l.length : Int) := by omega
      have hlen : (mkL mkTask numTask k (l.take j) ++ l.drop j).length = l.length := by simp [mkL_length]; omega
      obtain ⟨b, o, rs, s, G1, Fx, G2, rfl, hF, hrm, f0⟩ := ho.foc (j := j) (by rw [hlen]; exact hlt)
      rw [mkL_here mkTask numTask k l j hlt] at f0
      subst hF
      have Hrm := Lib.hid hrm
      clear hrm ho
      obtain ⟨c0, c1, c2, c3⟩ := f0.task
      have fr0 := f0.free
      go_wp2
      obtain ⟨f1, g1⟩ := f0.put ⟨m, m + 1, m + 1 + 1, m + 1 + 1 + 1⟩ 0 [.int .i64 (m), .int .i64 (m + 1), .int .i64 (m + 1 + 1), .int .i64 (m + 1 + 1 + 1)] (by show 0 + 4 ≤ 4; omega) (fun i hi => match i, hi with | 0, _ => rfl | 1, _ => rfl | 2, _ => rfl | 3, _ => rfl | i + 4, hi => absurd hi (by simp)) (fun i hi hx => match i, hi, hx with | 0, _, hx => absurd hx (by simp) | 1, _, hx => absurd hx (by simp) | 2, _, hx => absurd hx (by simp) | 3, _, hx => absurd hx (by simp) | i + 4, hi, _ => absurd hi (by show ¬ (i + 4 < 4); omega)) (fun _ hh => hh)
      have hmf := hm.out
      have hown := f1.owl Hrm.out
      have hval : ⟨m, m + 1, m + 1 + 1, m + 1 + 1 + 1⟩ = mkTask m l[j] := rfl
      have hset := mkL_set mkTask numTask k l j hlt
      rw [← hm.out] at hset
      rw [hval, hset] at hown
      have hnum : (numL numTask (l.take (j + 1)) : Nat) = numL numTask (l.take j) + numTask l[j] := sum_take_succ _ _ _ hlt
      refine ⟨⟨j + 1, m + 1 + 1 + 1 + 1, by omega, by go_num, rfl, ?_, hown, (hc).trans (g1.mono (fun _ hh => mem_box hh))⟩, by simp [intOf]; omega⟩
      have hun : numTask l[j] = 4 := rfl
      show m + 1 + 1 + 1 + 1 = _
      rw [hnum, hun]
      push_cast
      omega
    · have hj' : j = l.length := by omega
      subst hj'
      rw [List.take_length, List.drop_length, List.append_nil] at ho
      go_wp2
      go_ret
      refine ⟨ret_int ?_, ho, hc⟩
      rw [hm.out, List.take_length]


theorem heldTaskS_own (l : List (Task)) (s : Sl) (k : Int) (w : World) (hl : cntL cntTask l ≤ 2000000) (hk0 : 0 ≤ k) (hk1 : k ≤ 1000000000) (h : RdL taskD w w.heap.size s.v (mkL mkTask numTask k l)) :
    Calls Tryz.prog 106 #[.slice s.a s.n s.c, .int .i64 k] w fun e w' => e = .returned (.int .i64 (k + (numL numTask l : Nat))) ∧ Below w.heap.size w w' := by
  obtain ⟨A, n, c⟩ := s
  obtain ⟨A', c', hv, -⟩ := h.form
  simp only [Sl.v, Value.slice.injEq, mkL_length] at hv
  obtain ⟨rfl, rfl, rfl⟩ := hv
  have hll : l.length ≤ 2000000 := Nat.le_trans (cntL_len _ _) hl
  have hnl : ∀ j, numL numTask (l.take j) ≤ 26000000 := fun j => by
    have h1 := numL_take_le numTask l j
    have h2 := numL_le (num := numTask) (cnt := cntTask) (K := 13) numTask_le l
    omega
  have hcell : ∀ (wr : World) (j : Nat) (hj : j < l.length) (m : Int), Below w.heap.size w wr → m = k + (numL numTask (l.take j) : Nat) → ∃ b o, ∃ s : Unit, A = some ⟨b, o, none⟩ ∧ b < w.heap.size ∧ taskD.rd wr w.heap.size (mkTask m l[j]) s ∧ wr.cell? ⟨b, o + j * 4, none⟩ = some (.int .i64 (m)) ∧ wr.cell? ⟨b, o + j * 4 + 1, none⟩ = some (.int .i64 (m + 1)) ∧ wr.cell? ⟨b, o + j * 4 + 2, none⟩ = some (.int .i64 (m + 1 + 1)) ∧ wr.cell? ⟨b, o + j * 4 + 3, none⟩ = some (.int .i64 (m + 1 + 1 + 1)) := by
    intro wr j hj m hb hm
    obtain ⟨b, o, s, h1, h2, h3, h4⟩ := (h.below hb).task (k := j) (by rw [mkL_length]; exact hj)
    first | rw [mkL_get _ _ _ _ _ hj, ← hm] at h3 h4 | rw [mkL_get _ _ _ _ _ hj, ← hm] at h3
    exact ⟨b, o, s, h1, h2, h3, h4⟩
  have Hc := Lib.hid hcell
  have Hnl := Lib.hid hnl
  clear hcell hnl hl
  go_enter Tryz.func106, Tryz.ntmps106
  go_wp2
  go_loopw [1, 5] (fun q i wr => ∃ (j : Nat) (m : Int), j ≤ l.length ∧ i = .int .i64 j ∧ q = .int .i64 m ∧ Hid (m = k + (numL numTask (l.take j) : Nat)) ∧ Below w.heap.size w wr) (fun _ i _ => l.length - (intOf i).toNat)
  case atStart => exact ⟨0, k, Nat.zero_le _, rfl, rfl, by show k = _; simp [numL], Below.refl _ _⟩
  case round =>
    obtain ⟨j, m, hj, rfl, rfl, hm, hb⟩ := hrel
    have hm' := hm.out
    have hnj := Hnl.out j
    have hm0 : 0 ≤ m := by omega
    have hm1 : m ≤ 1026000000 := by omega
    clear hm' hnj
    by_cases hlt : j < l.length
    · have hltI : (j : Int) < (l.length : Int) := by omega
      obtain ⟨b, o, s, rfl, hbb, hrd, c0, c1, c2, c3⟩ := Hc.out wr j hlt m hb hm.out
      go_wp2
      have hnum : (numL numTask (l.take (j + 1)) : Nat) = numL numTask (l.take j) + numTask l[j] := sum_take_succ _ _ _ hlt
      refine ⟨⟨j + 1, m + 1 + 1 + 1 + 1, by omega, by go_num, rfl, ?_, hb⟩, by simp [intOf]; omega⟩
      have hun : numTask l[j] = 4 := rfl
      have hmf := hm.out
      show m + 1 + 1 + 1 + 1 = _
      rw [hnum, hun]
      push_cast
      omega
    · have hj' : j = l.length := by omega
      subst hj'
      go_wp2
      go_ret
      refine ⟨ret_int ?_, hb⟩
      rw [hm.out, List.take_length]

end Go.Proofs.YtjobmbjadpldfaaGreat
end
section
namespace Go.Proofs.YtjobmbjadpldfaaGreat
open Go.RowKit
set_option maxRecDepth 100000

/-- block b is a variable that holds the cells cs -/
structure DBox (b : Nat) (cs : List Value) (w : World) : Prop where
  cell : ∀ (j : Nat) (u : Value), cs[j]? = some u → w.cell? ⟨b, j, none⟩ = some u
  free : ∀ j, w.frozen? ⟨b, j, none⟩ = false
  lt : b < w.heap.size
theorem DBox.new (T : TypeId) (cs : List Value) (w : World) {b : Nat} (hb : b = w.heap.size) : DBox b cs (w.alloc (.cells cs.toArray T)) := by
  subst hb
  refine ⟨fun j u hu => ?_, fun j => by simp [go_sem], by simp⟩
  have := news_new w cs.toArray T rfl j u (by simpa using hu)
  have e : ((⟨w.heap.size, 0, none⟩ : Addr).add j) = ⟨w.heap.size, j, none⟩ := by
    unfold Addr.add
    split <;> simp_all
  rw [e] at this
  exact this
theorem DBox.keep {b : Nat} {cs : List Value} {w w' : World} (h : DBox b cs w) (hs : w.heap.size ≤ w'.heap.size) (hk : ∀ j, w'.cell? ⟨b, j, none⟩ = w.cell? ⟨b, j, none⟩) (hf : ∀ j, w'.frozen? ⟨b, j, none⟩ = w.frozen? ⟨b, j, none⟩) : DBox b cs w' :=
  ⟨fun j u hu => (hk j).trans (h.cell j u hu), fun j => (hf j).trans (h.free j), Nat.lt_of_lt_of_le h.lt hs⟩
theorem DBox.below {b : Nat} {cs : List Value} {w w' : World} (h : DBox b cs w) (hb : Below w.heap.size w w') : DBox b cs w' :=
  h.keep hb.size (fun j => hb.cell (p := ⟨b, j, none⟩) h.lt) (fun j => hb.frozen (p := ⟨b, j, none⟩) h.lt)
theorem DBox.chg {F : List Nat} {b : Nat} {cs : List Value} {w w' : World} (h : DBox b cs w) (hc : Chg F w w') (hn : b ∉ F) : DBox b cs w' :=
  h.keep hc.size (fun j => hc.cell (p := ⟨b, j, none⟩) h.lt hn) (fun j => hc.frozen (p := ⟨b, j, none⟩) h.lt hn)
end Go.Proofs.YtjobmbjadpldfaaGreat
end
section
namespace Go.Proofs.YtjobmbjadpldfaaGreat
open Go.RowKit
set_option maxRecDepth 100000
set_option maxHeartbeats 2000000

/-- what t waits for, in order -/
def beforeL (es : List (Nat × Nat)) (T t : Nat) : List Nat := (List.range T).filter fun s => decide ((s, t) ∈ es)
/-- what waits for t, in order -/
def behindL (es : List (Nat × Nat)) (T t : Nat) : List Nat := (List.range T).filter fun s => decide ((t, s) ∈ es)
/-- x if q is in l -/
def onceL (l : List (Nat × Nat)) (q : Nat × Nat) (x : Nat) : List Nat := if q ∈ l then [x] else []
theorem beforeL_succ (es : List (Nat × Nat)) (k t : Nat) : beforeL es (k + 1) t = beforeL es k t ++ onceL es (k, t) k := by
  unfold beforeL onceL
  rw [List.range_succ, List.filter_append]
  by_cases h : (k, t) ∈ es <;> simp [h]
theorem behindL_succ (es : List (Nat × Nat)) (k t : Nat) : behindL es (k + 1) t = behindL es k t ++ onceL es (t, k) k := by
  unfold behindL onceL
  rw [List.range_succ, List.filter_append]
  by_cases h : (t, k) ∈ es <;> simp [h]
theorem beforeL_len (es : List (Nat × Nat)) (T t : Nat) : (beforeL es T t).length ≤ T := by
  have := List.length_filter_le (fun s => decide ((s, t) ∈ es)) (List.range T)
  simpa [beforeL] using this
theorem behindL_len (es : List (Nat × Nat)) (T t : Nat) : (behindL es T t).length ≤ T := by
  have := List.length_filter_le (fun s => decide ((t, s) ∈ es)) (List.range T)
  simpa [behindL] using this
theorem onceL_len (l : List (Nat × Nat)) (q : Nat × Nat) (x : Nat) : (onceL l q x).length ≤ 1 := by
  unfold onceL
  split <;> simp
theorem onceL_yes {l l' : List (Nat × Nat)} {q : Nat × Nat} {x : Nat} (h : l' = l ++ [q]) (hq : q ∉ l) : onceL l' q x = onceL l q x ++ [x] := by
  subst h
  simp [onceL, hq]
theorem onceL_no {l l' : List (Nat × Nat)} {q e : Nat × Nat} {x : Nat} (h : l' = l ++ [e]) (hq : e ≠ q) : onceL l' q x = onceL l q x := by
  subst h
  simp [onceL, Ne.symm hq]
theorem esL_new {p : Plan} (he : edgesIn p) (hn : p.edges.Nodup) {j : Nat} (hj : j < p.edges.length) : (p.edges[j].fr.toNat, p.edges[j].to.toNat) ∉ esL (p.edges.take j) := by
  intro hm
  simp only [esL, List.mem_map] at hm
  obtain ⟨e, hel, hee⟩ := hm
  obtain ⟨i, hi, rfl⟩ := List.getElem_of_mem hel
  have hi2 : i < j := by
    rw [List.length_take] at hi
    omega
  rw [List.getElem_take] at hee
  have h1 := edgesIn_get he (k := i) (by omega)
  have h2 := edgesIn_get he hj
  simp only [Prod.mk.injEq] at hee
  have e1 : p.edges[i].fr = p.edges[j].fr := by omega
  have e2 : p.edges[i].to = p.edges[j].to := by omega
  have : p.edges[i] = p.edges[j] := by
    cases hx : p.edges[i]; cases hy : p.edges[j]
    rw [hx, hy] at e1 e2
    simp only at e1 e2
    rw [e1, e2]
  exact List.pairwise_iff_getElem.1 hn i j (by omega) hj hi2 this

theorem specBefore_any (p : Plan) (ve : Value) (t : Nat) (w : World) (hm : manyOk p = true) (he : edgesIn p) (hn : p.edges.Nodup) (h : Rd edgeE w w.heap.size ve p.edges) :
    Calls Tryz.prog 110 #[planV p ve, .int .i64 (t : Int)] w fun e w' => ∃ v, e = .returned v ∧ Ow natE 3 w' w.heap.size v (beforeL (esOf p) p.tasks.toNat t) ∧ Below w.heap.size w w' := by
  obtain ⟨A, c, rfl, -⟩ := id h
  obtain ⟨t1, t2⟩ := manyOk_tasks hm
  have hlen := manyOk_edges hm
  obtain ⟨T, hT⟩ := Int.eq_ofNat_of_zero_le (show 0 ≤ p.tasks by omega)
  have HT := Lib.hid hT
  have HTn := Lib.hid (show p.tasks.toNat = T by omega)
  have hT12 : T ≤ 12 := by omega
  clear hT
  obtain ⟨j0, hj0, jz0, jz1, jz2⟩ := info_parts int_info
  unfold planV
  go_enter Tryz.func110, Tryz.ntmps110
  go_wp2
  go_loopw [5, 6] (fun vl i wr => ∃ k : Nat, k ≤ T ∧ i = .int .i64 k ∧ Ow natE 3 wr (w.heap.size + 1) vl (beforeL (esOf p) k t) ∧ BoxAt w.heap.size p (.slice A p.edges.length c) wr ∧ Below w.heap.size w wr) (fun _ i _ => T - (intOf i).toNat)
  case atStart =>
    have D := BoxAt.new 81 p (.slice A p.edges.length c) w
    refine ⟨0, Nat.zero_le _, rfl, ?_, D.below ((Below.refl _ _).alloc (Nat.le_refl _) _), ?_⟩
    · exact (Ow.empty natE 3 (planBox 81 p (.slice A p.edges.length c) w) (g := w.heap.size + 1) (by rw [planBox_size]))
    · repeat (first | exact Below.refl _ _ | refine Below.alloc ?_ (by simp <;> omega) _)
  case round =>
    obtain ⟨k, hk, rfl, ho, D, hb⟩ := hrel
    obtain ⟨x0, x1, x2, x3, x4, xs⟩ := D.cells
    by_cases hlt : k < T
    · have hltI : (k : Int) < p.tasks := by rw [HT.out]; omega
      obtain ⟨wo, rfl⟩ : ∃ wo : World, wo = wr := ⟨_, rfl⟩
      go_wp2
      clear x0 x1 x2 x3 x4 xs
      go_loopw [5, 7] (fun vl i wr => ∃ j : Nat, j ≤ p.edges.length ∧ i = .int .i64 j ∧ Ow natE 3 wr (w.heap.size + 1) vl (beforeL (esOf p) k t ++ onceL (esL (p.edges.take j)) (k, t) k) ∧ BoxAt w.heap.size p (.slice A p.edges.length c) wr ∧ Below w.heap.size w wr) (fun _ i _ => p.edges.length - (intOf i).toNat)
      case atStart => exact ⟨0, Nat.zero_le _, rfl, by simpa [onceL, esL] using ho, D, hb⟩
      case round =>
        clear ho D hb
        obtain ⟨j, hj, rfl, ho, D, hb⟩ := hrel
        obtain ⟨x0, x1, x2, x3, x4, xs⟩ := D.cells
        by_cases hjt : j < p.edges.length
        · have hjI : (j : Int) < (p.edges.length : Int) := by omega
          obtain ⟨b, o, rfl, hbb, c0, c1⟩ := (h.below hb).edge hjt
          obtain ⟨f1, f2, f3, f4⟩ := edgesIn_get he hjt
          have htk := Lib.hid (show esL (p.edges.take (j + 1)) = esL (p.edges.take j) ++ [(p.edges[j].fr.toNat, p.edges[j].to.toNat)] by unfold esL; rw [take_snoc _ j hjt, List.map_append]; rfl)
          have hnew := Lib.hid (esL_new he hn hjt)
          generalize p.edges[j].fr = fx at *
          generalize p.edges[j].to = tx at *
          obtain ⟨a, rfl⟩ := Int.eq_ofNat_of_zero_le f1
          obtain ⟨d, rfl⟩ := Int.eq_ofNat_of_zero_le f3
          simp only [Int.toNat_natCast] at htk hnew
          by_cases hxy : a = k ∧ d = t
          · obtain ⟨e1, e2⟩ := hxy
            subst e1
            subst e2
            have S := Lib.hid (onceL_yes (l := esL (p.edges.take j)) (l' := esL (p.edges.take (j + 1))) (q := (a, d)) (x := a) htk.out hnew.out)
            have Hl := Lib.hid (show (beforeL (esOf p) a d ++ onceL (esL (p.edges.take j)) (a, d) a).length ≤ 3000000 by
              have h1 := beforeL_len (esOf p) a d
              have h2 := onceL_len (esL (p.edges.take j)) (a, d) a
              rw [List.length_append]
              omega)
            have hab : ((a : Int) == (a : Int)) = true := by simp
            have hab2 : ((d : Int) == (d : Int)) = true := by simp
            have ha : Hid (∀ w : World, Below w.heap.size w (w.alloc (.cells #[.int .i64 (a : Int)] 3))) := fun w => (Below.refl _ _).alloc (Nat.le_refl _) _
            go_wp2_with (at_builtin; refine wpList_push_all _ natE (by decide) rfl (.tmp 40) (.tmp 42) rfl Tryz.underlying94 hj0 jz0 jz1 jz2 rfl (l := beforeL (esOf p) a d ++ onceL (esL (p.edges.take j)) (a, d) a) rfl (ho.below (ha.out wr)) rfl (Rd.one natE _ _ a rfl rfl 1 (Nat.le_refl _) (Nat.lt_succ_self _)) Hl.out (by simp) (by decide) (by simp; omega) ?_; intro v5 w5 o5 g5 _)
            have D5 := (D.below (ha.out wr)).far g5 (fun e => by have := ho.within _ e.symm; omega)
            have hb' := bnext hb (ha.out wr)
            have W5 := hb'.grown g5 hb'.size (fun g hg => by have := ho.within _ hg; omega)
            refine ⟨⟨j + 1, by omega, by go_num, ?_, D5, W5⟩, by simp [intOf]; omega⟩
            rw [S.out, ← List.append_assoc]
            exact o5
          · have S := Lib.hid (onceL_no (l := esL (p.edges.take j)) (l' := esL (p.edges.take (j + 1))) (q := (k, t)) (e := (a, d)) (x := k) htk.out (fun e => hxy (by simp only [Prod.mk.injEq] at e; omega)))
            have hout : ∀ w', Below wr.heap.size wr w' → (∃ j_1 : Nat, j_1 ≤ p.edges.length ∧ Value.int .i64 ((j : Int) + 1) = Value.int .i64 (j_1 : Int) ∧ Ow natE 3 w' (w.heap.size + 1) u5 (beforeL (esOf p) k t ++ onceL (esL (p.edges.take j_1)) (k, t) k) ∧ BoxAt w.heap.size p (.slice (some ⟨b, o, none⟩) p.edges.length c) w' ∧ Below w.heap.size w w') := fun w' hw' => ⟨j + 1, by omega, by go_num, by rw [S.out]; exact ho.below hw', D.below hw', bnext hb hw'⟩
            have Hout := Lib.hid hout
            clear hout
            by_cases hfa : a = k
            · have hab : ((a : Int) == ((k : Nat) : Int)) = true := by simp [hfa]
              have hdb : ((d : Int) == ((t : Nat) : Int)) = false := beq_eq_false_iff_ne.2 (by omega)
              clear hfa hxy
              go_wp2
              exact ⟨Hout.out _ (Below.refl _ _), by simp [intOf]; omega⟩
            · have hab : ((a : Int) == ((k : Nat) : Int)) = false := beq_eq_false_iff_ne.2 (by omega)
              clear hfa hxy
              go_wp2
              exact ⟨Hout.out _ (Below.refl _ _), by simp [intOf]; omega⟩
        · have hjI : ¬ (j : Int) < (p.edges.length : Int) := by omega
          have hj' : j = p.edges.length := by omega
          subst hj'
          rw [List.take_length] at ho
          have S := Lib.hid (beforeL_succ (esOf p) k t)
          go_wp2
          exact ⟨⟨k + 1, by omega, by go_num, by rw [S.out]; exact ho, D, hb⟩, by simp [intOf]; omega⟩
    · have hltI : ¬ (k : Int) < p.tasks := by rw [HT.out]; omega
      have hk' : k = T := by omega
      subst hk'
      go_wp2
      go_ret
      refine ⟨_, rfl, ?_, hb⟩
      rw [HTn.out]
      exact ho.more (by omega)

end Go.Proofs.YtjobmbjadpldfaaGreat
end
section
namespace Go.Proofs.YtjobmbjadpldfaaGreat
open Go.RowKit
theorem RdL.at1 {α : Type} {d : Dt α} {w : World} {B : Nat} {s : Sl} {l : List α} (h : RdL d w B s.v l) : s.n = l.length := by
  obtain ⟨A, c, hv, -⟩ := h.form
  simp only [Sl.v, Value.slice.injEq] at hv
  exact hv.2.1
end Go.Proofs.YtjobmbjadpldfaaGreat
end
section
namespace Go.Proofs.YtjobmbjadpldfaaGreat
open Go.RowKit
set_option maxRecDepth 100000
set_option maxHeartbeats 1000000
set_option linter.unusedVariables false
set_option linter.unusedSimpArgs false

structure Reply where
  code : Int
  run : Int
  task : Int
  try_ : Int
deriving DecidableEq, Inhabited

@[go_sem] abbrev replyW (x : Reply) (_s : Unit) : Value := .agg #[.int .i64 x.code, .int .i64 x.run, .int .i64 x.task, .int .i64 x.try_]
abbrev replyD : Dt Reply := Dt.flat (fun q => [.int .i64 q.1.code, .int .i64 q.1.run, .int .i64 q.1.task, .int .i64 q.1.try_]) 4 (fun _ => rfl) (fun q u hu => by simp at hu; rcases hu with rfl | rfl | rfl | rfl <;> rfl)
/-- all lengths in it together -/
def cntReply (_ : Reply) : Nat := 0
/-- ints are int64, lengths are what a machine holds -/
def wfReply (x : Reply) : Prop := Wf x.code ∧ Wf x.run ∧ Wf x.task ∧ Wf x.try_
def numReply (_ : Reply) : Nat := 4
/-- with the marks from k on -/
def mkReply (k : Int) (_ : Reply) : Reply := ⟨k, k + 1, k + 1 + 1, k + 1 + 1 + 1⟩
theorem numReply_le (x : Reply) : numReply x ≤ 13 * (cntReply x + 1) := by
  unfold numReply cntReply
  omega

theorem toReply_own (x : Reply) (s : Unit) (w : World) (hl : cntReply x ≤ 2000000) (h : replyD.rd w w.heap.size x s) :
    Calls Tryz.prog 84 #[replyW x s] w (OwnPost replyD replyW x w) := by
  have hbx : ∀ W, Below w.heap.size w W → replyD.rd W W.heap.size x s := fun W hW => replyD.rd_more (replyD.rd_below h hW) hW.size
  go_enter Tryz.func84, Tryz.ntmps84
  go_wp2
  refine bodyPost_ret (v := replyW x ()) ?_ rfl ?_
  · simp [replyW, results, Tryz.results84, go_sem]
  · exact ⟨(), [], rfl, rfl, (fun _ h => by cases h), by repeat (first | (with_reducible exact Below.refl _ _) | refine Below.setCell ?_ (by simp <;> omega) _ | refine Below.alloc ?_ (by simp <;> omega) _)⟩

theorem eqReply_own (x y : Reply) (s r : Unit) (w : World) (hl : cntReply x ≤ 2000000) (hl' : cntReply y ≤ 2000000) (h : replyD.rd w w.heap.size x s) (h' : replyD.rd w w.heap.size y r) :
    Calls Tryz.prog 93 #[replyW x s, replyW y r] w fun e w' => e = .returned (.bool (decide (x = y))) ∧ Below w.heap.size w w' := by
  have hbx : ∀ W, Below w.heap.size w W → replyD.rd W W.heap.size x s := fun W hW => replyD.rd_more (replyD.rd_below h hW) hW.size
  have hby : ∀ W, Below w.heap.size w W → replyD.rd W W.heap.size y r := fun W hW => replyD.rd_more (replyD.rd_below h' hW) hW.size
  by_cases h0 : x.code = y.code
  case neg =>
    have t0 : (x.code != y.code) = true := by rw [bne_iff_ne]; exact h0
    have H := Lib.hid (show decide (x = y) = false by simp only [decide_eq_false_iff_not]; intro e; exact h0 (by rw [e]))
    clear h0
    go_enter Tryz.func93, Tryz.ntmps93
    go_wp2
    go_ret
    exact ⟨ret_bool (by first | exact H.out.symm | rfl), by repeat (first | exact Below.refl _ _ | refine Below.alloc ?_ (by simp <;> omega) _)⟩
  have t0 : (x.code != y.code) = false := by simp [h0]
  have H0 := Lib.hid h0
  clear h0
  by_cases h1 : x.run = y.run
  case neg =>
    have t1 : (x.run != y.run) = true := by rw [bne_iff_ne]; exact h1
    have H := Lib.hid (show decide (x = y) = false by simp only [decide_eq_false_iff_not]; intro e; exact h1 (by rw [e]))
    clear h1
    go_enter Tryz.func93, Tryz.ntmps93
    go_wp2
    go_ret
    exact ⟨ret_bool (by first | exact H.out.symm | rfl), by repeat (first | exact Below.refl _ _ | refine Below.alloc ?_ (by simp <;> omega) _)⟩
  have t1 : (x.run != y.run) = false := by simp [h1]
  have H1 := Lib.hid h1
  clear h1
  by_cases h2 : x.task = y.task
  case neg =>
    have t2 : (x.task != y.task) = true := by rw [bne_iff_ne]; exact h2
    have H := Lib.hid (show decide (x = y) = false by simp only [decide_eq_false_iff_not]; intro e; exact h2 (by rw [e]))
    clear h2
    go_enter Tryz.func93, Tryz.ntmps93
    go_wp2
    go_ret
    exact ⟨ret_bool (by first | exact H.out.symm | rfl), by repeat (first | exact Below.refl _ _ | refine Below.alloc ?_ (by simp <;> omega) _)⟩
  have t2 : (x.task != y.task) = false := by simp [h2]
  have H2 := Lib.hid h2
  clear h2
  by_cases h3 : x.try_ = y.try_
  case neg =>
    have t3 : (x.try_ != y.try_) = true := by rw [bne_iff_ne]; exact h3
    have H := Lib.hid (show decide (x = y) = false by simp only [decide_eq_false_iff_not]; intro e; exact h3 (by rw [e]))
    clear h3
    go_enter Tryz.func93, Tryz.ntmps93
    go_wp2
    go_ret
    exact ⟨ret_bool (by first | exact H.out.symm | rfl), by repeat (first | exact Below.refl _ _ | refine Below.alloc ?_ (by simp <;> omega) _)⟩
  have t3 : (x.try_ != y.try_) = false := by simp [h3]
  have H3 := Lib.hid h3
  clear h3
  have H := Lib.hid (show decide (x = y) = true by
    simp only [decide_eq_true_eq]
    have hh := And.intro H0.out (And.intro H1.out (And.intro H2.out H3.out))
    obtain ⟨e0, e1, e2, e3⟩ := hh
    cases x
    cases y
    simp only at e0 e1 e2 e3
    subst e0 e1 e2 e3
    rfl)
  go_enter Tryz.func93, Tryz.ntmps93
  go_wp2
  go_ret
  exact ⟨ret_bool (by first | exact H.out.symm | rfl), by repeat (first | exact Below.refl _ _ | refine Below.alloc ?_ (by simp <;> omega) _)⟩

theorem RdL.reply {w : World} {B : Nat} {A : Option Addr} {n c : Nat} {l : List (Reply)} (h : RdL replyD w B (.slice A n c) l) {k : Nat} (hk : k < l.length) :
    ∃ b o, ∃ _s : Unit, A = some ⟨b, o, none⟩ ∧ b < B ∧ replyD.rd w B l[k] _s ∧ w.cell? ⟨b, o + k * 4, none⟩ = some (.int .i64 l[k].code) ∧ w.cell? ⟨b, o + k * 4 + 1, none⟩ = some (.int .i64 l[k].run) ∧ w.cell? ⟨b, o + k * 4 + 2, none⟩ = some (.int .i64 l[k].task) ∧ w.cell? ⟨b, o + k * 4 + 3, none⟩ = some (.int .i64 l[k].try_) := by
  obtain ⟨b, o, s, rfl, hb, hc, hr⟩ := h.at_ k hk
  exact ⟨b, o, s, rfl, hb, hr, hc 0 _ rfl, hc 1 _ rfl, hc 2 _ rfl, hc 3 _ rfl⟩
theorem Ow.c_reply {E : TypeId} {w : World} {base g n cap : Nat} {l : List ((Reply) × Unit)} (h : Ow replyD.enc E w base (.slice (some ⟨g, 0, none⟩) n cap) l) {k : Nat} (hk : k < l.length) :
    w.cell? ⟨g, k * 4, none⟩ = some (.int .i64 l[k].1.code) ∧ w.cell? ⟨g, k * 4 + 1, none⟩ = some (.int .i64 l[k].1.run) ∧ w.cell? ⟨g, k * 4 + 2, none⟩ = some (.int .i64 l[k].1.task) ∧ w.cell? ⟨g, k * 4 + 3, none⟩ = some (.int .i64 l[k].1.try_) := by
  rcases h.form with ⟨h1, _⟩ | ⟨g', cap', hv, _, _, _, _, _, hc⟩
  · simp at h1
  · simp only [Value.slice.injEq, Option.some.injEq, Addr.mk.injEq, and_true] at hv
    obtain ⟨rfl, _, _⟩ := hv
    exact ⟨hc k hk 0 _ rfl, hc k hk 1 _ rfl, hc k hk 2 _ rfl, hc k hk 3 _ rfl⟩
theorem Foc.reply {w : World} {b o n c j : Nat} {rs : List ((Reply) × Unit)} {G1 Fx G2 : List Nat} {x : Reply} {s : Unit} (h : Foc replyD w b o n c rs j G1 Fx G2 x s) :
    w.cell? ⟨b, o + j * 4, none⟩ = some (.int .i64 x.code) ∧ w.cell? ⟨b, o + j * 4 + 1, none⟩ = some (.int .i64 x.run) ∧ w.cell? ⟨b, o + j * 4 + 2, none⟩ = some (.int .i64 x.task) ∧ w.cell? ⟨b, o + j * 4 + 3, none⟩ = some (.int .i64 x.try_) := ⟨h.cells 0 _ rfl, h.cells 1 _ rfl, h.cells 2 _ rfl, h.cells 3 _ rfl⟩

theorem reply_infoD : (Tryz.prog.info? 59).map (fun i => (i.zero, i.size, i.bytes)) = some (some (.agg #[.int .i64 0, .int .i64 0, .int .i64 0, .int .i64 0]), 4, 32) := by kernel_rfl

end Go.Proofs.YtjobmbjadpldfaaGreat
end
section
namespace Go.Proofs.YtjobmbjadpldfaaGreat
open Go.RowKit
set_option maxRecDepth 100000
set_option maxHeartbeats 1000000
set_option linter.unusedVariables false
set_option linter.unusedSimpArgs false

structure File where
  name : ByteArray
  data : ByteArray
  safe : Int
deriving DecidableEq, Inhabited

@[go_sem] abbrev fileW (x : File) (_s : Unit) : Value := .agg #[.string x.name, .string x.data, .int .i64 x.safe]
abbrev fileD : Dt File := Dt.flat (fun q => [.string q.1.name, .string q.1.data, .int .i64 q.1.safe]) 3 (fun _ => rfl) (fun q u hu => by simp at hu; rcases hu with rfl | rfl | rfl <;> rfl)
/-- all lengths in it together -/
def cntFile (x : File) : Nat := x.name.size + x.data.size
/-- ints are int64, lengths are what a machine holds -/
def wfFile (x : File) : Prop := x.name.size ≤ 9223372036854775807 ∧ x.data.size ≤ 9223372036854775807 ∧ Wf x.safe

theorem RdL.file {w : World} {B : Nat} {A : Option Addr} {n c : Nat} {l : List (File)} (h : RdL fileD w B (.slice A n c) l) {k : Nat} (hk : k < l.length) :
    ∃ b o, ∃ _s : Unit, A = some ⟨b, o, none⟩ ∧ b < B ∧ fileD.rd w B l[k] _s ∧ w.cell? ⟨b, o + k * 3, none⟩ = some (.string l[k].name) ∧ w.cell? ⟨b, o + k * 3 + 1, none⟩ = some (.string l[k].data) ∧ w.cell? ⟨b, o + k * 3 + 2, none⟩ = some (.int .i64 l[k].safe) := by
  obtain ⟨b, o, s, rfl, hb, hc, hr⟩ := h.at_ k hk
  exact ⟨b, o, s, rfl, hb, hr, hc 0 _ rfl, hc 1 _ rfl, hc 2 _ rfl⟩
theorem Ow.c_file {E : TypeId} {w : World} {base g n cap : Nat} {l : List ((File) × Unit)} (h : Ow fileD.enc E w base (.slice (some ⟨g, 0, none⟩) n cap) l) {k : Nat} (hk : k < l.length) :
    w.cell? ⟨g, k * 3, none⟩ = some (.string l[k].1.name) ∧ w.cell? ⟨g, k * 3 + 1, none⟩ = some (.string l[k].1.data) ∧ w.cell? ⟨g, k * 3 + 2, none⟩ = some (.int .i64 l[k].1.safe) := by
  rcases h.form with ⟨h1, _⟩ | ⟨g', cap', hv, _, _, _, _, _, hc⟩
  · simp at h1
  · simp only [Value.slice.injEq, Option.some.injEq, Addr.mk.injEq, and_true] at hv
    obtain ⟨rfl, _, _⟩ := hv
    exact ⟨hc k hk 0 _ rfl, hc k hk 1 _ rfl, hc k hk 2 _ rfl⟩
theorem Foc.file {w : World} {b o n c j : Nat} {rs : List ((File) × Unit)} {G1 Fx G2 : List Nat} {x : File} {s : Unit} (h : Foc fileD w b o n c rs j G1 Fx G2 x s) :
    w.cell? ⟨b, o + j * 3, none⟩ = some (.string x.name) ∧ w.cell? ⟨b, o + j * 3 + 1, none⟩ = some (.string x.data) ∧ w.cell? ⟨b, o + j * 3 + 2, none⟩ = some (.int .i64 x.safe) := ⟨h.cells 0 _ rfl, h.cells 1 _ rfl, h.cells 2 _ rfl⟩

end Go.Proofs.YtjobmbjadpldfaaGreat
end
section
namespace Go.Proofs.YtjobmbjadpldfaaGreat
open Go.RowKit
set_option maxRecDepth 100000
set_option maxHeartbeats 1000000
set_option linter.unusedVariables false
set_option linter.unusedSimpArgs false

@[go_sem] abbrev planW (x : Plan) (s : Sl) : Value := .agg #[.int .i64 x.prio, .int .i64 x.most, .int .i64 x.wait, .int .i64 x.tasks, .slice s.a s.n s.c]
abbrev planD : Dt Plan := Dt.via (Dt.list edgeD) (·.edges) (fun q => [.int .i64 q.1.prio, .int .i64 q.1.most, .int .i64 q.1.wait, .int .i64 q.1.tasks, .slice q.2.a q.2.n q.2.c]) 5 (fun _ => rfl) (fun q u hu => by simp at hu; rcases hu with rfl | rfl | rfl | rfl | rfl <;> rfl)
/-- all lengths in it together -/
def cntPlan (x : Plan) : Nat := cntL cntEdge x.edges
/-- ints are int64, lengths are what a machine holds -/
def wfPlan (x : Plan) : Prop := Wf x.prio ∧ Wf x.most ∧ Wf x.wait ∧ Wf x.tasks ∧ wfL wfEdge x.edges
def numPlan (x : Plan) : Nat := 4 + numL numEdge x.edges
/-- with the marks from k on -/
def mkPlan (k : Int) (x : Plan) : Plan := ⟨k, k + 1, k + 1 + 1, k + 1 + 1 + 1, mkL mkEdge numEdge (k + 1 + 1 + 1 + 1) x.edges⟩
theorem numPlan_le (x : Plan) : numPlan x ≤ 13 * (cntPlan x + 1) := by
  have h0 := numL_le (num := numEdge) (cnt := cntEdge) (K := 13) numEdge_le x.edges
  unfold numPlan cntPlan
  omega

theorem toPlan_own (x : Plan) (s : Sl) (w : World) (hl : cntPlan x ≤ 2000000) (h : planD.rd w w.heap.size x s) :
    Calls Tryz.prog 98 #[planW x s] w (OwnPost planD planW x w) := by
  have hbx : ∀ W, Below w.heap.size w W → planD.rd W W.heap.size x s := fun W hW => planD.rd_more (planD.rd_below h hW) hW.size
  go_enter Tryz.func98, Tryz.ntmps98
  go_wp2_with fail
  refine (toEdgeS_own x.edges s _ (by unfold cntPlan at hl; omega) ((hbx _ (by repeat (first | exact Below.refl _ _ | refine Below.alloc ?_ (by simp <;> omega) _))))).mono ?_
  rintro e w0 ⟨s0, F0, rfl, o0, n0, hb0⟩
  obtain ⟨q0, p0⟩ := bcell hb0
  have z0 := hb0.size
  simp only [World.size_alloc, World.size_setCell] at z0 n0
  have B0 : Below w.heap.size w w0 := bnext (by repeat (first | exact Below.refl _ _ | refine Below.alloc ?_ (by simp <;> omega) _)) hb0
  go_wp2
  refine bodyPost_ret (v := planW x s0) ?_ rfl ?_
  · simp [planW, results, Tryz.results98, go_sem, q0]
  · refine ⟨s0, F0, rfl, ?_, ?_, ?_⟩
    · repeat (first | (with_reducible exact o0) | refine Dt.ow_set _ ?_ (by intro hm; have := n0 _ hm; (try simp only [World.size_alloc, World.size_setCell] at this); omega) _)
    · intro b hb
      have := n0 b hb
      omega
    · repeat (first | (with_reducible exact B0) | (with_reducible exact Below.refl _ _) | refine Below.setCell ?_ (by simp <;> omega) _ | refine Below.alloc ?_ (by simp <;> omega) _)

theorem eqPlan_own (x y : Plan) (s r : Sl) (w : World) (hl : cntPlan x ≤ 2000000) (hl' : cntPlan y ≤ 2000000) (h : planD.rd w w.heap.size x s) (h' : planD.rd w w.heap.size y r) :
    Calls Tryz.prog 102 #[planW x s, planW y r] w fun e w' => e = .returned (.bool (decide (x = y))) ∧ Below w.heap.size w w' := by
  have hbx : ∀ W, Below w.heap.size w W → planD.rd W W.heap.size x s := fun W hW => planD.rd_more (planD.rd_below h hW) hW.size
  have hby : ∀ W, Below w.heap.size w W → planD.rd W W.heap.size y r := fun W hW => planD.rd_more (planD.rd_below h' hW) hW.size
  by_cases h0 : x.prio = y.prio
  case neg =>
    have t0 : (x.prio != y.prio) = true := by rw [bne_iff_ne]; exact h0
    have H := Lib.hid (show decide (x = y) = false by simp only [decide_eq_false_iff_not]; intro e; exact h0 (by rw [e]))
    clear h0
    go_enter Tryz.func102, Tryz.ntmps102
    go_wp2
    go_ret
    exact ⟨ret_bool (by first | exact H.out.symm | rfl), by repeat (first | exact Below.refl _ _ | refine Below.alloc ?_ (by simp <;> omega) _)⟩
  have t0 : (x.prio != y.prio) = false := by simp [h0]
  have H0 := Lib.hid h0
  clear h0
  by_cases h1 : x.most = y.most
  case neg =>
    have t1 : (x.most != y.most) = true := by rw [bne_iff_ne]; exact h1
    have H := Lib.hid (show decide (x = y) = false by simp only [decide_eq_false_iff_not]; intro e; exact h1 (by rw [e]))
    clear h1
    go_enter Tryz.func102, Tryz.ntmps102
    go_wp2
    go_ret
    exact ⟨ret_bool (by first | exact H.out.symm | rfl), by repeat (first | exact Below.refl _ _ | refine Below.alloc ?_ (by simp <;> omega) _)⟩
  have t1 : (x.most != y.most) = false := by simp [h1]
  have H1 := Lib.hid h1
  clear h1
  by_cases h2 : x.wait = y.wait
  case neg =>
    have t2 : (x.wait != y.wait) = true := by rw [bne_iff_ne]; exact h2
    have H := Lib.hid (show decide (x = y) = false by simp only [decide_eq_false_iff_not]; intro e; exact h2 (by rw [e]))
    clear h2
    go_enter Tryz.func102, Tryz.ntmps102
    go_wp2
    go_ret
    exact ⟨ret_bool (by first | exact H.out.symm | rfl), by repeat (first | exact Below.refl _ _ | refine Below.alloc ?_ (by simp <;> omega) _)⟩
  have t2 : (x.wait != y.wait) = false := by simp [h2]
  have H2 := Lib.hid h2
  clear h2
  by_cases h3 : x.tasks = y.tasks
  case neg =>
    have t3 : (x.tasks != y.tasks) = true := by rw [bne_iff_ne]; exact h3
    have H := Lib.hid (show decide (x = y) = false by simp only [decide_eq_false_iff_not]; intro e; exact h3 (by rw [e]))
    clear h3
    go_enter Tryz.func102, Tryz.ntmps102
    go_wp2
    go_ret
    exact ⟨ret_bool (by first | exact H.out.symm | rfl), by repeat (first | exact Below.refl _ _ | refine Below.alloc ?_ (by simp <;> omega) _)⟩
  have t3 : (x.tasks != y.tasks) = false := by simp [h3]
  have H3 := Lib.hid h3
  clear h3
  go_enter Tryz.func102, Tryz.ntmps102
  go_wp2_with fail
  refine (eqEdgeS_own x.edges y.edges s r _ (by unfold cntPlan at hl; omega) (by unfold cntPlan at hl'; omega) ((hbx _ (by repeat (first | exact Below.refl _ _ | refine Below.alloc ?_ (by simp <;> omega) _)))) ((hby _ (by repeat (first | exact Below.refl _ _ | refine Below.alloc ?_ (by simp <;> omega) _))))).mono ?_
  rintro e w4 ⟨rfl, hb4⟩
  have B4 : Below w.heap.size w w4 := bnext (by repeat (first | exact Below.refl _ _ | refine Below.alloc ?_ (by simp <;> omega) _)) hb4
  obtain ⟨q4, p4⟩ := bcell hb4
  by_cases h4 : x.edges = y.edges
  case neg =>
    have H := Lib.hid (show decide (x = y) = false by simp only [decide_eq_false_iff_not]; intro e; exact h4 (by rw [e]))
    rw [decide_eq_false h4]
    clear h4
    go_wp2
    go_ret
    exact ⟨ret_bool (by first | exact H.out.symm | rfl), by exact B4⟩
  rw [decide_eq_true h4]
  have H4 := Lib.hid h4
  clear h4
  have H := Lib.hid (show decide (x = y) = true by
    simp only [decide_eq_true_eq]
    have hh := And.intro H0.out (And.intro H1.out (And.intro H2.out (And.intro H3.out H4.out)))
    obtain ⟨e0, e1, e2, e3, e4⟩ := hh
    cases x
    cases y
    simp only at e0 e1 e2 e3 e4
    subst e0 e1 e2 e3 e4
    rfl)
  go_wp2
  go_ret
  exact ⟨ret_bool (by first | exact H.out.symm | rfl), by exact B4⟩

theorem szPlan_own (x : Plan) (s : Sl) (left : Int) (w : World) (h0 : 0 ≤ left) (h1 : left ≤ 2000000) (hw : wfPlan x) (h : planD.rd w w.heap.size x s) :
    Calls Tryz.prog 94 #[planW x s, .int .i64 left] w (SzPost left (cntPlan x) w) := by
  have hbx : ∀ W, Below w.heap.size w W → planD.rd W W.heap.size x s := fun W hW => planD.rd_more (planD.rd_below h hW) hW.size
  go_enter Tryz.func94, Tryz.ntmps94
  go_wp2_with fail
  refine (szEdgeS_own x.edges s left _ (by omega) (by omega) hw.2.2.2.2 ((hbx _ (by repeat (first | exact Below.refl _ _ | refine Below.alloc ?_ (by simp <;> omega) _))))).mono ?_
  rintro e w0 ⟨r0, rfl, hr0, hb0⟩
  have B0 : Below w.heap.size w w0 := bnext (by repeat (first | exact Below.refl _ _ | refine Below.alloc ?_ (by simp <;> omega) _)) hb0
  obtain ⟨q0, p0⟩ := bcell hb0
  rcases hr0 with rfl | ⟨y0, z0⟩
  · go_wp2
    go_ret
    exact ⟨-1, rfl, .inl rfl, B0⟩
  go_wp2
  go_ret
  exact ⟨_, rfl, .inr ⟨by omega, by unfold cntPlan; omega⟩, B0⟩
end Go.Proofs.YtjobmbjadpldfaaGreat
end
