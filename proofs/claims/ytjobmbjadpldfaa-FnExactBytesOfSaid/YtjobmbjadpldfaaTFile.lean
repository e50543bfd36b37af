/-
  Data of the type File: how it lies in memory, and the walks of the laws' helpers on it. Written by program (deep.py).
-/
import Derived.Test.YtjobmbjadpldfaaDp
namespace Go.Proofs.Ytjobmbjadpldfaa
open Go.RowKit
set_option maxRecDepth 100000
set_option maxHeartbeats 1000000
set_option linter.unusedVariables false
set_option linter.unusedSimpArgs false

structure File where
  name : ByteArray
  data : ByteArray
  safe : Int
deriving DecidableEq, Inhabited

@[go_sem] abbrev fileW (x : File) (_s : Unit) : Value := .agg #[.string x.name, .string x.data, .int .i64 x.safe]
abbrev fileD : Dt File := Dt.flat (fun q => [.string q.1.name, .string q.1.data, .int .i64 q.1.safe]) 3 (fun _ => rfl) (fun q u hu => by simp at hu; rcases hu with rfl | rfl | rfl <;> rfl)
/-- all lengths in it together -/
def cntFile (x : File) : Nat := x.name.size + x.data.size
/-- ints are int64, lengths are what a machine holds -/
def wfFile (x : File) : Prop := x.name.size ≤ 9223372036854775807 ∧ x.data.size ≤ 9223372036854775807 ∧ Wf x.safe

theorem toFile_own (x : File) (s : Unit) (w : World) (hl : cntFile x ≤ 2000000) (h : fileD.rd w w.heap.size x s) :
    Calls Try.prog 71 #[fileW x s] w (OwnPost fileD fileW x w) := by
  have hbx : ∀ W, Below w.heap.size w W → fileD.rd W W.heap.size x s := fun W hW => fileD.rd_more (fileD.rd_below h hW) hW.size
  go_enter Try.func71, Try.ntmps71
  go_wp2
  refine bodyPost_ret (v := fileW x ()) ?_ rfl ?_
  · simp [fileW, results, Try.results71, go_sem]
  · exact ⟨(), [], rfl, rfl, (fun _ h => by cases h), by repeat (first | (with_reducible exact Below.refl _ _) | refine Below.setCell ?_ (by simp <;> omega) _ | refine Below.alloc ?_ (by simp <;> omega) _)⟩

theorem eqFile_own (x y : File) (s r : Unit) (w : World) (hl : cntFile x ≤ 2000000) (hl' : cntFile y ≤ 2000000) (h : fileD.rd w w.heap.size x s) (h' : fileD.rd w w.heap.size y r) :
    Calls Try.prog 79 #[fileW x s, fileW y r] w fun e w' => e = .returned (.bool (decide (x = y))) ∧ Below w.heap.size w w' := by
  have hbx : ∀ W, Below w.heap.size w W → fileD.rd W W.heap.size x s := fun W hW => fileD.rd_more (fileD.rd_below h hW) hW.size
  have hby : ∀ W, Below w.heap.size w W → fileD.rd W W.heap.size y r := fun W hW => fileD.rd_more (fileD.rd_below h' hW) hW.size
  by_cases h0 : x.name = y.name
  case neg =>
    have t0 : (x.name.toList == y.name.toList) = false := bytes_ne h0
    have H := Lib.hid (show decide (x = y) = false by simp only [decide_eq_false_iff_not]; intro e; exact h0 (by rw [e]))
    clear h0
    go_enter Try.func79, Try.ntmps79
    go_wp2
    go_ret
    exact ⟨ret_bool (by first | exact H.out.symm | rfl), by repeat (first | exact Below.refl _ _ | refine Below.alloc ?_ (by simp <;> omega) _)⟩
  have t0 : (x.name.toList == y.name.toList) = true := by simp [h0]
  have H0 := Lib.hid h0
  clear h0
  by_cases h1 : x.data = y.data
  case neg =>
    have t1 : (x.data.toList == y.data.toList) = false := bytes_ne h1
    have H := Lib.hid (show decide (x = y) = false by simp only [decide_eq_false_iff_not]; intro e; exact h1 (by rw [e]))
    clear h1
    go_enter Try.func79, Try.ntmps79
    go_wp2
    go_ret
    exact ⟨ret_bool (by first | exact H.out.symm | rfl), by repeat (first | exact Below.refl _ _ | refine Below.alloc ?_ (by simp <;> omega) _)⟩
  have t1 : (x.data.toList == y.data.toList) = true := by simp [h1]
  have H1 := Lib.hid h1
  clear h1
  by_cases h2 : x.safe = y.safe
  case neg =>
    have t2 : (x.safe != y.safe) = true := by rw [bne_iff_ne]; exact h2
    have H := Lib.hid (show decide (x = y) = false by simp only [decide_eq_false_iff_not]; intro e; exact h2 (by rw [e]))
    clear h2
    go_enter Try.func79, Try.ntmps79
    go_wp2
    go_ret
    exact ⟨ret_bool (by first | exact H.out.symm | rfl), by repeat (first | exact Below.refl _ _ | refine Below.alloc ?_ (by simp <;> omega) _)⟩
  have t2 : (x.safe != y.safe) = false := by simp [h2]
  have H2 := Lib.hid h2
  clear h2
  have H := Lib.hid (show decide (x = y) = true by
    simp only [decide_eq_true_eq]
    have hh := And.intro H0.out (And.intro H1.out H2.out)
    obtain ⟨e0, e1, e2⟩ := hh
    cases x
    cases y
    simp only at e0 e1 e2
    subst e0 e1 e2
    rfl)
  go_enter Try.func79, Try.ntmps79
  go_wp2
  go_ret
  exact ⟨ret_bool (by first | exact H.out.symm | rfl), by repeat (first | exact Below.refl _ _ | refine Below.alloc ?_ (by simp <;> omega) _)⟩

theorem szFile_own (x : File) (s : Unit) (left : Int) (w : World) (h0 : 0 ≤ left) (h1 : left ≤ 2000000) (hw : wfFile x) (h : fileD.rd w w.heap.size x s) :
    Calls Try.prog 68 #[fileW x s, .int .i64 left] w (SzPost left (cntFile x) w) := by
  obtain ⟨hw0, hw1, hw2⟩ := hw
  by_cases a_name : left < (x.name.size : Int)
  · go_enter Try.func68, Try.ntmps68
    go_wp2
    go_ret
    exact ⟨-1, rfl, .inl rfl, by repeat (first | exact Below.refl _ _ | refine Below.alloc ?_ (by simp <;> omega) _)⟩
  by_cases a_data : left - (x.name.size : Int) < (x.data.size : Int)
  · go_enter Try.func68, Try.ntmps68
    go_wp2
    go_ret
    exact ⟨-1, rfl, .inl rfl, by repeat (first | exact Below.refl _ _ | refine Below.alloc ?_ (by simp <;> omega) _)⟩
  go_enter Try.func68, Try.ntmps68
  go_wp2
  go_ret
  exact ⟨_, rfl, .inr ⟨by omega, by unfold cntFile; push_cast; omega⟩, by repeat (first | exact Below.refl _ _ | refine Below.alloc ?_ (by simp <;> omega) _)⟩

theorem RdL.file {w : World} {B : Nat} {A : Option Addr} {n c : Nat} {l : List (File)} (h : RdL fileD w B (.slice A n c) l) {k : Nat} (hk : k < l.length) :
    ∃ b o, ∃ _s : Unit, A = some ⟨b, o, none⟩ ∧ b < B ∧ fileD.rd w B l[k] _s ∧ w.cell? ⟨b, o + k * 3, none⟩ = some (.string l[k].name) ∧ w.cell? ⟨b, o + k * 3 + 1, none⟩ = some (.string l[k].data) ∧ w.cell? ⟨b, o + k * 3 + 2, none⟩ = some (.int .i64 l[k].safe) := by
  obtain ⟨b, o, s, rfl, hb, hc, hr⟩ := h.at_ k hk
  exact ⟨b, o, s, rfl, hb, hr, hc 0 _ rfl, hc 1 _ rfl, hc 2 _ rfl⟩
theorem Ow.c_file {E : TypeId} {w : World} {base g n cap : Nat} {l : List ((File) × Unit)} (h : Ow fileD.enc E w base (.slice (some ⟨g, 0, none⟩) n cap) l) {k : Nat} (hk : k < l.length) :
    w.cell? ⟨g, k * 3, none⟩ = some (.string l[k].1.name) ∧ w.cell? ⟨g, k * 3 + 1, none⟩ = some (.string l[k].1.data) ∧ w.cell? ⟨g, k * 3 + 2, none⟩ = some (.int .i64 l[k].1.safe) := by
  rcases h.form with ⟨h1, _⟩ | ⟨g', cap', hv, _, _, _, _, _, hc⟩
  · simp at h1
  · simp only [Value.slice.injEq, Option.some.injEq, Addr.mk.injEq, and_true] at hv
    obtain ⟨rfl, _, _⟩ := hv
    exact ⟨hc k hk 0 _ rfl, hc k hk 1 _ rfl, hc k hk 2 _ rfl⟩
theorem Foc.file {w : World} {b o n c j : Nat} {rs : List ((File) × Unit)} {G1 Fx G2 : List Nat} {x : File} {s : Unit} (h : Foc fileD w b o n c rs j G1 Fx G2 x s) :
    w.cell? ⟨b, o + j * 3, none⟩ = some (.string x.name) ∧ w.cell? ⟨b, o + j * 3 + 1, none⟩ = some (.string x.data) ∧ w.cell? ⟨b, o + j * 3 + 2, none⟩ = some (.int .i64 x.safe) := ⟨h.cells 0 _ rfl, h.cells 1 _ rfl, h.cells 2 _ rfl⟩

theorem szFileS_own (l : List (File)) (s : Sl) (left : Int) (w : World) (h0 : 0 ≤ left) (h1 : left ≤ 2000000) (hw : wfL wfFile l) (h : RdL fileD w w.heap.size s.v l) :
    Calls Try.prog 43 #[.slice s.a s.n s.c, .int .i64 left] w (SzPost left (cntL cntFile l) w) := by
  obtain ⟨A, n, c⟩ := s
  obtain ⟨A', c', hv, -⟩ := h.form
  simp only [Sl.v, Value.slice.injEq] at hv
  obtain ⟨rfl, rfl, rfl⟩ := hv
  have hll := hw.1
  by_cases hlt : left < l.length
  · go_enter Try.func43, Try.ntmps43
    go_wp2
    go_ret
    exact ⟨-1, rfl, .inl rfl, Below.refl _ _⟩
  have Hw := Lib.hid hw
  clear hw
  go_enter Try.func43, Try.ntmps43
  go_wp2
  go_loopw [1, 5] (fun t i wr => ∃ k : Nat, ∃ m : Int, k ≤ l.length ∧ i = .int .i64 k ∧ t = .int .i64 m ∧ 0 ≤ m ∧ m + l.length + (((l.take k).map cntFile).sum : Nat) ≤ left ∧ Below w.heap.size w wr) (fun _ i _ => l.length - (intOf i).toNat)
  case atStart => exact ⟨0, _, Nat.zero_le _, rfl, rfl, by omega, by simp <;> omega, Below.refl _ _⟩
  case round =>
    obtain ⟨k, m, hk, rfl, rfl, m0, m1, hb⟩ := hrel
    by_cases hlt : k < l.length
    · obtain ⟨b, o, s, rfl, hbb, hr, c0, c1, c2⟩ := (h.below hb).file hlt
      have hx : ∀ W, Below wr.heap.size wr W → fileD.rd W W.heap.size l[k] s := fun W hW => fileD.rd_more (fileD.rd_below (fileD.rd_more hr hb.size) hW) hW.size
      have hwk : wfFile l[k] := Hw.out.2 _ (List.getElem_mem hlt)
      have M1 := Lib.hid m1
      have m2 : m ≤ 2000000 := by omega
      clear m1
      go_wp2_with fail
      refine (szFile_own l[k] s m _ m0 m2 hwk (hx _ (by first | exact Below.refl _ _ | exact (Below.refl _ _).drew))).mono ?_
      rintro e w1 ⟨r, rfl, hr, hb1⟩
      rcases hr with rfl | ⟨r0, r1⟩
      · go_wp2
        go_ret
        exact ⟨-1, rfl, .inl rfl, bnext hb hb1⟩
      · go_wp2
        refine ⟨⟨k + 1, r, by omega, by go_num, rfl, r0, ?_, bnext hb hb1⟩, by simp [intOf]; omega⟩
        have M2 := M1.out
        have r2 : r + (cntFile l[k] : Nat) ≤ m := r1
        rw [sum_take_succ _ _ _ hlt]
        push_cast
        omega
    · go_wp2
      go_ret
      refine ⟨_, rfl, .inr ⟨by omega, ?_⟩, hb⟩
      rw [List.take_of_length_le (by omega)] at m1
      unfold cntL
      push_cast
      omega

theorem eqFileS_own (l l' : List (File)) (s s' : Sl) (w : World) (hl : cntL cntFile l ≤ 2000000) (hl' : cntL cntFile l' ≤ 2000000) (h : RdL fileD w w.heap.size s.v l) (h' : RdL fileD w w.heap.size s'.v l') :
    Calls Try.prog 52 #[.slice s.a s.n s.c, .slice s'.a s'.n s'.c] w fun e w' => e = .returned (.bool (decide (l = l'))) ∧ Below w.heap.size w w' := by
  obtain ⟨A, n, c⟩ := s
  obtain ⟨A0, c0, hv, -⟩ := h.form
  simp only [Sl.v, Value.slice.injEq] at hv
  obtain ⟨rfl, rfl, rfl⟩ := hv
  obtain ⟨A', n', c'⟩ := s'
  obtain ⟨A0, c0, hv, -⟩ := h'.form
  simp only [Sl.v, Value.slice.injEq] at hv
  obtain ⟨rfl, rfl, rfl⟩ := hv
  have hll : l.length ≤ 2000000 := Nat.le_trans (cntL_len _ _) hl
  have hll' : l'.length ≤ 2000000 := Nat.le_trans (cntL_len _ _) hl'
  have hcc : ∀ k (hk : k < l.length), cntFile l[k] ≤ 2000000 := fun k hk => by have := cntL_mem (cnt := cntFile) (List.getElem_mem hk); omega
  have hcc' : ∀ k (hk : k < l'.length), cntFile l'[k] ≤ 2000000 := fun k hk => by have := cntL_mem (cnt := cntFile) (List.getElem_mem hk); omega
  clear hl hl'
  by_cases hne : l.length = l'.length
  · have hb0 : ((l.length : Int) != (l'.length : Int)) = false := by simp [hne]
    have Hne := Lib.hid hne
    clear hne
    go_enter Try.func52, Try.ntmps52
    go_wp2
    go_loopw [5] (fun i wr => ∃ k : Nat, k ≤ l.length ∧ i = .int .i64 k ∧ Hid (l.take k = l'.take k) ∧ Below w.heap.size w wr) (fun i _ => l.length - (intOf i).toNat)
    case atStart => exact ⟨0, Nat.zero_le _, rfl, rfl, Below.refl _ _⟩
    case round =>
      obtain ⟨k, hk, rfl, heq, hb⟩ := hrel
      by_cases hlt : k < l.length
      · have hlt' : k < l'.length := by rw [← Hne.out]; exact hlt
        obtain ⟨b, o, s, rfl, hbb, hr, c0, c1, c2⟩ := (h.below hb).file hlt
        obtain ⟨b', o', s', rfl, hbb', hr', d0, d1, d2⟩ := (h'.below hb).file hlt'
        have hx : ∀ W, Below wr.heap.size wr W → fileD.rd W W.heap.size l[k] s := fun W hW => fileD.rd_more (fileD.rd_below (fileD.rd_more hr hb.size) hW) hW.size
        have hx' : ∀ W, Below wr.heap.size wr W → fileD.rd W W.heap.size l'[k] s' := fun W hW => fileD.rd_more (fileD.rd_below (fileD.rd_more hr' hb.size) hW) hW.size
        go_wp2
        go_still_tail 8, (by kernel_rfl)
        go_wp2_with (go_at_call 79; refine (eqFile_own l[k] l'[k] s s' _ (hcc k hlt) (hcc' k hlt') (hx _ (by first | exact Below.refl _ _ | exact (Below.refl _ _).drew)) (hx' _ (by first | exact Below.refl _ _ | exact (Below.refl _ _).drew))).mono ?_; rintro e w1 ⟨rfl, hb1⟩)
        · rename_i hd
          go_ret
          refine ⟨ret_bool ?_, (hb.drew).trans (hb1.mono hb.size)⟩
          simp only [Bool.false_eq, decide_eq_false_iff_not]
          intro e
          subst e
          simp at hd
        · rename_i hd
          refine ⟨⟨k + 1, by omega, by go_num, ?_, (hb.drew).trans (hb1.mono hb.size)⟩, by simp [intOf]; omega⟩
          show List.take (k + 1) l = List.take (k + 1) l'
          rw [take_snoc l k hlt, take_snoc l' k hlt', heq.out]
          simp at hd
          rw [hd]
      · go_wp2
        go_ret
        refine ⟨ret_bool ?_, hb⟩
        have h1 := heq.out
        rw [List.take_of_length_le (by omega), List.take_of_length_le (by rw [← Hne.out]; omega)] at h1
        simp [h1]
  · have hb0 : ((l.length : Int) != (l'.length : Int)) = true := by simp; omega
    go_enter Try.func52, Try.ntmps52
    go_wp2
    go_ret
    refine ⟨ret_bool ?_, Below.refl _ _⟩
    simp only [Bool.false_eq, decide_eq_false_iff_not]
    intro e
    exact hne (by rw [e])


theorem file_infoD : (Try.prog.info? 143).map (fun i => (i.zero, i.size, i.bytes)) = some (some (.agg #[.string ⟨#[]⟩, .string ⟨#[]⟩, .int .i64 0]), 3, 40) := by kernel_rfl

theorem toFileS_own (l : List (File)) (s : Sl) (w : World) (hl : cntL cntFile l ≤ 2000000) (h : RdL fileD w w.heap.size s.v l) :
    Calls Try.prog 47 #[.slice s.a s.n s.c] w (OwnPost (Dt.list fileD) slV l w) := by
  obtain ⟨A, n, c⟩ := s
  obtain ⟨A', c', hv, -⟩ := h.form
  simp only [Sl.v, Value.slice.injEq] at hv
  obtain ⟨rfl, rfl, rfl⟩ := hv
  have hll : l.length ≤ 2000000 := Nat.le_trans (cntL_len _ _) hl
  have hcc : ∀ k (hk : k < l.length), cntFile l[k] ≤ 2000000 := fun k hk => by have := cntL_mem (cnt := cntFile) (List.getElem_mem hk); omega
  clear hl
  obtain ⟨i0, hi0, hz0, hz1, hz2⟩ := info_parts file_infoD
  have hmk : ∀ w : World, (Instr.makeSlice 51 (.int .i64 (l.length : Int)) (.int .i64 (l.length : Int))).run Try.prog w = .ok (.slice (some ⟨w.heap.size, 0, none⟩) l.length l.length) (w.alloc (.cells (madeCells #[.string ⟨#[]⟩, .string ⟨#[]⟩, .int .i64 0] (l.length * 3)) 143)) := by
    intro w
    have := run_make (P := Try.prog) w 51 143 i0 _ Try.underlying51 hi0 hz0 .i64 .i64 l.length l.length (by omega) (by omega) (by rw [hz2]; omega) (by omega)
    rw [hz1] at this
    simpa [Value.cells] using this
  go_enter Try.func47, Try.ntmps47
  go_wp2
  go_loopw [4] (fun i wr => ∃ k : Nat, k ≤ l.length ∧ i = .int .i64 k ∧ Hid (∃ (rs : List ((File) × Unit)) (G : List Nat), rs.map (·.1) = l.take k ∧ Ow fileD.enc 143 wr w.heap.size (.slice (some ⟨w.heap.size, 0, none⟩) l.length l.length) (rs ++ List.replicate (l.length - k) (⟨⟨#[]⟩, ⟨#[]⟩, 0⟩, ())) ∧ Ows fileD wr G rs ∧ G.Nodup ∧ ∀ b ∈ G, w.heap.size < b) ∧ Below w.heap.size w wr) (fun i _ => l.length - (intOf i).toNat)
  case atStart => exact ⟨0, Nat.zero_le _, rfl, ⟨[], [], rfl, by rw [List.nil_append, Nat.sub_zero]; exact Ow.made fileD.enc 143 w (⟨⟨#[]⟩, ⟨#[]⟩, 0⟩, ()) l.length (by decide) (by simp [maxLen]; omega) rfl rfl, .nil, List.nodup_nil, fun _ h => by cases h⟩, (Below.refl _ _).alloc (Nat.le_refl _) _⟩
  case round =>
    obtain ⟨k, hk, rfl, ⟨rs, G, hm, hown, hG, hGn, hGb⟩, hb⟩ := hrel
    have hrl : rs.length = k := by have := congrArg List.length hm; simpa [Nat.min_eq_left hk] using this
    by_cases hlt : k < l.length
    · obtain ⟨b, o, s, rfl, hbb, hr, c0, c1, c2⟩ := (h.below hb).file hlt
      have hx : ∀ W, Below wr.heap.size wr W → fileD.rd W W.heap.size l[k] s := fun W hW => fileD.rd_more (fileD.rd_below (fileD.rd_more hr hb.size) hW) hW.size
      have hlen : (rs ++ List.replicate (l.length - k) ((⟨⟨#[]⟩, ⟨#[]⟩, 0⟩, ()) : (File) × Unit)).length = l.length := by simp; omega
      have Hm := Lib.hid hm
      have Hrl := Lib.hid hrl
      clear hm hrl
      go_wp2_with (go_at_call 71; refine (toFile_own l[k] s _ (hcc k hlt) (hx _ (by first | exact Below.refl _ _ | exact (Below.refl _ _).drew))).mono ?_; rintro e w1 ⟨s1, F1, rfl, o1, n1, hb1⟩; have hown1 := hown.below hb1; have hf := hown1.free; obtain ⟨d0, d1, d2⟩ := hown1.c_file (k := k) (by rw [hlen]; exact hlt))
      have hp := Ow.put hown1 hlen k hlt (l[k], s1)
      have Hp := Bld.lay hG hGn hGb hb1 (r := (l[k], s1)) o1 n1 (Nat.lt_of_lt_of_le (hown.blk).2 (Nat.le_refl _)) hp.2
      rw [mix_snoc rs _ k l.length Hrl.out hlt] at hp
      refine ⟨⟨k + 1, by omega, by go_num, ⟨rs ++ [(l[k], s1)], G ++ F1, ?_, hp.1, Hp.1, Hp.2.1, Hp.2.2⟩, (hb.trans (hb1.mono hb.size)).grown hp.2 (Nat.le_trans hb.size hb1.size) (fun g hg => by simp at hg; omega)⟩, by simp [intOf]; omega⟩
      rw [List.map_append, Hm.out, take_snoc l k hlt]
      rfl
    · have hk' : k = l.length := by omega
      subst hk'
      rw [Nat.sub_self, List.replicate_zero, List.append_nil] at hown
      go_wp2
      go_ret
      rw [List.take_length] at hm
      have hB : Bld fileD 143 wr w.heap.size (.slice (some ⟨w.heap.size, 0, none⟩) l.length l.length) rs := ⟨G, by rw [← hrl]; exact (by rw [hrl]; exact hown), hG, hGn, fun b hb' => ⟨Nat.le_of_lt (hGb b hb'), by simp [Value.ownBlock]; have := hGb b hb'; omega⟩⟩
      obtain ⟨F, h1, h2⟩ := hB.owl hm
      exact ⟨⟨some ⟨w.heap.size, 0, none⟩, l.length, l.length⟩, F, rfl, h1, h2, hb⟩

end Go.Proofs.Ytjobmbjadpldfaa
