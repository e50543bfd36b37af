/-
  Yards that are right: the program's walk. Yards that are right: the reference's walk. Yards that are right: the reference's walk, whole. Followers that are new; desks that are right: the program's walks and the reference's. Written by program (yz.py). The law FnExactFollowerNew: its walk, out of the contracts of what it calls. Written by program (lawdeep.py).
-/
import Derived.Test.YtjobmbjadpldfaaGreatZFollowerNew6
section
namespace Go.Proofs.YtjobmbjadpldfaaGreat
open Go.RowKit
set_option maxRecDepth 100000
set_option maxHeartbeats 4000000
set_option linter.unusedVariables false
set_option linter.unusedSimpArgs false

/-- the numbers of the entries ahead of a place -/
def seqsN (l : List Entry) (k : Nat) : List Nat := (l.take k).map fun e => e.seq.toNat
theorem seqsN_succ (l : List Entry) (k : Nat) (hk : k < l.length) : seqsN l (k + 1) = seqsN l k ++ [l[k].seq.toNat] := by
  unfold seqsN
  rw [take_snoc l k hk, List.map_append]
  rfl
theorem seqsN_len (l : List Entry) (k : Nat) : (seqsN l k).length ≤ k := by
  unfold seqsN
  rw [List.length_map, List.length_take]
  omega
theorem seqsN_nodup {l : List Entry} (h : ∀ j (hj : j < l.length), l[j].seq.toNat ∉ seqsN l j) : (l.map (·.seq)).Nodup := by
  have : ∀ k, k ≤ l.length → (seqsN l k).Nodup := by
    intro k
    induction k with
    | zero => intro _; simp [seqsN]
    | succ k ih =>
      intro hk
      rw [seqsN_succ l k (by omega), List.nodup_append]
      refine ⟨ih (by omega), by simp, fun a ha b hb e => ?_⟩
      have hb' : b = l[k].seq.toNat := by simpa using hb
      subst hb'
      subst e
      exact h k (by omega) ha
  have h2 := this l.length (Nat.le_refl _)
  unfold seqsN at h2
  rw [List.take_length] at h2
  have e : (l.map fun e => e.seq.toNat) = (l.map (·.seq)).map Int.toNat := by rw [List.map_map]; rfl
  rw [e] at h2
  exact List.Pairwise.of_map _ (fun a b hne e => hne (by rw [e])) h2
theorem nodup_seqsN {l : List Entry} (h : (l.map (·.seq)).Nodup) (hp : ∀ e ∈ l, 1 ≤ e.seq) {k : Nat} (hk : k < l.length) : l[k].seq.toNat ∉ seqsN l k := by
  intro hm
  unfold seqsN at hm
  obtain ⟨x, hx, he⟩ := List.mem_map.1 hm
  obtain ⟨j, hj, rfl⟩ := List.getElem_of_mem hx
  rw [List.length_take] at hj
  rw [List.getElem_take] at he
  have h1 := hp _ (List.getElem_mem (show j < l.length by omega))
  have h2 := hp _ (List.getElem_mem hk)
  have e : l[j].seq = l[k].seq := by omega
  have h3 := List.pairwise_iff_getElem.1 h j k (by rw [List.length_map]; omega) (by rw [List.length_map]; omega) (by omega)
  rw [List.getElem_map, List.getElem_map] at h3
  exact h3 e
theorem wait_of {p : Plan} (h : planFault p = 0) : 1 ≤ p.wait ∧ p.wait ≤ 20 := by
  have := (planFault_zero.1 h).1
  simp only [manyOk, Bool.and_eq_true] at this
  exact inB_iff.1 this.2

/-- what a yard that is right has to be, step by step -/
def entsOk (q : Int) (l : List Entry) (k : Nat) : Prop := ∀ j (hj : j < l.length), j < k → (1 ≤ l[j].seq ∧ l[j].seq ≤ q - 1) ∧ l[j].seq.toNat ∉ seqsN l j
theorem ents_step {q : Int} {l : List Entry} {k : Nat} (h : entsOk q l k) (hk : k < l.length) (h1 : inB l[k].seq 1 (q - 1) = true) (h2 : l[k].seq.toNat ∉ seqsN l k) : entsOk q l (k + 1) := by
  intro j hj hjk
  by_cases e : j = k
  · subst e; exact ⟨inB_iff.1 h1, h2⟩
  · exact h j hj (by omega)
theorem ents_bad1 {y : Yard} {k : Nat} (hk : k < (entriesOf y).length) (h1 : inB (entriesOf y)[k].seq 1 (y.seq - 1) = false) : ¬ yardP y := by
  intro h
  have := inB_iff.2 (h.2.2.2.2.1 _ (List.getElem_mem hk))
  rw [h1] at this
  cases this
theorem ents_bad2 {y : Yard} {k : Nat} (hk : k < (entriesOf y).length) (h1 : (entriesOf y)[k].seq.toNat ∈ seqsN (entriesOf y) k) : ¬ yardP y := fun h =>
  nodup_seqsN h.2.2.2.2.2.1 (fun e he => (h.2.2.2.2.1 e he).1) hk h1
def runsRight (y : Yard) (k : Nat) : Prop := ∀ j (hj : j < y.runs.length), j < k → runP y.runs[j] ∧ runAt y y.runs[j].id = j ∧ standP y.now y.runs[j] (entriesOf y)
theorem runs_step {y : Yard} {k : Nat} (h : runsRight y k) (hk : k < y.runs.length) (h1 : runP y.runs[k]) (h2 : runAt y y.runs[k].id = k) (h3 : standP y.now y.runs[k] (entriesOf y)) : runsRight y (k + 1) := by
  intro j hj hjk
  by_cases e : j = k
  · subst e; exact ⟨h1, h2, h3⟩
  · exact h j hj (by omega)
theorem yard_of {y : Yard} (h1 : inB y.now 0 999999980 = true) (h2 : inB y.seq 1 1000000000 = true) (h3 : y.shelf.length = 4) (h4 : ∀ k (hk : k < y.shelf.length), shelfP y.shelf[k]) (h5 : entsOk y.seq (entriesOf y) (entriesOf y).length) (h6 : y.runs.length ≤ 8) (h7 : runsRight y y.runs.length) :
    yardP y ↔ slotsOf y ≤ 40 := by
  constructor
  · intro h; exact h.2.2.2.2.2.2.2.2.2
  · intro h
    refine ⟨inB_iff.1 h1, inB_iff.1 h2, h3, fun l hl => ?_, fun e he => ?_, seqsN_nodup (fun j hj => (h5 j hj hj).2), h6, fun k hk => ⟨(h7 k hk hk).1, (h7 k hk hk).2.1⟩, fun r hr => ?_, h⟩
    · obtain ⟨k, hk, rfl⟩ := List.getElem_of_mem hl
      exact h4 k hk
    · obtain ⟨k, hk, rfl⟩ := List.getElem_of_mem he
      exact (h5 k hk hk).1
    · obtain ⟨k, hk, rfl⟩ := List.getElem_of_mem hr
      exact (h7 k hk hk).2.2

theorem implYardOk_any (y : Yard) (s : Sl × Sl) (w : World) (hl : cntYard y ≤ 2000000) (h : yardD.rd w w.heap.size y s) :
    Calls Tryz.prog 28 #[yardW y s] w fun e w' => e = .returned (.bool (tf (yardP y))) ∧ Below w.heap.size w w' := by
  have HR := Lib.hid (show ∀ W, Below w.heap.size w W → yardD.rd W W.heap.size y s from fun W hW => yardD.rd_more (yardD.rd_below h hW) hW.size)
  obtain ⟨⟨A1, n1, c1⟩, ⟨A2, n2, c2⟩⟩ := s
  obtain rfl : n1 = y.shelf.length := RdL.at1 (s := ⟨A1, n1, c1⟩) h.1
  obtain rfl : n2 = y.runs.length := RdL.at1 (s := ⟨A2, n2, c2⟩) h.2
  have h1 : RdL (Dt.list entryD) w w.heap.size (.slice A1 y.shelf.length c1) y.shelf := h.1
  have h2 : RdL runD w w.heap.size (.slice A2 y.runs.length c2) y.runs := h.2
  have hll : y.runs.length ≤ 2000000 := Nat.le_trans (cntL_len cntRun _) (by unfold cntYard at hl; omega)
  have hls : y.shelf.length ≤ 2000000 := Nat.le_trans (cntL_len cntEntryS _) (by unfold cntYard at hl; omega)
  have HE := Lib.hid (show ∀ k (hk : k < y.shelf.length), y.shelf[k].length ≤ 2000000 from fun k hk => by
    have := cntL_mem (cnt := cntEntryS) (List.getElem_mem hk)
    have h2 : y.shelf[k].length ≤ cntEntryS y.shelf[k] := cntL_len cntEntry _
    unfold cntYard at hl
    omega)
  have HC := Lib.hid (show ∀ k (hk : k < y.runs.length), cntRun y.runs[k] ≤ 2000000 from fun k hk => by
    have := cntL_mem (cnt := cntRun) (List.getElem_mem hk)
    unfold cntYard at hl
    omega)
  have HEn := Lib.hid (show (entriesOf y).length ≤ 2000000 by
    have := flat_take_le y.shelf y.shelf.length
    rw [List.take_length] at this
    unfold cntYard at hl
    unfold entriesOf
    omega)
  have hsl := slots_le hl
  clear h
  have X := DBox.new 34 [.int .i64 y.now, .int .i64 y.seq, .slice A1 y.shelf.length c1, .slice A2 y.runs.length c2] w (b := w.heap.size) rfl
  have B0 : Below w.heap.size w (w.alloc (.cells #[.int .i64 y.now, .int .i64 y.seq, .slice A1 y.shelf.length c1, .slice A2 y.runs.length c2] 34)) := by repeat (first | exact Below.refl _ _ | refine Below.alloc ?_ (by simp <;> omega) _)
  cases a1 : inB y.now 0 999999980
  case false =>
    have H := Lib.hid (tf_false (show ¬ yardP y from fun h => by have := inB_iff.2 h.1; rw [a1] at this; cases this))
    go_enter Tryz.func28, Tryz.ntmps28
    go_wp2_with (go_at_call 29; refine (within_any _ _ _ _).mono ?_; rintro e w' ⟨rfl, rfl⟩)
    go_ret
    exact ⟨ret_bool H.out.symm, B0⟩
  cases a2 : inB y.seq 1 1000000000
  case false =>
    have H := Lib.hid (tf_false (show ¬ yardP y from fun h => by have := inB_iff.2 h.2.1; rw [a2] at this; cases this))
    go_enter Tryz.func28, Tryz.ntmps28
    go_wp2_with (go_at_call 29; refine (within_any _ _ _ _).mono ?_; rintro e w' ⟨rfl, rfl⟩)
    go_ret
    exact ⟨ret_bool H.out.symm, B0⟩
  by_cases a3 : y.shelf.length = 4
  case neg =>
    have a3' : ((y.shelf.length : Int) != 4) = true := by simp; omega
    have H := Lib.hid (tf_false (show ¬ yardP y from fun h => a3 h.2.2.1))
    clear a3
    go_enter Tryz.func28, Tryz.ntmps28
    go_wp2_with (go_at_call 29; refine (within_any _ _ _ _).mono ?_; rintro e w' ⟨rfl, rfl⟩)
    go_ret
    exact ⟨ret_bool H.out.symm, B0⟩
  have a3' : ((y.shelf.length : Int) != 4) = false := by simp [a3]
  have A3_ := Lib.hid a3
  clear a3
  by_cases a4 : y.runs.length ≤ 8
  case neg =>
    have a4' : (8 : Int) < (y.runs.length : Int) := by omega
    have H := Lib.hid (tf_false (show ¬ yardP y from fun h => a4 h.2.2.2.2.2.2.1))
    clear a4
    go_enter Tryz.func28, Tryz.ntmps28
    go_wp2_with (go_at_call 29; refine (within_any _ _ _ _).mono ?_; rintro e w' ⟨rfl, rfl⟩)
    go_ret
    exact ⟨ret_bool H.out.symm, B0⟩
  have a4' : ¬ (8 : Int) < (y.runs.length : Int) := by omega
  have hqb := inB_iff.1 a2
  have hnb := inB_iff.1 a1
  go_enter Tryz.func28, Tryz.ntmps28
  go_wp2_with (go_at_call 29; refine (within_any _ _ _ _).mono ?_; rintro e w' ⟨rfl, rfl⟩)
  generalize (w.alloc (.cells #[.int .i64 y.now, .int .i64 y.seq, .slice A1 y.shelf.length c1, .slice A2 y.runs.length c2] 34)) = W at *
  have A1_ := Lib.hid a1
  have A2_ := Lib.hid a2
  clear a1 a2 a3' a4'
  go_loopw [36] (fun i wr => ∃ k : Nat, k ≤ y.shelf.length ∧ i = .int .i64 k ∧ Hid (∀ j (hj : j < y.shelf.length), j < k → shelfP y.shelf[j]) ∧ Below W.heap.size W wr) (fun i _ => y.shelf.length - (intOf i).toNat)
  case atStart => exact ⟨0, Nat.zero_le _, rfl, fun j _ h0 => absurd h0 (by omega), Below.refl _ _⟩
  case round =>
    obtain ⟨k, hk, rfl, hok, hb⟩ := hrel
    replace X := X.below hb
    replace B0 := bnext B0 hb
    by_cases hlt : k < y.shelf.length
    · have hltI : (k : Int) < (y.shelf.length : Int) := by omega
      obtain ⟨b, o, ⟨As, ns, cs⟩, hA1, hbb, hr, d0⟩ := (h1.below B0).entryS hlt
      obtain rfl : ns = y.shelf[k].length := RdL.at1 (s := ⟨As, ns, cs⟩) hr
      subst hA1
      have C := implShelfOk_any y.shelf[k] ⟨As, y.shelf[k].length, cs⟩ wr (HE.out k hlt) (hr.more B0.size)
      by_cases q : shelfP y.shelf[k]
      · have S : Hid (∀ j (hj : j < y.shelf.length), j < k + 1 → shelfP y.shelf[j]) := fun j hj hjk => by
          by_cases e : j = k
          · subst e; exact q
          · exact hok.out j hj (by omega)
        rw [tf_true q] at C
        clear q
        go_wp2_with fail
        refine C.mono ?_
        rintro e w2 ⟨rfl, b2⟩
        go_wp2
        first
          | exact ⟨⟨k + 1, by omega, by go_num, S, bnext hb b2⟩, by simp [intOf]; omega⟩
          | (refine ⟨?_, by simp [intOf]; omega⟩; (repeat apply Exists.intro); first | exact ⟨⟨k + 1, by omega, by go_num, S, bnext hb b2⟩, rfl⟩ | exact ⟨⟨k + 1, by omega, by go_num, S, bnext hb b2⟩, rfl, rfl⟩ | exact ⟨⟨k + 1, by omega, by go_num, S, bnext hb b2⟩, rfl, rfl, rfl⟩ | exact ⟨⟨k + 1, by omega, by go_num, S, bnext hb b2⟩, rfl, rfl, rfl, rfl⟩ | exact ⟨⟨k + 1, by omega, by go_num, S, bnext hb b2⟩, rfl, rfl, rfl, rfl, rfl⟩ | exact ⟨⟨k + 1, by omega, by go_num, S, bnext hb b2⟩, rfl, rfl, rfl, rfl, rfl, rfl⟩ | exact ⟨⟨k + 1, by omega, by go_num, S, bnext hb b2⟩, rfl, rfl, rfl, rfl, rfl, rfl, rfl⟩ | exact ⟨⟨k + 1, by omega, by go_num, S, bnext hb b2⟩, rfl, rfl, rfl, rfl, rfl, rfl, rfl, rfl⟩ | exact ⟨⟨k + 1, by omega, by go_num, S, bnext hb b2⟩, rfl, rfl, rfl, rfl, rfl, rfl, rfl, rfl, rfl⟩ | exact ⟨⟨k + 1, by omega, by go_num, S, bnext hb b2⟩, rfl, rfl, rfl, rfl, rfl, rfl, rfl, rfl, rfl, rfl⟩ | exact ⟨⟨k + 1, by omega, by go_num, S, bnext hb b2⟩, rfl, rfl, rfl, rfl, rfl, rfl, rfl, rfl, rfl, rfl, rfl⟩ | exact ⟨⟨k + 1, by omega, by go_num, S, bnext hb b2⟩, rfl, rfl, rfl, rfl, rfl, rfl, rfl, rfl, rfl, rfl, rfl, rfl⟩ | exact ⟨⟨k + 1, by omega, by go_num, S, bnext hb b2⟩, rfl, rfl, rfl, rfl, rfl, rfl, rfl, rfl, rfl, rfl, rfl, rfl, rfl⟩ | exact ⟨⟨k + 1, by omega, by go_num, S, bnext hb b2⟩, rfl, rfl, rfl, rfl, rfl, rfl, rfl, rfl, rfl, rfl, rfl, rfl, rfl, rfl⟩ | exact ⟨⟨k + 1, by omega, by go_num, S, bnext hb b2⟩, rfl, rfl, rfl, rfl, rfl, rfl, rfl, rfl, rfl, rfl, rfl, rfl, rfl, rfl, rfl⟩)
      · have H := Lib.hid (tf_false (show ¬ yardP y from fun h => q (h.2.2.2.1 _ (List.getElem_mem hlt))))
        rw [tf_false q] at C
        clear q
        go_wp2_with fail
        refine C.mono ?_
        rintro e w2 ⟨rfl, b2⟩
        go_wp2
        go_ret
        exact ⟨ret_bool H.out.symm, bnext B0 b2⟩
    · have hltI : ¬ (k : Int) < (y.shelf.length : Int) := by omega
      have HS : Hid (∀ k (hk : k < y.shelf.length), shelfP y.shelf[k]) := fun j hj => hok.out j hj (by omega)
      have C := implEntries_any y (⟨A1, y.shelf.length, c1⟩, ⟨A2, y.runs.length, c2⟩) wr hl (HR.out _ B0)
      have X_0 := X.cell 0 _ rfl
      have X_1 := X.cell 1 _ rfl
      have X_2 := X.cell 2 _ rfl
      have X_3 := X.cell 3 _ rfl
      have X_l := X.lt
      go_wp2_with fail
      refine C.mono ?_
      rintro e w2 ⟨v, rfl, o2, b2⟩
      replace X := X.below b2
      replace B0 := bnext B0 b2
      clear X_0 X_1 X_2 X_3 X_l hok hlt hltI hb
      have O2 := Rd.of_own o2
      clear o2
      obtain ⟨A3, c3, rfl, -⟩ := id O2
      have hel := HEn.out
      obtain ⟨j0, hj0, jz0, jz1, jz2⟩ := info_parts int_info
      go_wp2
      go_loopw [6, 48] (fun vl i wr => ∃ k : Nat, k ≤ (entriesOf y).length ∧ i = .int .i64 k ∧ Ow natE 3 wr w2.heap.size vl (seqsN (entriesOf y) k) ∧ Hid (entsOk y.seq (entriesOf y) k) ∧ Below w2.heap.size w2 wr) (fun _ i _ => (entriesOf y).length - (intOf i).toNat)
      case atStart => exact ⟨0, Nat.zero_le _, rfl, by simpa [seqsN] using Ow.nil natE 3 w2 w2.heap.size, fun j _ h0 => absurd h0 (by omega), Below.refl _ _⟩
      case round =>
        obtain ⟨k, hk, rfl, om, hok, hb⟩ := hrel
        replace X := X.below hb
        replace B0 := bnext B0 hb
        have X_0 := X.cell 0 _ rfl
        have X_1 := X.cell 1 _ rfl
        have X_2 := X.cell 2 _ rfl
        have X_3 := X.cell 3 _ rfl
        have X_l := X.lt
        have hsn := seqsN_len (entriesOf y) k
        by_cases hlt : k < (entriesOf y).length
        · have hltI : (k : Int) < ((entriesOf y).length : Int) := by omega
          obtain ⟨b, o, _, hA3, hbb, _, d0, d1, d2, d3⟩ := RdL.entry (ent_rdL (O2.below hb)) hlt
          subst hA3
          have hs1 : b < wr.heap.size := Nat.lt_of_lt_of_le hbb hb.size
          have hE : Hid (∀ wr : World, Below wr.heap.size wr (wr.alloc (.cells #[.int .i64 (entriesOf y)[k].prio, .int .i64 (entriesOf y)[k].seq, .int .i64 (entriesOf y)[k].run, .int .i64 (entriesOf y)[k].task] 96))) := fun wr => (Below.refl _ _).alloc (Nat.le_refl _) _
          obtain ⟨A7, c7, rfl, -⟩ := id (Rd.of_own om)
          have w1' : IntKind.i64.wrap (y.seq - 1) = y.seq - 1 := IntWalk.i64_in _ (by omega)
          have HB1 := Lib.hid (ents_bad1 (y := y) hlt)
          have HB2 := Lib.hid (ents_bad2 (y := y) hlt)
          have HSt := Lib.hid (ents_step (q := y.seq) hok.out hlt)
          have HSq := Lib.hid (seqsN_succ (entriesOf y) k hlt)
          cases q1 : inB (entriesOf y)[k].seq 1 (y.seq - 1)
          · have H := Lib.hid (tf_false (HB1.out q1))
            go_wp2_with (go_at_call 29; refine (within_any _ _ _ _).mono ?_; rintro e w' ⟨rfl, rfl⟩)
            go_ret
            exact ⟨ret_bool H.out.symm, bnext B0 (hE.out _)⟩
          have q1b := inB_iff.1 q1
          generalize hx : (entriesOf y)[k].seq = x at *
          obtain ⟨n, rfl⟩ := Int.eq_ofNat_of_zero_le (show 0 ≤ x by omega)
          have hn : Hid ((n : Int).toNat = n) := Int.toNat_natCast n
          have HX := Lib.hid hx
          clear hx
          by_cases q2 : n ∈ seqsN (entriesOf y) k
          · have H := Lib.hid (tf_false (HB2.out (by rw [hn.out]; exact q2)))
            have C := containsInt_any _ (seqsN (entriesOf y) k) n _ _ (by omega) (Rd.of_own (om.below (hE.out wr)))
            rw [decide_eq_true q2] at C
            clear q2
            go_wp2_with (first | (go_at_call 29; refine (within_any _ _ _ _).mono ?_; rintro e w' ⟨rfl, rfl⟩) | (go_at_call 58; refine C.mono ?_; rintro e w' ⟨rfl, rfl⟩))
            go_ret
            exact ⟨ret_bool H.out.symm, bnext B0 (hE.out _)⟩
          · have S := Lib.hid (HSt.out q1 (by rw [hn.out]; exact q2))
            have C := containsInt_any _ (seqsN (entriesOf y) k) n _ _ (by omega) (Rd.of_own (om.below (hE.out wr)))
            rw [decide_eq_false q2] at C
            clear q2
            have ha : Hid (∀ w : World, Below w.heap.size w ((w.alloc (.cells #[.int .i64 (entriesOf y)[k].prio, .int .i64 (n : Int), .int .i64 (entriesOf y)[k].run, .int .i64 (entriesOf y)[k].task] 96)).alloc (.cells #[.int .i64 (n : Int)] 3))) := fun w => ((Below.refl _ _).alloc (Nat.le_refl _) _).alloc (by simp) _
            go_wp2_with (first | (go_at_call 29; refine (within_any _ _ _ _).mono ?_; rintro e w' ⟨rfl, rfl⟩) | (go_at_call 58; refine C.mono ?_; rintro e w' ⟨rfl, rfl⟩) | (at_builtin; refine wpList_push_all _ natE (by decide) rfl (.tmp 65) (.tmp 68) rfl Tryz.underlying94 hj0 jz0 jz1 jz2 rfl (l := seqsN (entriesOf y) k) rfl (om.below (ha.out wr)) rfl (Rd.one natE _ _ n (by simp) rfl 1 (Nat.le_refl _) (Nat.lt_succ_self _)) (by omega) (by simp) (by decide) (by have := hb.size; simp; omega) ?_; intro v5 w5 o5 g5 _))
            have hb' := bnext hb (ha.out wr)
            have W5 := hb'.grown g5 hb'.size (fun g hg => by have := om.within _ hg; omega)
            have o6 : Ow natE 3 w5 w2.heap.size v5 (seqsN (entriesOf y) (k + 1)) := by rw [HSq.out, hn.out]; exact o5
            first
              | exact ⟨⟨k + 1, by omega, by go_num, o6, S, W5⟩, by simp [intOf]; omega⟩
              | (refine ⟨?_, by simp [intOf]; omega⟩; (repeat apply Exists.intro); first | exact ⟨⟨k + 1, by omega, by go_num, o6, S, W5⟩, rfl⟩ | exact ⟨⟨k + 1, by omega, by go_num, o6, S, W5⟩, rfl, rfl⟩ | exact ⟨⟨k + 1, by omega, by go_num, o6, S, W5⟩, rfl, rfl, rfl⟩ | exact ⟨⟨k + 1, by omega, by go_num, o6, S, W5⟩, rfl, rfl, rfl, rfl⟩ | exact ⟨⟨k + 1, by omega, by go_num, o6, S, W5⟩, rfl, rfl, rfl, rfl, rfl⟩ | exact ⟨⟨k + 1, by omega, by go_num, o6, S, W5⟩, rfl, rfl, rfl, rfl, rfl, rfl⟩ | exact ⟨⟨k + 1, by omega, by go_num, o6, S, W5⟩, rfl, rfl, rfl, rfl, rfl, rfl, rfl⟩ | exact ⟨⟨k + 1, by omega, by go_num, o6, S, W5⟩, rfl, rfl, rfl, rfl, rfl, rfl, rfl, rfl⟩ | exact ⟨⟨k + 1, by omega, by go_num, o6, S, W5⟩, rfl, rfl, rfl, rfl, rfl, rfl, rfl, rfl, rfl⟩ | exact ⟨⟨k + 1, by omega, by go_num, o6, S, W5⟩, rfl, rfl, rfl, rfl, rfl, rfl, rfl, rfl, rfl, rfl⟩ | exact ⟨⟨k + 1, by omega, by go_num, o6, S, W5⟩, rfl, rfl, rfl, rfl, rfl, rfl, rfl, rfl, rfl, rfl, rfl⟩ | exact ⟨⟨k + 1, by omega, by go_num, o6, S, W5⟩, rfl, rfl, rfl, rfl, rfl, rfl, rfl, rfl, rfl, rfl, rfl, rfl⟩ | exact ⟨⟨k + 1, by omega, by go_num, o6, S, W5⟩, rfl, rfl, rfl, rfl, rfl, rfl, rfl, rfl, rfl, rfl, rfl, rfl, rfl⟩ | exact ⟨⟨k + 1, by omega, by go_num, o6, S, W5⟩, rfl, rfl, rfl, rfl, rfl, rfl, rfl, rfl, rfl, rfl, rfl, rfl, rfl, rfl⟩ | exact ⟨⟨k + 1, by omega, by go_num, o6, S, W5⟩, rfl, rfl, rfl, rfl, rfl, rfl, rfl, rfl, rfl, rfl, rfl, rfl, rfl, rfl, rfl⟩)
        · have hltI : ¬ (k : Int) < ((entriesOf y).length : Int) := by omega
          have HO : Hid (entsOk y.seq (entriesOf y) (entriesOf y).length) := fun j hj hj2 => hok.out j hj (by omega)
          go_wp2
          replace O2 := O2.below hb
          clear X_0 X_1 X_2 X_3 X_l hok hlt hltI om hsn
          have hsb := hb.size
          clear hb
          obtain ⟨w6, hw6⟩ : ∃ w6, w6 = wr := ⟨_, rfl⟩
          rw [← hw6] at X B0 O2 hsb ⊢
          clear hw6
          go_loopw [74] (fun i wr => ∃ k : Nat, k ≤ y.runs.length ∧ i = .int .i64 k ∧ Hid (runsRight y k) ∧ Below w6.heap.size w6 wr) (fun i _ => y.runs.length - (intOf i).toNat)
          case atStart => exact ⟨0, Nat.zero_le _, rfl, fun j _ h0 => absurd h0 (by omega), Below.refl _ _⟩
          case round =>
            obtain ⟨k, hk, rfl, hok, hb⟩ := hrel
            replace X := X.below hb
            replace B0 := bnext B0 hb
            by_cases hlt : k < y.runs.length
            · have hltI : (k : Int) < (y.runs.length : Int) := by omega
              obtain ⟨b, o, ⟨⟨A8, n8, c8⟩, ⟨At, nt, ct⟩⟩, hA2, hbb, hrr, e0, e1, e2, e3, e4, e5, e6, e7⟩ := (h2.below B0).run hlt
              subst hA2
              have hs1 : b < wr.heap.size := Nat.lt_of_lt_of_le hbb B0.size
              have HRr := Lib.hid (show ∀ W, Below wr.heap.size wr W → runD.rd W W.heap.size y.runs[k] (⟨A8, n8, c8⟩, ⟨At, nt, ct⟩) from fun W hW => runD.rd_more (runD.rd_below (runD.rd_more hrr B0.size) hW) hW.size)
              have hcr := HC.out k hlt
              have ha : Below wr.heap.size wr (wr.alloc (.cells #[.int .i64 y.runs[k].id, .int .i64 y.runs[k].plan.prio, .int .i64 y.runs[k].plan.most, .int .i64 y.runs[k].plan.wait, .int .i64 y.runs[k].plan.tasks, .slice A8 n8 c8, .int .i64 y.runs[k].state, .slice At nt ct] 84)) := (Below.refl _ _).alloc (Nat.le_refl _) _
              have R := DBox.new 84 [.int .i64 y.runs[k].id, .int .i64 y.runs[k].plan.prio, .int .i64 y.runs[k].plan.most, .int .i64 y.runs[k].plan.wait, .int .i64 y.runs[k].plan.tasks, .slice A8 n8 c8, .int .i64 y.runs[k].state, .slice At nt ct] wr rfl
              have C1 := implRunOk_any y.runs[k] (⟨A8, n8, c8⟩, ⟨At, nt, ct⟩) _ hcr (HRr.out _ ha)
              have HSt := Lib.hid (runs_step hok.out hlt)
              by_cases q1 : runP y.runs[k]
              case neg =>
                have H := Lib.hid (tf_false (show ¬ yardP y from fun h => q1 (h.2.2.2.2.2.2.2.1 k hlt).1))
                rw [tf_false q1] at C1
                clear q1
                go_wp2_with fail
                refine C1.mono ?_
                rintro e w7 ⟨rfl, b7⟩
                go_wp2
                go_ret
                exact ⟨ret_bool H.out.symm, bnext B0 (bnext ha b7)⟩
              rw [tf_true q1] at C1
              have HQ1 := Lib.hid q1
              have hwt := wait_of q1.2.1
              have htl : y.runs[k].tasks.length ≤ 2000000 := Nat.le_trans (cntL_len cntTask _) (by unfold cntRun at hcr; omega)
              clear q1
              go_wp2_with fail
              refine C1.mono ?_
              rintro e w7 ⟨rfl, b7⟩
              replace R := R.below b7
              have ha7 := bnext ha b7
              replace X := X.below ha7
              have X_0 := X.cell 0 _ rfl
              have X_1 := X.cell 1 _ rfl
              have X_2 := X.cell 2 _ rfl
              have X_3 := X.cell 3 _ rfl
              have X_l := X.lt
              have R_0 := R.cell 0 _ rfl
              have R_1 := R.cell 1 _ rfl
              have R_2 := R.cell 2 _ rfl
              have R_3 := R.cell 3 _ rfl
              have R_4 := R.cell 4 _ rfl
              have R_5 := R.cell 5 _ rfl
              have R_6 := R.cell 6 _ rfl
              have R_7 := R.cell 7 _ rfl
              have R_l := R.lt
              have C2 := implRunAt_own y (⟨A1, y.shelf.length, c1⟩, ⟨some ⟨b, o, none⟩, y.runs.length, c2⟩) y.runs[k].id w7 hl (HR.out _ (bnext B0 ha7))
              by_cases q2 : runAt y y.runs[k].id = k
              case neg =>
                have H := Lib.hid (tf_false (show ¬ yardP y from fun h => q2 (h.2.2.2.2.2.2.2.1 k hlt).2))
                have q2' : (runAt y y.runs[k].id != (k : Int)) = true := by simp [q2]
                clear q2
                go_wp2_with fail
                refine C2.mono ?_
                rintro e w8 ⟨rfl, b8⟩
                go_wp2
                go_ret
                exact ⟨ret_bool H.out.symm, bnext B0 (bnext ha7 b8)⟩
              rw [q2] at C2
              have HQ2 := Lib.hid q2
              clear q2
              have q2' : ((k : Int) != (k : Int)) = false := by simp
              go_wp2_with fail
              refine C2.mono ?_
              rintro e w8 ⟨rfl, b8⟩
              have ha8 := bnext ha7 b8
              replace X := X.below b8
              clear X_0 X_1 X_2 X_3 X_l
              have X_0 := X.cell 0 _ rfl
              have X_1 := X.cell 1 _ rfl
              have X_2 := X.cell 2 _ rfl
              have X_3 := X.cell 3 _ rfl
              have X_l := X.lt
              replace R := R.below b8
              clear R_0 R_1 R_2 R_3 R_4 R_5 R_6 R_7 R_l
              have R_0 := R.cell 0 _ rfl
              have R_1 := R.cell 1 _ rfl
              have R_2 := R.cell 2 _ rfl
              have R_3 := R.cell 3 _ rfl
              have R_4 := R.cell 4 _ rfl
              have R_5 := R.cell 5 _ rfl
              have R_6 := R.cell 6 _ rfl
              have R_7 := R.cell 7 _ rfl
              have R_l := R.lt
              have C3 := implStand_any y (⟨A1, y.shelf.length, c1⟩, ⟨some ⟨b, o, none⟩, y.runs.length, c2⟩) y.runs[k] (⟨A8, n8, c8⟩, ⟨At, nt, ct⟩) (entriesOf y) ⟨A3, (entriesOf y).length, c3⟩ w8 htl hel hnb hwt (HRr.out _ ha8) ((O2.below ((bnext hb ha8).mono hsb)).more (Nat.le_trans hsb (bnext hb ha8).size))
              by_cases q3 : standP y.now y.runs[k] (entriesOf y)
              case neg =>
                have H := Lib.hid (tf_false (show ¬ yardP y from fun h => q3 (h.2.2.2.2.2.2.2.2.1 _ (List.getElem_mem hlt))))
                rw [tf_false q3] at C3
                clear q3
                go_wp2_with fail
                refine C3.mono ?_
                rintro e w9 ⟨rfl, b9⟩
                go_wp2
                go_ret
                exact ⟨ret_bool H.out.symm, bnext B0 (bnext ha8 b9)⟩
              have S := Lib.hid (HSt.out HQ1.out HQ2.out q3)
              rw [tf_true q3] at C3
              clear q3
              go_wp2_with fail
              refine C3.mono ?_
              rintro e w9 ⟨rfl, b9⟩
              go_wp2
              first
                | exact ⟨⟨k + 1, by omega, by go_num, S, bnext hb (bnext ha8 b9)⟩, by simp [intOf]; omega⟩
                | (refine ⟨?_, by simp [intOf]; omega⟩; (repeat apply Exists.intro); first | exact ⟨⟨k + 1, by omega, by go_num, S, bnext hb (bnext ha8 b9)⟩, rfl⟩ | exact ⟨⟨k + 1, by omega, by go_num, S, bnext hb (bnext ha8 b9)⟩, rfl, rfl⟩ | exact ⟨⟨k + 1, by omega, by go_num, S, bnext hb (bnext ha8 b9)⟩, rfl, rfl, rfl⟩ | exact ⟨⟨k + 1, by omega, by go_num, S, bnext hb (bnext ha8 b9)⟩, rfl, rfl, rfl, rfl⟩ | exact ⟨⟨k + 1, by omega, by go_num, S, bnext hb (bnext ha8 b9)⟩, rfl, rfl, rfl, rfl, rfl⟩ | exact ⟨⟨k + 1, by omega, by go_num, S, bnext hb (bnext ha8 b9)⟩, rfl, rfl, rfl, rfl, rfl, rfl⟩ | exact ⟨⟨k + 1, by omega, by go_num, S, bnext hb (bnext ha8 b9)⟩, rfl, rfl, rfl, rfl, rfl, rfl, rfl⟩ | exact ⟨⟨k + 1, by omega, by go_num, S, bnext hb (bnext ha8 b9)⟩, rfl, rfl, rfl, rfl, rfl, rfl, rfl, rfl⟩ | exact ⟨⟨k + 1, by omega, by go_num, S, bnext hb (bnext ha8 b9)⟩, rfl, rfl, rfl, rfl, rfl, rfl, rfl, rfl, rfl⟩ | exact ⟨⟨k + 1, by omega, by go_num, S, bnext hb (bnext ha8 b9)⟩, rfl, rfl, rfl, rfl, rfl, rfl, rfl, rfl, rfl, rfl⟩ | exact ⟨⟨k + 1, by omega, by go_num, S, bnext hb (bnext ha8 b9)⟩, rfl, rfl, rfl, rfl, rfl, rfl, rfl, rfl, rfl, rfl, rfl⟩ | exact ⟨⟨k + 1, by omega, by go_num, S, bnext hb (bnext ha8 b9)⟩, rfl, rfl, rfl, rfl, rfl, rfl, rfl, rfl, rfl, rfl, rfl, rfl⟩ | exact ⟨⟨k + 1, by omega, by go_num, S, bnext hb (bnext ha8 b9)⟩, rfl, rfl, rfl, rfl, rfl, rfl, rfl, rfl, rfl, rfl, rfl, rfl, rfl⟩ | exact ⟨⟨k + 1, by omega, by go_num, S, bnext hb (bnext ha8 b9)⟩, rfl, rfl, rfl, rfl, rfl, rfl, rfl, rfl, rfl, rfl, rfl, rfl, rfl, rfl⟩ | exact ⟨⟨k + 1, by omega, by go_num, S, bnext hb (bnext ha8 b9)⟩, rfl, rfl, rfl, rfl, rfl, rfl, rfl, rfl, rfl, rfl, rfl, rfl, rfl, rfl, rfl⟩)
            · have hltI : ¬ (k : Int) < (y.runs.length : Int) := by omega
              have HRt : Hid (runsRight y y.runs.length) := fun j hj _ => hok.out j hj (by omega)
              have HF := Lib.hid (yard_of A1_.out A2_.out A3_.out HS.out HO.out a4 HRt.out)
              have C := implSlots_any y (⟨A1, y.shelf.length, c1⟩, ⟨A2, y.runs.length, c2⟩) wr hl (HR.out _ B0)
              have X_0 := X.cell 0 _ rfl
              have X_1 := X.cell 1 _ rfl
              have X_2 := X.cell 2 _ rfl
              have X_3 := X.cell 3 _ rfl
              have X_l := X.lt
              go_wp2_with fail
              refine C.mono ?_
              rintro e w7 ⟨rfl, b7⟩
              have HT := Lib.hid (show tf (yardP y) = decide ((slotsOf y : Int) ≤ 40) by
                rw [Bool.eq_iff_iff, tf_iff, HF.out, decide_eq_true_eq]
                omega)
              generalize slotsOf y = N at *
              by_cases q : N ≤ 40
              · have H := Lib.hid (show tf (yardP y) = true by rw [HT.out]; exact decide_eq_true (by omega))
                go_wp2
                go_ret
                exact ⟨ret_bool (by rw [H.out]; exact decide_eq_true (by omega)), bnext B0 b7⟩
              · have H := Lib.hid (show tf (yardP y) = false by rw [HT.out]; exact decide_eq_false (by omega))
                go_wp2
                go_ret
                exact ⟨ret_bool (by rw [H.out]; exact decide_eq_false (by omega)), bnext B0 b7⟩
end Go.Proofs.YtjobmbjadpldfaaGreat
end
section
namespace Go.Proofs.YtjobmbjadpldfaaGreat
open Go.RowKit
set_option maxRecDepth 100000
set_option maxHeartbeats 4000000
set_option linter.unusedVariables false
set_option linter.unusedSimpArgs false

/-- the shelves of a yard are right -/
def shelvesP (y : Yard) : Prop := y.shelf.length = 4 ∧ (∀ l ∈ y.shelf, shelfP l) ∧ (∀ e ∈ entriesOf y, 1 ≤ e.seq ∧ e.seq ≤ y.seq - 1) ∧ ((entriesOf y).map (·.seq)).Nodup
theorem shelves_of {y : Yard} (h3 : y.shelf.length = 4) (h4 : ∀ k (hk : k < y.shelf.length), shelfP y.shelf[k]) (h5 : entsOk y.seq (entriesOf y) (entriesOf y).length) : shelvesP y := by
  refine ⟨h3, fun l hl => ?_, fun e he => ?_, seqsN_nodup (fun j hj => (h5 j hj hj).2)⟩
  · obtain ⟨k, hk, rfl⟩ := List.getElem_of_mem hl
    exact h4 k hk
  · obtain ⟨k, hk, rfl⟩ := List.getElem_of_mem he
    exact (h5 k hk hk).1
theorem shelves_ents {y : Yard} (h : shelvesP y) {k : Nat} (hk : k ≤ (entriesOf y).length) : entsOk y.seq (entriesOf y) k := fun j hj _ =>
  ⟨h.2.2.1 _ (List.getElem_mem hj), nodup_seqsN h.2.2.2 (fun e he => (h.2.2.1 e he).1) hj⟩
/-- none of the first m has that number -/
def noneSeq (l : List Entry) (k m : Nat) : Prop := ∀ j (hj : j < l.length) (hk : k < l.length), j < m → l[j].seq ≠ l[k].seq
theorem noneSeq_not {l : List Entry} {k : Nat} (hk : k < l.length) (h : noneSeq l k k) (hp : ∀ j (hj : j < l.length), j ≤ k → 1 ≤ l[j].seq) : l[k].seq.toNat ∉ seqsN l k := by
  intro hm
  unfold seqsN at hm
  obtain ⟨x, hx, he⟩ := List.mem_map.1 hm
  obtain ⟨j, hj, rfl⟩ := List.getElem_of_mem hx
  rw [List.length_take] at hj
  rw [List.getElem_take] at he
  have h1 := hp j (by omega) (by omega)
  have h2 := hp k hk (Nat.le_refl _)
  exact h j (by omega) hk (by omega) (by omega)

theorem specShelves_any (y : Yard) (s : Sl × Sl) (w : World) (hl : cntYard y ≤ 2000000) (hq : 1 ≤ y.seq ∧ y.seq ≤ 1000000000) (h : yardD.rd w w.heap.size y s) :
    Calls Tryz.prog 49 #[yardW y s] w fun e w' => e = .returned (.bool (tf (shelvesP y))) ∧ Below w.heap.size w w' := by
  have HR := Lib.hid (show ∀ W, Below w.heap.size w W → yardD.rd W W.heap.size y s from fun W hW => yardD.rd_more (yardD.rd_below h hW) hW.size)
  obtain ⟨⟨A1, n1, c1⟩, ⟨A2, n2, c2⟩⟩ := s
  obtain rfl : n1 = y.shelf.length := RdL.at1 (s := ⟨A1, n1, c1⟩) h.1
  have h1 : RdL (Dt.list entryD) w w.heap.size (.slice A1 y.shelf.length c1) y.shelf := h.1
  have hls : y.shelf.length ≤ 2000000 := Nat.le_trans (cntL_len cntEntryS _) (by unfold cntYard at hl; omega)
  have HE := Lib.hid (show ∀ k (hk : k < y.shelf.length), y.shelf[k].length ≤ 2000000 from fun k hk => by
    have := cntL_mem (cnt := cntEntryS) (List.getElem_mem hk)
    have h2 : y.shelf[k].length ≤ cntEntryS y.shelf[k] := cntL_len cntEntry _
    unfold cntYard at hl
    omega)
  have HEn := Lib.hid (show (entriesOf y).length ≤ 2000000 by
    have := flat_take_le y.shelf y.shelf.length
    rw [List.take_length] at this
    unfold cntYard at hl
    unfold entriesOf
    omega)
  clear h
  have X := DBox.new 34 [.int .i64 y.now, .int .i64 y.seq, .slice A1 y.shelf.length c1, .slice A2 n2 c2] w (b := w.heap.size) rfl
  have B0 : Below w.heap.size w (w.alloc (.cells #[.int .i64 y.now, .int .i64 y.seq, .slice A1 y.shelf.length c1, .slice A2 n2 c2] 34)) := by repeat (first | exact Below.refl _ _ | refine Below.alloc ?_ (by simp <;> omega) _)
  by_cases a3 : y.shelf.length = 4
  case neg =>
    have a3' : ((y.shelf.length : Int) != 4) = true := by simp; omega
    have H := Lib.hid (tf_false (show ¬ shelvesP y from fun h => a3 h.1))
    clear a3
    go_enter Tryz.func49, Tryz.ntmps49
    go_wp2
    go_ret
    exact ⟨ret_bool H.out.symm, B0⟩
  have a3' : ((y.shelf.length : Int) != 4) = false := by simp [a3]
  have A3_ := Lib.hid a3
  clear a3
  go_enter Tryz.func49, Tryz.ntmps49
  go_wp2
  generalize (w.alloc (.cells #[.int .i64 y.now, .int .i64 y.seq, .slice A1 y.shelf.length c1, .slice A2 n2 c2] 34)) = W at *
  clear a3'
  go_loopw [3] (fun i wr => ∃ k : Nat, k ≤ y.shelf.length ∧ i = .int .i64 k ∧ Hid (∀ j (hj : j < y.shelf.length), j < k → shelfP y.shelf[j]) ∧ Below W.heap.size W wr) (fun i _ => y.shelf.length - (intOf i).toNat)
  case atStart => exact ⟨0, Nat.zero_le _, rfl, fun j _ h0 => absurd h0 (by omega), Below.refl _ _⟩
  case round =>
    obtain ⟨k, hk, rfl, hok, hb⟩ := hrel
    replace X := X.below hb
    replace B0 := bnext B0 hb
    have X_0 := X.cell 0 _ rfl
    have X_1 := X.cell 1 _ rfl
    have X_2 := X.cell 2 _ rfl
    have X_3 := X.cell 3 _ rfl
    have X_l := X.lt
    by_cases hlt : k < y.shelf.length
    · have hltI : (k : Int) < (y.shelf.length : Int) := by omega
      obtain ⟨b, o, ⟨As, ns, cs⟩, hA1, hbb, hr, d0⟩ := (h1.below B0).entryS hlt
      obtain rfl : ns = y.shelf[k].length := RdL.at1 (s := ⟨As, ns, cs⟩) hr
      subst hA1
      have C := specShelfOk_any y.shelf[k] ⟨As, y.shelf[k].length, cs⟩ wr (HE.out k hlt) (hr.more B0.size)
      by_cases q : shelfP y.shelf[k]
      · have S : Hid (∀ j (hj : j < y.shelf.length), j < k + 1 → shelfP y.shelf[j]) := fun j hj hjk => by
          by_cases e : j = k
          · subst e; exact q
          · exact hok.out j hj (by omega)
        rw [tf_true q] at C
        clear q
        go_wp2_with fail
        refine C.mono ?_
        rintro e w2 ⟨rfl, b2⟩
        go_wp2
        first
          | exact ⟨⟨k + 1, by omega, by go_num, S, bnext hb b2⟩, by simp [intOf]; omega⟩
          | (refine ⟨?_, by simp [intOf]; omega⟩; (repeat apply Exists.intro); first | exact ⟨⟨k + 1, by omega, by go_num, S, bnext hb b2⟩, rfl⟩ | exact ⟨⟨k + 1, by omega, by go_num, S, bnext hb b2⟩, rfl, rfl⟩ | exact ⟨⟨k + 1, by omega, by go_num, S, bnext hb b2⟩, rfl, rfl, rfl⟩ | exact ⟨⟨k + 1, by omega, by go_num, S, bnext hb b2⟩, rfl, rfl, rfl, rfl⟩ | exact ⟨⟨k + 1, by omega, by go_num, S, bnext hb b2⟩, rfl, rfl, rfl, rfl, rfl⟩ | exact ⟨⟨k + 1, by omega, by go_num, S, bnext hb b2⟩, rfl, rfl, rfl, rfl, rfl, rfl⟩ | exact ⟨⟨k + 1, by omega, by go_num, S, bnext hb b2⟩, rfl, rfl, rfl, rfl, rfl, rfl, rfl⟩ | exact ⟨⟨k + 1, by omega, by go_num, S, bnext hb b2⟩, rfl, rfl, rfl, rfl, rfl, rfl, rfl, rfl⟩ | exact ⟨⟨k + 1, by omega, by go_num, S, bnext hb b2⟩, rfl, rfl, rfl, rfl, rfl, rfl, rfl, rfl, rfl⟩ | exact ⟨⟨k + 1, by omega, by go_num, S, bnext hb b2⟩, rfl, rfl, rfl, rfl, rfl, rfl, rfl, rfl, rfl, rfl⟩ | exact ⟨⟨k + 1, by omega, by go_num, S, bnext hb b2⟩, rfl, rfl, rfl, rfl, rfl, rfl, rfl, rfl, rfl, rfl, rfl⟩ | exact ⟨⟨k + 1, by omega, by go_num, S, bnext hb b2⟩, rfl, rfl, rfl, rfl, rfl, rfl, rfl, rfl, rfl, rfl, rfl, rfl⟩ | exact ⟨⟨k + 1, by omega, by go_num, S, bnext hb b2⟩, rfl, rfl, rfl, rfl, rfl, rfl, rfl, rfl, rfl, rfl, rfl, rfl, rfl⟩ | exact ⟨⟨k + 1, by omega, by go_num, S, bnext hb b2⟩, rfl, rfl, rfl, rfl, rfl, rfl, rfl, rfl, rfl, rfl, rfl, rfl, rfl, rfl⟩ | exact ⟨⟨k + 1, by omega, by go_num, S, bnext hb b2⟩, rfl, rfl, rfl, rfl, rfl, rfl, rfl, rfl, rfl, rfl, rfl, rfl, rfl, rfl, rfl⟩)
      · have H := Lib.hid (tf_false (show ¬ shelvesP y from fun h => q (h.2.1 _ (List.getElem_mem hlt))))
        rw [tf_false q] at C
        clear q
        go_wp2_with fail
        refine C.mono ?_
        rintro e w2 ⟨rfl, b2⟩
        go_wp2
        go_ret
        exact ⟨ret_bool H.out.symm, bnext B0 b2⟩
    · have hltI : ¬ (k : Int) < (y.shelf.length : Int) := by omega
      have HS : Hid (∀ k (hk : k < y.shelf.length), shelfP y.shelf[k]) := fun j hj => hok.out j hj (by omega)
      have C := specEntries_any y (⟨A1, y.shelf.length, c1⟩, ⟨A2, n2, c2⟩) wr hl (HR.out _ B0)
      go_wp2_with fail
      refine C.mono ?_
      rintro e w2 ⟨v, rfl, o2, b2⟩
      replace X := X.below b2
      replace B0 := bnext B0 b2
      clear X_0 X_1 X_2 X_3 X_l hok hlt hltI hb
      have O2 := Rd.of_own o2
      clear o2
      obtain ⟨A3, c3, rfl, -⟩ := id O2
      have hel := HEn.out
      go_wp2
      go_loopw [5] (fun i wr => ∃ k : Nat, k ≤ (entriesOf y).length ∧ i = .int .i64 k ∧ Hid (entsOk y.seq (entriesOf y) k) ∧ Below w2.heap.size w2 wr) (fun i _ => (entriesOf y).length - (intOf i).toNat)
      case atStart => exact ⟨0, Nat.zero_le _, rfl, fun j _ h0 => absurd h0 (by omega), Below.refl _ _⟩
      case round =>
        obtain ⟨k, hk, rfl, hok, hb⟩ := hrel
        have X1 := X.below hb
        have X1_0 := X1.cell 0 _ rfl
        have X1_1 := X1.cell 1 _ rfl
        have X1_2 := X1.cell 2 _ rfl
        have X1_3 := X1.cell 3 _ rfl
        have X1_l := X1.lt
        by_cases hlt : k < (entriesOf y).length
        · have hltI : (k : Int) < ((entriesOf y).length : Int) := by omega
          obtain ⟨b, o, _, hA3, hbb, _, d0, d1, d2, d3⟩ := RdL.entry (ent_rdL (O2.below hb)) hlt
          subst hA3
          have hs1 : b < wr.heap.size := Nat.lt_of_lt_of_le hbb hb.size
          have w1' : IntKind.i64.wrap (y.seq - 1) = y.seq - 1 := IntWalk.i64_in _ (by omega)
          have hlc := later_cell wr
          have B1 := bnext B0 hb
          cases q1 : inB (entriesOf y)[k].seq 1 (y.seq - 1)
          · have H := Lib.hid (tf_false (show ¬ shelvesP y from fun h => by
              have := inB_iff.2 (h.2.2.1 _ (List.getElem_mem hlt))
              rw [q1] at this
              cases this))
            go_wp2
            refine wp_region_pure (by kernel_rfl) (by kernel_rfl) ?_
            repeat (go_big_quiet_step ((go_at_call 26; exact pure_same (fun u => l01In_any _ _ _ u.1))))
            refine wpQuiet_nil ?_
            rintro _ ⟨⟨w3, b3⟩, rfl⟩
            clear hlc
            go_wp2
            go_ret
            exact ⟨ret_bool H.out.symm, bnext B1 b3⟩
          have HQ := Lib.hid (inB_iff.1 q1)
          go_wp2
          refine wp_region_pure (by kernel_rfl) (by kernel_rfl) ?_
          repeat (go_big_quiet_step ((go_at_call 26; exact pure_same (fun u => l01In_any _ _ _ u.1))))
          refine wpQuiet_nil ?_
          rintro _ ⟨⟨w3, b3⟩, rfl⟩
          clear hlc
          go_wp2
          clear d0 d1 d2 d3 hs1 X1_0 X1_1 X1_2 X1_3 X1_l X1 q1 w1'
          go_loopw [6] (fun i wq => ∃ m : Nat, m ≤ k ∧ i = .int .i64 m ∧ Hid (noneSeq (entriesOf y) k m) ∧ Below wr.heap.size wr wq) (fun i _ => k - (intOf i).toNat)
          case atStart => exact ⟨0, Nat.zero_le _, rfl, fun j _ _ h0 => absurd h0 (by omega), b3⟩
          case round =>
            obtain ⟨m, hm, rfl, hno, hb4⟩ := hrel
            by_cases hmk : m < k
            · have hmI : (m : Int) < (k : Int) := by omega
              obtain ⟨b', o', _, hA', hbb', _, d0, d1, d2, d3⟩ := RdL.entry (ent_rdL (O2.below (bnext hb hb4))) hlt
              simp only [Option.some.injEq, Addr.mk.injEq, and_true] at hA'
              obtain ⟨rfl, rfl⟩ := hA'
              obtain ⟨b', o', _, hA', _, _, f0, f1, f2, f3⟩ := RdL.entry (ent_rdL (O2.below (bnext hb hb4))) (show m < (entriesOf y).length by omega)
              simp only [Option.some.injEq, Addr.mk.injEq, and_true] at hA'
              obtain ⟨rfl, rfl⟩ := hA'
              have hmJ : (m : Int) < ((entriesOf y).length : Int) := by omega
              have hs2 := hb4.size
              by_cases q2 : (entriesOf y)[m].seq = (entriesOf y)[k].seq
              · have H := Lib.hid (tf_false (show ¬ shelvesP y from fun h => by
                  have h3 := List.pairwise_iff_getElem.1 h.2.2.2 m k (by rw [List.length_map]; omega) (by rw [List.length_map]; omega) (by omega)
                  rw [List.getElem_map, List.getElem_map] at h3
                  exact h3 q2))
                have q2' : ((entriesOf y)[m].seq == (entriesOf y)[k].seq) = true := beq_iff_eq.2 q2
                clear q2
                go_wp2
                go_quiet (fail)
                go_wp2
                go_ret
                exact ⟨ret_bool H.out.symm, bdrewN (bnext B1 hb4) _⟩
              · have S : Hid (noneSeq (entriesOf y) k (m + 1)) := fun j hj hk' hjm => by
                  by_cases e : j = m
                  · subst e; exact q2
                  · exact hno.out j hj hk' (by omega)
                have q2' : ((entriesOf y)[m].seq == (entriesOf y)[k].seq) = false := beq_eq_false_iff_ne.2 q2
                clear q2
                go_wp2
                go_quiet (fail)
                go_wp2
                first
                  | exact ⟨⟨m + 1, by omega, by go_num, S, bdrewN hb4 _⟩, by simp [intOf]; omega⟩
                  | (refine ⟨?_, by simp [intOf]; omega⟩; (repeat apply Exists.intro); first | exact ⟨⟨m + 1, by omega, by go_num, S, bdrewN hb4 _⟩, rfl⟩ | exact ⟨⟨m + 1, by omega, by go_num, S, bdrewN hb4 _⟩, rfl, rfl⟩ | exact ⟨⟨m + 1, by omega, by go_num, S, bdrewN hb4 _⟩, rfl, rfl, rfl⟩ | exact ⟨⟨m + 1, by omega, by go_num, S, bdrewN hb4 _⟩, rfl, rfl, rfl, rfl⟩ | exact ⟨⟨m + 1, by omega, by go_num, S, bdrewN hb4 _⟩, rfl, rfl, rfl, rfl, rfl⟩ | exact ⟨⟨m + 1, by omega, by go_num, S, bdrewN hb4 _⟩, rfl, rfl, rfl, rfl, rfl, rfl⟩ | exact ⟨⟨m + 1, by omega, by go_num, S, bdrewN hb4 _⟩, rfl, rfl, rfl, rfl, rfl, rfl, rfl⟩ | exact ⟨⟨m + 1, by omega, by go_num, S, bdrewN hb4 _⟩, rfl, rfl, rfl, rfl, rfl, rfl, rfl, rfl⟩ | exact ⟨⟨m + 1, by omega, by go_num, S, bdrewN hb4 _⟩, rfl, rfl, rfl, rfl, rfl, rfl, rfl, rfl, rfl⟩ | exact ⟨⟨m + 1, by omega, by go_num, S, bdrewN hb4 _⟩, rfl, rfl, rfl, rfl, rfl, rfl, rfl, rfl, rfl, rfl⟩ | exact ⟨⟨m + 1, by omega, by go_num, S, bdrewN hb4 _⟩, rfl, rfl, rfl, rfl, rfl, rfl, rfl, rfl, rfl, rfl, rfl⟩ | exact ⟨⟨m + 1, by omega, by go_num, S, bdrewN hb4 _⟩, rfl, rfl, rfl, rfl, rfl, rfl, rfl, rfl, rfl, rfl, rfl, rfl⟩ | exact ⟨⟨m + 1, by omega, by go_num, S, bdrewN hb4 _⟩, rfl, rfl, rfl, rfl, rfl, rfl, rfl, rfl, rfl, rfl, rfl, rfl, rfl⟩ | exact ⟨⟨m + 1, by omega, by go_num, S, bdrewN hb4 _⟩, rfl, rfl, rfl, rfl, rfl, rfl, rfl, rfl, rfl, rfl, rfl, rfl, rfl, rfl⟩ | exact ⟨⟨m + 1, by omega, by go_num, S, bdrewN hb4 _⟩, rfl, rfl, rfl, rfl, rfl, rfl, rfl, rfl, rfl, rfl, rfl, rfl, rfl, rfl, rfl⟩)
            · have hmI : ¬ (m : Int) < (k : Int) := by omega
              have S : Hid (entsOk y.seq (entriesOf y) (k + 1)) := ents_step hok.out hlt (inB_iff.2 HQ.out) (noneSeq_not hlt (fun j hj hk' hjm => hno.out j hj hk' (by omega)) (fun j hj hjk => by
                by_cases e : j = k
                · subst e; exact HQ.out.1
                · exact (hok.out j hj (by omega)).1.1))
              go_wp2
              first
                | exact ⟨⟨k + 1, by omega, by go_num, S, bnext hb hb4⟩, by simp [intOf]; omega⟩
                | (refine ⟨?_, by simp [intOf]; omega⟩; (repeat apply Exists.intro); first | exact ⟨⟨k + 1, by omega, by go_num, S, bnext hb hb4⟩, rfl⟩ | exact ⟨⟨k + 1, by omega, by go_num, S, bnext hb hb4⟩, rfl, rfl⟩ | exact ⟨⟨k + 1, by omega, by go_num, S, bnext hb hb4⟩, rfl, rfl, rfl⟩ | exact ⟨⟨k + 1, by omega, by go_num, S, bnext hb hb4⟩, rfl, rfl, rfl, rfl⟩ | exact ⟨⟨k + 1, by omega, by go_num, S, bnext hb hb4⟩, rfl, rfl, rfl, rfl, rfl⟩ | exact ⟨⟨k + 1, by omega, by go_num, S, bnext hb hb4⟩, rfl, rfl, rfl, rfl, rfl, rfl⟩ | exact ⟨⟨k + 1, by omega, by go_num, S, bnext hb hb4⟩, rfl, rfl, rfl, rfl, rfl, rfl, rfl⟩ | exact ⟨⟨k + 1, by omega, by go_num, S, bnext hb hb4⟩, rfl, rfl, rfl, rfl, rfl, rfl, rfl, rfl⟩ | exact ⟨⟨k + 1, by omega, by go_num, S, bnext hb hb4⟩, rfl, rfl, rfl, rfl, rfl, rfl, rfl, rfl, rfl⟩ | exact ⟨⟨k + 1, by omega, by go_num, S, bnext hb hb4⟩, rfl, rfl, rfl, rfl, rfl, rfl, rfl, rfl, rfl, rfl⟩ | exact ⟨⟨k + 1, by omega, by go_num, S, bnext hb hb4⟩, rfl, rfl, rfl, rfl, rfl, rfl, rfl, rfl, rfl, rfl, rfl⟩ | exact ⟨⟨k + 1, by omega, by go_num, S, bnext hb hb4⟩, rfl, rfl, rfl, rfl, rfl, rfl, rfl, rfl, rfl, rfl, rfl, rfl⟩ | exact ⟨⟨k + 1, by omega, by go_num, S, bnext hb hb4⟩, rfl, rfl, rfl, rfl, rfl, rfl, rfl, rfl, rfl, rfl, rfl, rfl, rfl⟩ | exact ⟨⟨k + 1, by omega, by go_num, S, bnext hb hb4⟩, rfl, rfl, rfl, rfl, rfl, rfl, rfl, rfl, rfl, rfl, rfl, rfl, rfl, rfl⟩ | exact ⟨⟨k + 1, by omega, by go_num, S, bnext hb hb4⟩, rfl, rfl, rfl, rfl, rfl, rfl, rfl, rfl, rfl, rfl, rfl, rfl, rfl, rfl, rfl⟩)
        · have hltI : ¬ (k : Int) < ((entriesOf y).length : Int) := by omega
          have H := Lib.hid (tf_true (shelves_of A3_.out HS.out (fun j hj hj2 => hok.out j hj (by omega))))
          go_wp2
          go_ret
          exact ⟨ret_bool H.out.symm, bnext B0 hb⟩
end Go.Proofs.YtjobmbjadpldfaaGreat
end
section
namespace Go.Proofs.YtjobmbjadpldfaaGreat
open Go.RowKit
set_option maxRecDepth 100000
set_option maxHeartbeats 4000000
set_option linter.unusedVariables false
set_option linter.unusedSimpArgs false

theorem yard_of2 {y : Yard} (h1 : inB y.now 0 999999980 = true) (h2 : inB y.seq 1 1000000000 = true) (h3 : shelvesP y) (h6 : y.runs.length ≤ 8) (h7 : runsRight y y.runs.length) : yardP y ↔ slotsOf y ≤ 40 := by
  refine yard_of h1 h2 h3.1 (fun k hk => h3.2.1 _ (List.getElem_mem hk)) (shelves_ents h3 (Nat.le_refl _)) h6 h7
def runsRight1 (y : Yard) (k : Nat) : Prop := ∀ j (hj : j < y.runs.length), j < k → runP y.runs[j] ∧ runAt y y.runs[j].id = j
def runsStand (y : Yard) (k : Nat) : Prop := ∀ j (hj : j < y.runs.length), j < k → standP y.now y.runs[j] (entriesOf y)

theorem specYardOk_any (y : Yard) (s : Sl × Sl) (w : World) (hl : cntYard y ≤ 2000000) (h : yardD.rd w w.heap.size y s) :
    Calls Tryz.prog 25 #[yardW y s] w fun e w' => e = .returned (.bool (tf (yardP y))) ∧ Below w.heap.size w w' := by
  have HR := Lib.hid (show ∀ W, Below w.heap.size w W → yardD.rd W W.heap.size y s from fun W hW => yardD.rd_more (yardD.rd_below h hW) hW.size)
  obtain ⟨⟨A1, n1, c1⟩, ⟨A2, n2, c2⟩⟩ := s
  obtain rfl : n2 = y.runs.length := RdL.at1 (s := ⟨A2, n2, c2⟩) h.2
  have h2 : RdL runD w w.heap.size (.slice A2 y.runs.length c2) y.runs := h.2
  have hll : y.runs.length ≤ 2000000 := Nat.le_trans (cntL_len cntRun _) (by unfold cntYard at hl; omega)
  have HC := Lib.hid (show ∀ k (hk : k < y.runs.length), cntRun y.runs[k] ≤ 2000000 from fun k hk => by
    have := cntL_mem (cnt := cntRun) (List.getElem_mem hk)
    unfold cntYard at hl
    omega)
  have HEn := Lib.hid (show (entriesOf y).length ≤ 2000000 by
    have := flat_take_le y.shelf y.shelf.length
    rw [List.take_length] at this
    unfold cntYard at hl
    unfold entriesOf
    omega)
  have hsl := slots_le hl
  clear h
  have X := DBox.new 34 [.int .i64 y.now, .int .i64 y.seq, .slice A1 n1 c1, .slice A2 y.runs.length c2] w (b := w.heap.size) rfl
  have B0 : Below w.heap.size w (w.alloc (.cells #[.int .i64 y.now, .int .i64 y.seq, .slice A1 n1 c1, .slice A2 y.runs.length c2] 34)) := by repeat (first | exact Below.refl _ _ | refine Below.alloc ?_ (by simp <;> omega) _)
  cases a1 : inB y.now 0 999999980
  case false =>
    have H := Lib.hid (tf_false (show ¬ yardP y from fun h => by have := inB_iff.2 h.1; rw [a1] at this; cases this))
    go_enter Tryz.func25, Tryz.ntmps25
    go_wp2_with (go_at_call 26; refine (l01In_any _ _ _ _).mono ?_; rintro e w' ⟨rfl, rfl⟩)
    go_ret
    exact ⟨ret_bool H.out.symm, B0⟩
  cases a2 : inB y.seq 1 1000000000
  case false =>
    have H := Lib.hid (tf_false (show ¬ yardP y from fun h => by have := inB_iff.2 h.2.1; rw [a2] at this; cases this))
    go_enter Tryz.func25, Tryz.ntmps25
    go_wp2_with (go_at_call 26; refine (l01In_any _ _ _ _).mono ?_; rintro e w' ⟨rfl, rfl⟩)
    go_ret
    exact ⟨ret_bool H.out.symm, B0⟩
  by_cases a4 : y.runs.length ≤ 8
  case neg =>
    have a4' : (8 : Int) < (y.runs.length : Int) := by omega
    have H := Lib.hid (tf_false (show ¬ yardP y from fun h => a4 h.2.2.2.2.2.2.1))
    clear a4
    go_enter Tryz.func25, Tryz.ntmps25
    go_wp2_with (go_at_call 26; refine (l01In_any _ _ _ _).mono ?_; rintro e w' ⟨rfl, rfl⟩)
    go_ret
    exact ⟨ret_bool H.out.symm, B0⟩
  have a4' : ¬ (8 : Int) < (y.runs.length : Int) := by omega
  have hqb := inB_iff.1 a2
  have hnb := inB_iff.1 a1
  have C0 := specShelves_any y (⟨A1, n1, c1⟩, ⟨A2, y.runs.length, c2⟩) (w.alloc (.cells #[.int .i64 y.now, .int .i64 y.seq, .slice A1 n1 c1, .slice A2 y.runs.length c2] 34)) hl hqb (HR.out _ B0)
  by_cases a3 : shelvesP y
  case neg =>
    have H := Lib.hid (tf_false (show ¬ yardP y from fun h => a3 ⟨h.2.2.1, h.2.2.2.1, h.2.2.2.2.1, h.2.2.2.2.2.1⟩))
    rw [tf_false a3] at C0
    clear a3
    go_enter Tryz.func25, Tryz.ntmps25
    go_wp2_with (first | (go_at_call 26; refine (l01In_any _ _ _ _).mono ?_; rintro e w' ⟨rfl, rfl⟩) | (go_at_call 49; refine C0.mono ?_; rintro e w1 ⟨rfl, b1⟩))
    go_ret
    exact ⟨ret_bool H.out.symm, bnext B0 b1⟩
  rw [tf_true a3] at C0
  go_enter Tryz.func25, Tryz.ntmps25
  go_wp2_with (first | (go_at_call 26; refine (l01In_any _ _ _ _).mono ?_; rintro e w' ⟨rfl, rfl⟩) | (go_at_call 49; refine C0.mono ?_; rintro e w1 ⟨rfl, b1⟩))
  replace X := X.below b1
  replace B0 := bnext B0 b1
  clear b1 C0
  have A1_ := Lib.hid a1
  have A2_ := Lib.hid a2
  have A3_ := Lib.hid a3
  clear a1 a2 a3 a4'
  go_loopw [3] (fun i wr => ∃ k : Nat, k ≤ y.runs.length ∧ i = .int .i64 k ∧ Hid (runsRight1 y k) ∧ Below w1.heap.size w1 wr) (fun i _ => y.runs.length - (intOf i).toNat)
  case atStart => exact ⟨0, Nat.zero_le _, rfl, fun j _ h0 => absurd h0 (by omega), Below.refl _ _⟩
  case round =>
    obtain ⟨k, hk, rfl, hok, hb⟩ := hrel
    replace X := X.below hb
    replace B0 := bnext B0 hb
    have X_0 := X.cell 0 _ rfl
    have X_1 := X.cell 1 _ rfl
    have X_2 := X.cell 2 _ rfl
    have X_3 := X.cell 3 _ rfl
    have X_l := X.lt
    by_cases hlt : k < y.runs.length
    · have hltI : (k : Int) < (y.runs.length : Int) := by omega
      obtain ⟨b, o, ⟨⟨A8, n8, c8⟩, ⟨At, nt, ct⟩⟩, hA2, hbb, hrr, e0, e1, e2, e3, e4, e5, e6, e7⟩ := (h2.below B0).run hlt
      subst hA2
      have hs1 : b < wr.heap.size := Nat.lt_of_lt_of_le hbb B0.size
      have HRr := Lib.hid (show ∀ W, Below wr.heap.size wr W → runD.rd W W.heap.size y.runs[k] (⟨A8, n8, c8⟩, ⟨At, nt, ct⟩) from fun W hW => runD.rd_more (runD.rd_below (runD.rd_more hrr B0.size) hW) hW.size)
      have hcr := HC.out k hlt
      have hlc := later_cell wr
      have C1 := fun u : Later wr => specRunOk_any y.runs[k] (⟨A8, n8, c8⟩, ⟨At, nt, ct⟩) u.1 hcr (HRr.out _ u.2)
      have C2 := fun u : Later wr => specRunAt_own y (⟨A1, n1, c1⟩, ⟨some ⟨b, o, none⟩, y.runs.length, c2⟩) y.runs[k].id u.1 hl (HR.out _ (bnext B0 u.2))
      have D1 := Lib.hid C1
      have D2 := Lib.hid C2
      clear C1 C2
      by_cases q1 : runP y.runs[k]
      case neg =>
        have H := Lib.hid (tf_false (show ¬ yardP y from fun h => q1 (h.2.2.2.2.2.2.2.1 k hlt).1))
        rw [tf_false q1] at D1
        clear q1
        go_wp2
        refine wp_region_pure (by kernel_rfl) (by kernel_rfl) ?_
        repeat (go_big_quiet_step ((go_at_call 50; (with_reducible exact pure_at D1.out))))
        refine wpQuiet_nil ?_
        rintro _ ⟨⟨w3, b3⟩, rfl⟩
        clear hlc
        go_wp2
        go_ret
        exact ⟨ret_bool H.out.symm, bnext B0 b3⟩
      rw [tf_true q1] at D1
      by_cases q2 : runAt y y.runs[k].id = k
      case neg =>
        have H := Lib.hid (tf_false (show ¬ yardP y from fun h => q2 (h.2.2.2.2.2.2.2.1 k hlt).2))
        have q2' : (runAt y y.runs[k].id != (k : Int)) = true := by simp [q2]
        clear q1 q2
        go_wp2
        refine wp_region_pure (by kernel_rfl) (by kernel_rfl) ?_
        repeat (go_big_quiet_step ((first | (go_at_call 50; (with_reducible exact pure_at D1.out)) | (go_at_call 51; (with_reducible exact pure_at D2.out)))))
        refine wpQuiet_nil ?_
        rintro _ ⟨⟨w3, b3⟩, rfl⟩
        clear hlc
        go_wp2
        go_ret
        exact ⟨ret_bool H.out.symm, bnext B0 b3⟩
      have S : Hid (runsRight1 y (k + 1)) := fun j hj hjk => by
        by_cases e : j = k
        · subst e; exact ⟨q1, q2⟩
        · exact hok.out j hj (by omega)
      rw [q2] at D2
      have q2' : ((k : Int) != (k : Int)) = false := by simp
      clear q1 q2
      go_wp2
      refine wp_region_pure (by kernel_rfl) (by kernel_rfl) ?_
      repeat (go_big_quiet_step ((first | (go_at_call 50; (with_reducible exact pure_at D1.out)) | (go_at_call 51; (with_reducible exact pure_at D2.out)))))
      refine wpQuiet_nil ?_
      rintro _ ⟨⟨w3, b3⟩, rfl⟩
      clear hlc
      go_wp2
      first
        | exact ⟨⟨k + 1, by omega, by go_num, S, bnext hb b3⟩, by simp [intOf]; omega⟩
        | (refine ⟨?_, by simp [intOf]; omega⟩; (repeat apply Exists.intro); first | exact ⟨⟨k + 1, by omega, by go_num, S, bnext hb b3⟩, rfl⟩ | exact ⟨⟨k + 1, by omega, by go_num, S, bnext hb b3⟩, rfl, rfl⟩ | exact ⟨⟨k + 1, by omega, by go_num, S, bnext hb b3⟩, rfl, rfl, rfl⟩ | exact ⟨⟨k + 1, by omega, by go_num, S, bnext hb b3⟩, rfl, rfl, rfl, rfl⟩ | exact ⟨⟨k + 1, by omega, by go_num, S, bnext hb b3⟩, rfl, rfl, rfl, rfl, rfl⟩ | exact ⟨⟨k + 1, by omega, by go_num, S, bnext hb b3⟩, rfl, rfl, rfl, rfl, rfl, rfl⟩ | exact ⟨⟨k + 1, by omega, by go_num, S, bnext hb b3⟩, rfl, rfl, rfl, rfl, rfl, rfl, rfl⟩ | exact ⟨⟨k + 1, by omega, by go_num, S, bnext hb b3⟩, rfl, rfl, rfl, rfl, rfl, rfl, rfl, rfl⟩ | exact ⟨⟨k + 1, by omega, by go_num, S, bnext hb b3⟩, rfl, rfl, rfl, rfl, rfl, rfl, rfl, rfl, rfl⟩ | exact ⟨⟨k + 1, by omega, by go_num, S, bnext hb b3⟩, rfl, rfl, rfl, rfl, rfl, rfl, rfl, rfl, rfl, rfl⟩ | exact ⟨⟨k + 1, by omega, by go_num, S, bnext hb b3⟩, rfl, rfl, rfl, rfl, rfl, rfl, rfl, rfl, rfl, rfl, rfl⟩ | exact ⟨⟨k + 1, by omega, by go_num, S, bnext hb b3⟩, rfl, rfl, rfl, rfl, rfl, rfl, rfl, rfl, rfl, rfl, rfl, rfl⟩ | exact ⟨⟨k + 1, by omega, by go_num, S, bnext hb b3⟩, rfl, rfl, rfl, rfl, rfl, rfl, rfl, rfl, rfl, rfl, rfl, rfl, rfl⟩ | exact ⟨⟨k + 1, by omega, by go_num, S, bnext hb b3⟩, rfl, rfl, rfl, rfl, rfl, rfl, rfl, rfl, rfl, rfl, rfl, rfl, rfl, rfl⟩ | exact ⟨⟨k + 1, by omega, by go_num, S, bnext hb b3⟩, rfl, rfl, rfl, rfl, rfl, rfl, rfl, rfl, rfl, rfl, rfl, rfl, rfl, rfl, rfl⟩)
    · have hltI : ¬ (k : Int) < (y.runs.length : Int) := by omega
      have HR1 : Hid (runsRight1 y y.runs.length) := fun j hj _ => hok.out j hj (by omega)
      have C := specEntries_any y (⟨A1, n1, c1⟩, ⟨A2, y.runs.length, c2⟩) wr hl (HR.out _ B0)
      go_wp2_with fail
      refine C.mono ?_
      rintro e w2 ⟨v, rfl, o2, b2⟩
      replace X := X.below b2
      replace B0 := bnext B0 b2
      clear X_0 X_1 X_2 X_3 X_l hok hlt hltI hb
      have O2 := Rd.of_own o2
      clear o2
      obtain ⟨A3, c3, rfl, -⟩ := id O2
      have hel := HEn.out
      go_wp2
      go_loopw [5] (fun i wr => ∃ k : Nat, k ≤ y.runs.length ∧ i = .int .i64 k ∧ Hid (runsStand y k) ∧ Below w2.heap.size w2 wr) (fun i _ => y.runs.length - (intOf i).toNat)
      case atStart => exact ⟨0, Nat.zero_le _, rfl, fun j _ h0 => absurd h0 (by omega), Below.refl _ _⟩
      case round =>
        obtain ⟨k, hk, rfl, hok, hb⟩ := hrel
        replace X := X.below hb
        replace B0 := bnext B0 hb
        have X_0 := X.cell 0 _ rfl
        have X_1 := X.cell 1 _ rfl
        have X_2 := X.cell 2 _ rfl
        have X_3 := X.cell 3 _ rfl
        have X_l := X.lt
        by_cases hlt : k < y.runs.length
        · have hltI : (k : Int) < (y.runs.length : Int) := by omega
          obtain ⟨b, o, ⟨⟨A8, n8, c8⟩, ⟨At, nt, ct⟩⟩, hA2, hbb, hrr, e0, e1, e2, e3, e4, e5, e6, e7⟩ := (h2.below B0).run hlt
          subst hA2
          have hs1 : b < wr.heap.size := Nat.lt_of_lt_of_le hbb B0.size
          have HRr := Lib.hid (show ∀ W, Below wr.heap.size wr W → runD.rd W W.heap.size y.runs[k] (⟨A8, n8, c8⟩, ⟨At, nt, ct⟩) from fun W hW => runD.rd_more (runD.rd_below (runD.rd_more hrr B0.size) hW) hW.size)
          have hcr := HC.out k hlt
          have hwt := wait_of (HR1.out k hlt hlt).1.2.1
          have htl : y.runs[k].tasks.length ≤ 2000000 := Nat.le_trans (cntL_len cntTask _) (by unfold cntRun at hcr; omega)
          have hlc := later_cell wr
          have D3 := Lib.hid (show ∀ u : Later wr, _ from fun u => specStand_any y (⟨A1, n1, c1⟩, ⟨some ⟨b, o, none⟩, y.runs.length, c2⟩) y.runs[k] (⟨A8, n8, c8⟩, ⟨At, nt, ct⟩) (entriesOf y) ⟨A3, (entriesOf y).length, c3⟩ u.1 htl hel hnb hwt (HRr.out _ u.2) ((O2.below (bnext hb u.2)).more (bnext hb u.2).size))
          by_cases q3 : standP y.now y.runs[k] (entriesOf y)
          case neg =>
            have H := Lib.hid (tf_false (show ¬ yardP y from fun h => q3 (h.2.2.2.2.2.2.2.2.1 _ (List.getElem_mem hlt))))
            rw [tf_false q3] at D3
            clear q3
            go_wp2
            refine wp_region_pure (by kernel_rfl) (by kernel_rfl) ?_
            repeat (go_big_quiet_step ((go_at_call 53; (with_reducible exact pure_at D3.out))))
            refine wpQuiet_nil ?_
            rintro _ ⟨⟨w3, b3⟩, rfl⟩
            clear hlc
            go_wp2
            go_ret
            exact ⟨ret_bool H.out.symm, bnext B0 b3⟩
          have S : Hid (runsStand y (k + 1)) := fun j hj hjk => by
            by_cases e : j = k
            · subst e; exact q3
            · exact hok.out j hj (by omega)
          rw [tf_true q3] at D3
          clear q3
          go_wp2
          refine wp_region_pure (by kernel_rfl) (by kernel_rfl) ?_
          repeat (go_big_quiet_step ((go_at_call 53; (with_reducible exact pure_at D3.out))))
          refine wpQuiet_nil ?_
          rintro _ ⟨⟨w3, b3⟩, rfl⟩
          clear hlc
          go_wp2
          first
            | exact ⟨⟨k + 1, by omega, by go_num, S, bnext hb b3⟩, by simp [intOf]; omega⟩
            | (refine ⟨?_, by simp [intOf]; omega⟩; (repeat apply Exists.intro); first | exact ⟨⟨k + 1, by omega, by go_num, S, bnext hb b3⟩, rfl⟩ | exact ⟨⟨k + 1, by omega, by go_num, S, bnext hb b3⟩, rfl, rfl⟩ | exact ⟨⟨k + 1, by omega, by go_num, S, bnext hb b3⟩, rfl, rfl, rfl⟩ | exact ⟨⟨k + 1, by omega, by go_num, S, bnext hb b3⟩, rfl, rfl, rfl, rfl⟩ | exact ⟨⟨k + 1, by omega, by go_num, S, bnext hb b3⟩, rfl, rfl, rfl, rfl, rfl⟩ | exact ⟨⟨k + 1, by omega, by go_num, S, bnext hb b3⟩, rfl, rfl, rfl, rfl, rfl, rfl⟩ | exact ⟨⟨k + 1, by omega, by go_num, S, bnext hb b3⟩, rfl, rfl, rfl, rfl, rfl, rfl, rfl⟩ | exact ⟨⟨k + 1, by omega, by go_num, S, bnext hb b3⟩, rfl, rfl, rfl, rfl, rfl, rfl, rfl, rfl⟩ | exact ⟨⟨k + 1, by omega, by go_num, S, bnext hb b3⟩, rfl, rfl, rfl, rfl, rfl, rfl, rfl, rfl, rfl⟩ | exact ⟨⟨k + 1, by omega, by go_num, S, bnext hb b3⟩, rfl, rfl, rfl, rfl, rfl, rfl, rfl, rfl, rfl, rfl⟩ | exact ⟨⟨k + 1, by omega, by go_num, S, bnext hb b3⟩, rfl, rfl, rfl, rfl, rfl, rfl, rfl, rfl, rfl, rfl, rfl⟩ | exact ⟨⟨k + 1, by omega, by go_num, S, bnext hb b3⟩, rfl, rfl, rfl, rfl, rfl, rfl, rfl, rfl, rfl, rfl, rfl, rfl⟩ | exact ⟨⟨k + 1, by omega, by go_num, S, bnext hb b3⟩, rfl, rfl, rfl, rfl, rfl, rfl, rfl, rfl, rfl, rfl, rfl, rfl, rfl⟩ | exact ⟨⟨k + 1, by omega, by go_num, S, bnext hb b3⟩, rfl, rfl, rfl, rfl, rfl, rfl, rfl, rfl, rfl, rfl, rfl, rfl, rfl, rfl⟩ | exact ⟨⟨k + 1, by omega, by go_num, S, bnext hb b3⟩, rfl, rfl, rfl, rfl, rfl, rfl, rfl, rfl, rfl, rfl, rfl, rfl, rfl, rfl, rfl⟩)
        · have hltI : ¬ (k : Int) < (y.runs.length : Int) := by omega
          have HRt : Hid (runsRight y y.runs.length) := fun j hj hj2 => ⟨(HR1.out j hj hj2).1, (HR1.out j hj hj2).2, hok.out j hj (by omega)⟩
          have HF := Lib.hid (yard_of2 A1_.out A2_.out A3_.out a4 HRt.out)
          have C := specSlots_any y (⟨A1, n1, c1⟩, ⟨A2, y.runs.length, c2⟩) wr hl (HR.out _ B0)
          go_wp2_with fail
          refine C.mono ?_
          rintro e w7 ⟨rfl, b7⟩
          have HT := Lib.hid (show tf (yardP y) = decide ((slotsOf y : Int) ≤ 40) by
            rw [Bool.eq_iff_iff, tf_iff, HF.out, decide_eq_true_eq]
            omega)
          generalize slotsOf y = N at *
          by_cases q : N ≤ 40
          · have H := Lib.hid (show tf (yardP y) = true by rw [HT.out]; exact decide_eq_true (by omega))
            go_wp2
            go_ret
            exact ⟨ret_bool (by rw [H.out]; exact decide_eq_true (by omega)), bnext B0 b7⟩
          · have H := Lib.hid (show tf (yardP y) = false by rw [HT.out]; exact decide_eq_false (by omega))
            go_wp2
            go_ret
            exact ⟨ret_bool (by rw [H.out]; exact decide_eq_false (by omega)), bnext B0 b7⟩
end Go.Proofs.YtjobmbjadpldfaaGreat
end
section
namespace Go.Proofs.YtjobmbjadpldfaaGreat
open Go.RowKit
set_option maxRecDepth 100000
set_option maxHeartbeats 2000000
set_option linter.unusedVariables false
set_option linter.unusedSimpArgs false

/-- hands out a datum of the call's own and a bool -/
def OwnPost2 {α : Type} (d : Dt α) (val : α → d.S → Value) (x : α) (b : Bool) (w : World) (e : Ending) (w' : World) : Prop :=
  ∃ s F, e = .returned (.tuple #[val x s, .bool b]) ∧ d.ow w' F x s ∧ (∀ b ∈ F, w.heap.size ≤ b) ∧ Below w.heap.size w w'
def zeroYard : Yard := ⟨0, 0, [], []⟩
theorem zeroYard_ow (w : World) : yardD.ow w [] zeroYard (⟨none, 0, 0⟩, ⟨none, 0, 0⟩) := ⟨[], [], rfl, List.nodup_nil, OwL.nil _ _ _ _, OwL.nil _ _ _ _⟩
open Classical in
noncomputable def followerNew (y : Yard) (q : Int) : Follower × Bool := if yardP y ∧ (0 ≤ q ∧ q ≤ 1000000000) then (⟨y, q⟩, true) else (⟨zeroYard, 0⟩, false)
theorem followerNew_yes {y : Yard} {q : Int} (h : yardP y) (hq : inB q 0 1000000000 = true) : followerNew y q = (⟨y, q⟩, true) := by unfold followerNew; rw [if_pos ⟨h, inB_iff.1 hq⟩]
theorem followerNew_no {y : Yard} {q : Int} (h : ¬ (yardP y ∧ (0 ≤ q ∧ q ≤ 1000000000))) : followerNew y q = (⟨zeroYard, 0⟩, false) := by unfold followerNew; rw [if_neg h]
theorem followerNew_cnt (y : Yard) (q : Int) (h : cntYard y ≤ 2000000) : cntFollower (followerNew y q).1 ≤ 2000000 := by
  unfold followerNew
  split
  · exact h
  · show cntYard zeroYard ≤ _
    decide


theorem implFollowerNew_own (y : Yard) (s : Sl × Sl) (q : Int) (w : World) (hl : cntYard y ≤ 2000000) (h : yardD.rd w w.heap.size y s) :
    Calls Tryz.prog 14 #[yardW y s, .int .i64 q] w (OwnPost2 followerD followerW (followerNew y q).1 (followerNew y q).2 w) := by
  have HR := Lib.hid (show ∀ W, Below w.heap.size w W → yardD.rd W W.heap.size y s from fun W hW => yardD.rd_more (yardD.rd_below h hW) hW.size)
  obtain ⟨⟨A1, n1, c1⟩, ⟨A2, n2, c2⟩⟩ := s
  clear h
  have X := (DBox.new 34 [.int .i64 y.now, .int .i64 y.seq, .slice A1 n1 c1, .slice A2 n2 c2] w (b := w.heap.size) rfl).below ((Below.refl _ _).alloc (Nat.le_refl _) (.cells #[.int .i64 0, .int .i64 0, .slice none 0 0, .slice none 0 0, .int .i64 0] 43))
  have Z := DBox.new 43 [.int .i64 0, .int .i64 0, .slice none 0 0, .slice none 0 0, .int .i64 0] (w.alloc (.cells #[.int .i64 y.now, .int .i64 y.seq, .slice A1 n1 c1, .slice A2 n2 c2] 34)) (b := w.heap.size + 1) (by simp)
  have B0 : Below w.heap.size w ((w.alloc (.cells #[.int .i64 y.now, .int .i64 y.seq, .slice A1 n1 c1, .slice A2 n2 c2] 34)).alloc (.cells #[.int .i64 0, .int .i64 0, .slice none 0 0, .slice none 0 0, .int .i64 0] 43)) := by repeat (first | exact Below.refl _ _ | refine Below.alloc ?_ (by simp <;> omega) _)
  have C1 := implYardOk_any y (⟨A1, n1, c1⟩, ⟨A2, n2, c2⟩) ((w.alloc (.cells #[.int .i64 y.now, .int .i64 y.seq, .slice A1 n1 c1, .slice A2 n2 c2] 34)).alloc (.cells #[.int .i64 0, .int .i64 0, .slice none 0 0, .slice none 0 0, .int .i64 0] 43)) hl (HR.out _ B0)
  have lW : w.heap.size + 2 ≤ (((w.alloc (.cells #[.int .i64 y.now, .int .i64 y.seq, .slice A1 n1 c1, .slice A2 n2 c2] 34)).alloc (.cells #[.int .i64 0, .int .i64 0, .slice none 0 0, .slice none 0 0, .int .i64 0] 43))).heap.size := Z.lt
  by_cases p1 : yardP y
  case neg =>
    have H := Lib.hid (followerNew_no (q := q) (fun h => p1 h.1))
    rw [tf_false p1] at C1
    clear p1
    go_enter Tryz.func14, Tryz.ntmps14
    go_wp2_with fail
    generalize ((w.alloc (.cells #[.int .i64 y.now, .int .i64 y.seq, .slice A1 n1 c1, .slice A2 n2 c2] 34)).alloc (.cells #[.int .i64 0, .int .i64 0, .slice none 0 0, .slice none 0 0, .int .i64 0] 43)) = W at *
    refine C1.mono ?_
    rintro e w1 ⟨rfl, b1⟩
    replace X := X.below b1
    replace Z := Z.below b1
    have X_0 := X.cell 0 _ rfl
    have X_1 := X.cell 1 _ rfl
    have X_2 := X.cell 2 _ rfl
    have X_3 := X.cell 3 _ rfl
    have X_l := X.lt
    have Z_0 := Z.cell 0 _ rfl
    have Z_1 := Z.cell 1 _ rfl
    have Z_2 := Z.cell 2 _ rfl
    have Z_3 := Z.cell 3 _ rfl
    have Z_4 := Z.cell 4 _ rfl
    have Z_l := Z.lt
    have Z_f := Z.free
    replace B0 := bnext B0 b1
    go_wp2
    have o0 := zeroYard_ow
    refine bodyPost_ret (v := .tuple #[followerW ⟨zeroYard, 0⟩ (⟨none, 0, 0⟩, ⟨none, 0, 0⟩), .bool false]) ?_ rfl ?_
    · simp [followerW, zeroYard, results, Tryz.results14, go_sem, Z_0, Z_1, Z_2, Z_3, Z_4]
    · show OwnPost2 followerD followerW (followerNew y q).1 (followerNew y q).2 w _ _
      rw [H.out]
      refine ⟨_, [], rfl, zeroYard_ow _, (fun b hb => by cases hb), ?_⟩
      repeat (first | (with_reducible exact B0) | refine Below.setCell ?_ (by first | (simp; done) | (simp; omega)) _)
  rw [tf_true p1] at C1
  cases a1 : inB q 0 1000000000
  case false =>
    have H := Lib.hid (followerNew_no (y := y) (q := q) (fun h => by have := inB_iff.2 h.2; rw [a1] at this; cases this))
    clear p1
    go_enter Tryz.func14, Tryz.ntmps14
    go_wp2_with fail
    generalize ((w.alloc (.cells #[.int .i64 y.now, .int .i64 y.seq, .slice A1 n1 c1, .slice A2 n2 c2] 34)).alloc (.cells #[.int .i64 0, .int .i64 0, .slice none 0 0, .slice none 0 0, .int .i64 0] 43)) = W at *
    refine C1.mono ?_
    rintro e w1 ⟨rfl, b1⟩
    replace X := X.below b1
    replace Z := Z.below b1
    have X_0 := X.cell 0 _ rfl
    have X_1 := X.cell 1 _ rfl
    have X_2 := X.cell 2 _ rfl
    have X_3 := X.cell 3 _ rfl
    have X_l := X.lt
    have Z_0 := Z.cell 0 _ rfl
    have Z_1 := Z.cell 1 _ rfl
    have Z_2 := Z.cell 2 _ rfl
    have Z_3 := Z.cell 3 _ rfl
    have Z_4 := Z.cell 4 _ rfl
    have Z_l := Z.lt
    have Z_f := Z.free
    replace B0 := bnext B0 b1
    go_wp2_with (go_at_call 29; refine (within_any _ _ _ _).mono ?_; rintro e w' ⟨rfl, rfl⟩)
    have o0 := zeroYard_ow
    refine bodyPost_ret (v := .tuple #[followerW ⟨zeroYard, 0⟩ (⟨none, 0, 0⟩, ⟨none, 0, 0⟩), .bool false]) ?_ rfl ?_
    · simp [followerW, zeroYard, results, Tryz.results14, go_sem, Z_0, Z_1, Z_2, Z_3, Z_4]
    · show OwnPost2 followerD followerW (followerNew y q).1 (followerNew y q).2 w _ _
      rw [H.out]
      refine ⟨_, [], rfl, zeroYard_ow _, (fun b hb => by cases hb), ?_⟩
      repeat (first | (with_reducible exact B0) | refine Below.setCell ?_ (by first | (simp; done) | (simp; omega)) _)
  have H := Lib.hid (followerNew_yes p1 a1)
  clear p1
  go_enter Tryz.func14, Tryz.ntmps14
  go_wp2_with fail
  generalize ((w.alloc (.cells #[.int .i64 y.now, .int .i64 y.seq, .slice A1 n1 c1, .slice A2 n2 c2] 34)).alloc (.cells #[.int .i64 0, .int .i64 0, .slice none 0 0, .slice none 0 0, .int .i64 0] 43)) = W at *
  refine C1.mono ?_
  rintro e w1 ⟨rfl, b1⟩
  replace X := X.below b1
  replace Z := Z.below b1
  have X_0 := X.cell 0 _ rfl
  have X_1 := X.cell 1 _ rfl
  have X_2 := X.cell 2 _ rfl
  have X_3 := X.cell 3 _ rfl
  have X_l := X.lt
  have Z_0 := Z.cell 0 _ rfl
  have Z_1 := Z.cell 1 _ rfl
  have Z_2 := Z.cell 2 _ rfl
  have Z_3 := Z.cell 3 _ rfl
  have Z_4 := Z.cell 4 _ rfl
  have Z_l := Z.lt
  replace B0 := bnext B0 b1
  have C2 := implCopyYard_own y (⟨A1, n1, c1⟩, ⟨A2, n2, c2⟩) w1 hl (HR.out _ B0)
  go_wp2_with (first | (go_at_call 29; refine (within_any _ _ _ _).mono ?_; rintro e w' ⟨rfl, rfl⟩) | (go_at_call 37; refine C2.mono ?_; rintro e w2 ⟨s2, F2, rfl, o2, n2', b2⟩; have Z2 := Z.below b2; have y0 := Z2.cell 0 _ rfl; have y1 := Z2.cell 1 _ rfl; have y2 := Z2.cell 2 _ rfl; have y3 := Z2.cell 3 _ rfl; have y4 := Z2.cell 4 _ rfl; have yf := Z2.free; have yl := Z2.lt))
  have hb1 := b1.size
  have hn : w.heap.size + 1 ∉ F2 := fun hm => by have := n2' _ hm; omega
  have B2 := bnext B0 b2
  refine bodyPost_ret (v := .tuple #[followerW ⟨y, q⟩ s2, .bool true]) ?_ rfl ?_
  · simp [followerW, results, Tryz.results14, go_sem, y0, y1, y2, y3, y4]
  · show OwnPost2 followerD followerW (followerNew y q).1 (followerNew y q).2 w _ _
    rw [H.out]
    refine ⟨s2, F2, rfl, ?_, fun b hb => by have := n2' b hb; omega, ?_⟩
    · show yardD.ow _ F2 y s2
      repeat (first | (with_reducible exact o2) | refine Dt.ow_set yardD ?_ hn _)
    · repeat (first | (with_reducible exact B2) | refine Below.setCell ?_ (by first | (simp; done) | (simp; omega)) _)

theorem specFollowerNew_own (y : Yard) (s : Sl × Sl) (q : Int) (w : World) (hl : cntYard y ≤ 2000000) (h : yardD.rd w w.heap.size y s) :
    Calls Tryz.prog 12 #[yardW y s, .int .i64 q] w (OwnPost2 followerD followerW (followerNew y q).1 (followerNew y q).2 w) := by
  have HR := Lib.hid (show ∀ W, Below w.heap.size w W → yardD.rd W W.heap.size y s from fun W hW => yardD.rd_more (yardD.rd_below h hW) hW.size)
  obtain ⟨⟨A1, n1, c1⟩, ⟨A2, n2, c2⟩⟩ := s
  clear h
  have X := (DBox.new 34 [.int .i64 y.now, .int .i64 y.seq, .slice A1 n1 c1, .slice A2 n2 c2] w (b := w.heap.size) rfl).below ((Below.refl _ _).alloc (Nat.le_refl _) (.cells #[.int .i64 0, .int .i64 0, .slice none 0 0, .slice none 0 0, .int .i64 0] 43))
  have Z := DBox.new 43 [.int .i64 0, .int .i64 0, .slice none 0 0, .slice none 0 0, .int .i64 0] (w.alloc (.cells #[.int .i64 y.now, .int .i64 y.seq, .slice A1 n1 c1, .slice A2 n2 c2] 34)) (b := w.heap.size + 1) (by simp)
  have B0 : Below w.heap.size w ((w.alloc (.cells #[.int .i64 y.now, .int .i64 y.seq, .slice A1 n1 c1, .slice A2 n2 c2] 34)).alloc (.cells #[.int .i64 0, .int .i64 0, .slice none 0 0, .slice none 0 0, .int .i64 0] 43)) := by repeat (first | exact Below.refl _ _ | refine Below.alloc ?_ (by simp <;> omega) _)
  have C1 := specYardOk_any y (⟨A1, n1, c1⟩, ⟨A2, n2, c2⟩) ((w.alloc (.cells #[.int .i64 y.now, .int .i64 y.seq, .slice A1 n1 c1, .slice A2 n2 c2] 34)).alloc (.cells #[.int .i64 0, .int .i64 0, .slice none 0 0, .slice none 0 0, .int .i64 0] 43)) hl (HR.out _ B0)
  have lW : w.heap.size + 2 ≤ (((w.alloc (.cells #[.int .i64 y.now, .int .i64 y.seq, .slice A1 n1 c1, .slice A2 n2 c2] 34)).alloc (.cells #[.int .i64 0, .int .i64 0, .slice none 0 0, .slice none 0 0, .int .i64 0] 43))).heap.size := Z.lt
  by_cases p1 : yardP y
  case neg =>
    have H := Lib.hid (followerNew_no (q := q) (fun h => p1 h.1))
    rw [tf_false p1] at C1
    clear p1
    go_enter Tryz.func12, Tryz.ntmps12
    go_wp2_with fail
    generalize ((w.alloc (.cells #[.int .i64 y.now, .int .i64 y.seq, .slice A1 n1 c1, .slice A2 n2 c2] 34)).alloc (.cells #[.int .i64 0, .int .i64 0, .slice none 0 0, .slice none 0 0, .int .i64 0] 43)) = W at *
    refine C1.mono ?_
    rintro e w1 ⟨rfl, b1⟩
    replace X := X.below b1
    replace Z := Z.below b1
    have X_0 := X.cell 0 _ rfl
    have X_1 := X.cell 1 _ rfl
    have X_2 := X.cell 2 _ rfl
    have X_3 := X.cell 3 _ rfl
    have X_l := X.lt
    have Z_0 := Z.cell 0 _ rfl
    have Z_1 := Z.cell 1 _ rfl
    have Z_2 := Z.cell 2 _ rfl
    have Z_3 := Z.cell 3 _ rfl
    have Z_4 := Z.cell 4 _ rfl
    have Z_l := Z.lt
    have Z_f := Z.free
    replace B0 := bnext B0 b1
    go_wp2
    have o0 := zeroYard_ow
    refine bodyPost_ret (v := .tuple #[followerW ⟨zeroYard, 0⟩ (⟨none, 0, 0⟩, ⟨none, 0, 0⟩), .bool false]) ?_ rfl ?_
    · simp [followerW, zeroYard, results, Tryz.results12, go_sem, Z_0, Z_1, Z_2, Z_3, Z_4]
    · show OwnPost2 followerD followerW (followerNew y q).1 (followerNew y q).2 w _ _
      rw [H.out]
      refine ⟨_, [], rfl, zeroYard_ow _, (fun b hb => by cases hb), ?_⟩
      repeat (first | (with_reducible exact B0) | refine Below.setCell ?_ (by first | (simp; done) | (simp; omega)) _)
  rw [tf_true p1] at C1
  cases a1 : inB q 0 1000000000
  case false =>
    have H := Lib.hid (followerNew_no (y := y) (q := q) (fun h => by have := inB_iff.2 h.2; rw [a1] at this; cases this))
    clear p1
    go_enter Tryz.func12, Tryz.ntmps12
    go_wp2_with fail
    generalize ((w.alloc (.cells #[.int .i64 y.now, .int .i64 y.seq, .slice A1 n1 c1, .slice A2 n2 c2] 34)).alloc (.cells #[.int .i64 0, .int .i64 0, .slice none 0 0, .slice none 0 0, .int .i64 0] 43)) = W at *
    refine C1.mono ?_
    rintro e w1 ⟨rfl, b1⟩
    replace X := X.below b1
    replace Z := Z.below b1
    have X_0 := X.cell 0 _ rfl
    have X_1 := X.cell 1 _ rfl
    have X_2 := X.cell 2 _ rfl
    have X_3 := X.cell 3 _ rfl
    have X_l := X.lt
    have Z_0 := Z.cell 0 _ rfl
    have Z_1 := Z.cell 1 _ rfl
    have Z_2 := Z.cell 2 _ rfl
    have Z_3 := Z.cell 3 _ rfl
    have Z_4 := Z.cell 4 _ rfl
    have Z_l := Z.lt
    have Z_f := Z.free
    replace B0 := bnext B0 b1
    go_wp2_with (go_at_call 33; refine (l16Num_any _ _).mono ?_; rintro e w' ⟨rfl, rfl⟩)
    have o0 := zeroYard_ow
    refine bodyPost_ret (v := .tuple #[followerW ⟨zeroYard, 0⟩ (⟨none, 0, 0⟩, ⟨none, 0, 0⟩), .bool false]) ?_ rfl ?_
    · simp [followerW, zeroYard, results, Tryz.results12, go_sem, Z_0, Z_1, Z_2, Z_3, Z_4]
    · show OwnPost2 followerD followerW (followerNew y q).1 (followerNew y q).2 w _ _
      rw [H.out]
      refine ⟨_, [], rfl, zeroYard_ow _, (fun b hb => by cases hb), ?_⟩
      repeat (first | (with_reducible exact B0) | refine Below.setCell ?_ (by first | (simp; done) | (simp; omega)) _)
  have H := Lib.hid (followerNew_yes p1 a1)
  clear p1
  go_enter Tryz.func12, Tryz.ntmps12
  go_wp2_with fail
  generalize ((w.alloc (.cells #[.int .i64 y.now, .int .i64 y.seq, .slice A1 n1 c1, .slice A2 n2 c2] 34)).alloc (.cells #[.int .i64 0, .int .i64 0, .slice none 0 0, .slice none 0 0, .int .i64 0] 43)) = W at *
  refine C1.mono ?_
  rintro e w1 ⟨rfl, b1⟩
  replace X := X.below b1
  replace Z := Z.below b1
  have X_0 := X.cell 0 _ rfl
  have X_1 := X.cell 1 _ rfl
  have X_2 := X.cell 2 _ rfl
  have X_3 := X.cell 3 _ rfl
  have X_l := X.lt
  have Z_0 := Z.cell 0 _ rfl
  have Z_1 := Z.cell 1 _ rfl
  have Z_2 := Z.cell 2 _ rfl
  have Z_3 := Z.cell 3 _ rfl
  have Z_4 := Z.cell 4 _ rfl
  have Z_l := Z.lt
  replace B0 := bnext B0 b1
  have C2 := specCopyYard_own y (⟨A1, n1, c1⟩, ⟨A2, n2, c2⟩) w1 hl (HR.out _ B0)
  go_wp2_with (first | (go_at_call 33; refine (l16Num_any _ _).mono ?_; rintro e w' ⟨rfl, rfl⟩) | (go_at_call 34; refine C2.mono ?_; rintro e w2 ⟨s2, F2, rfl, o2, n2', b2⟩; have Z2 := Z.below b2; have y0 := Z2.cell 0 _ rfl; have y1 := Z2.cell 1 _ rfl; have y2 := Z2.cell 2 _ rfl; have y3 := Z2.cell 3 _ rfl; have y4 := Z2.cell 4 _ rfl; have yf := Z2.free; have yl := Z2.lt))
  have hb1 := b1.size
  have hn : w.heap.size + 1 ∉ F2 := fun hm => by have := n2' _ hm; omega
  have B2 := bnext B0 b2
  refine bodyPost_ret (v := .tuple #[followerW ⟨y, q⟩ s2, .bool true]) ?_ rfl ?_
  · simp [followerW, results, Tryz.results12, go_sem, y0, y1, y2, y3, y4]
  · show OwnPost2 followerD followerW (followerNew y q).1 (followerNew y q).2 w _ _
    rw [H.out]
    refine ⟨s2, F2, rfl, ?_, fun b hb => by have := n2' b hb; omega, ?_⟩
    · show yardD.ow _ F2 y s2
      repeat (first | (with_reducible exact o2) | refine Dt.ow_set yardD ?_ hn _)
    · repeat (first | (with_reducible exact B2) | refine Below.setCell ?_ (by first | (simp; done) | (simp; omega)) _)
end Go.Proofs.YtjobmbjadpldfaaGreat
end
section
namespace Go.Proofs.YtjobmbjadpldfaaGreat
open Go.RowKit
set_option maxRecDepth 100000
set_option maxHeartbeats 2000000
set_option linter.unusedVariables false

theorem lawFollowerNew_walk (x0 : Yard) (s0 : Sl × Sl) (n1 : Int) (w : World) (hw0 : wfYard x0) (h0 : yardD.rd w w.heap.size x0 s0) (hw1 : Wf n1) :
    Calls Tryz.prog 4 #[yardW x0 s0, .int .i64 n1] w fun e w' => e = .returned (.bool true) ∧ Below w.heap.size w w' := by
  have b0 := Below.refl w.heap.size w
  go_enter Tryz.func4, Tryz.ntmps4
  go_wp2_with fail
  generalize hW1 : w.alloc (.cells #[.int .i64 x0.now, .int .i64 x0.seq, .slice s0.1.a s0.1.n s0.1.c, .slice s0.2.a s0.2.n s0.2.c] 25) = w1
  have c1 : Below w.heap.size w w1 := by rw [← hW1]; exact (Below.refl _ _).alloc (Nat.le_refl _) _
  have DaY : DBox (w.heap.size) [.int .i64 x0.now, .int .i64 x0.seq, .slice s0.1.a s0.1.n s0.1.c, .slice s0.2.a s0.2.n s0.2.c] w1 := by rw [← hW1]; exact DBox.new 25 _ _ (rfl)
  clear hW1
  have laY := DaY.lt
  have b1 := bnext b0 c1
  have s1_ : w.heap.size ≤ w1.heap.size := c1.size
  refine (szYard_own x0 s0 _ _ (by omega) (by omega) hw0 (yardD.rd_more (yardD.rd_below h0 b1) b1.size)).mono ?_
  rintro e w2 ⟨r2, rfl, hr2, c2⟩
  have b2 := bnext b1 c2
  replace DaY := DaY.below c2
  have s2_ : w1.heap.size ≤ w2.heap.size := c2.size
  rcases hr2 with rfl | ⟨q2, z2⟩
  · go_wp2_with fail
    go_ret
    exact ⟨rfl, b2⟩
  have qb2 : decide (r2 < 0) = false := by simpa using q2
  have hm0 : cntYard x0 ≤ 2000000 := by omega
  have hmr : cntFollower ((followerNew x0 n1).1) ≤ 2000000 := followerNew_cnt x0 n1 hm0
  have caY0 : w2.cell? ⟨w.heap.size, 0, none⟩ = some (.int .i64 x0.now) := DaY.cell 0 _ rfl
  have caY1 : w2.cell? ⟨w.heap.size, 1, none⟩ = some (.int .i64 x0.seq) := DaY.cell 1 _ rfl
  have caY2 : w2.cell? ⟨w.heap.size, 2, none⟩ = some (.slice s0.1.a s0.1.n s0.1.c) := DaY.cell 2 _ rfl
  have caY3 : w2.cell? ⟨w.heap.size, 3, none⟩ = some (.slice s0.2.a s0.2.n s0.2.c) := DaY.cell 3 _ rfl
  have caYs := DaY.lt
  go_wp2_with fail
  clear caY0 caY1 caY2 caY3 caYs
  refine (toYard_own x0 s0 _ hm0 (yardD.rd_more (yardD.rd_below h0 b2) b2.size)).mono ?_
  rintro e w3 ⟨rw0s0, Fw0s0, rfl, ow0s0, nw0s0, c3⟩
  have b3 := bnext b2 c3
  replace DaY := DaY.below c3
  have s3_ : w2.heap.size ≤ w3.heap.size := c3.size
  replace ow0s0 : yardD.ow w3 Fw0s0 x0 rw0s0 := ow0s0
  replace nw0s0 : ∀ b ∈ Fw0s0, w2.heap.size ≤ b := nw0s0
  have tw0s0 : ∀ b ∈ Fw0s0, b < w3.heap.size := (yardD.ow_lt ow0s0)
  go_wp2_with fail
  refine (specFollowerNew_own x0 rw0s0 n1 _ hm0 (yardD.ow_rd ow0s0)).mono ?_
  rintro e w4 ⟨rw0, Fw0, rfl, ow0, nw0, c4⟩
  have b4 := bnext b3 c4
  replace ow0s0 := (yardD.ow_below ow0s0 c4)
  replace DaY := DaY.below c4
  have s4_ : w3.heap.size ≤ w4.heap.size := c4.size
  replace ow0 : followerD.ow w4 Fw0 ((followerNew x0 n1).1) rw0 := ow0
  replace nw0 : ∀ b ∈ Fw0, w3.heap.size ≤ b := nw0
  have tw0 : ∀ b ∈ Fw0, b < w4.heap.size := (followerD.ow_lt ow0)
  clear ow0s0 nw0s0 tw0s0
  have caY0 : w4.cell? ⟨w.heap.size, 0, none⟩ = some (.int .i64 x0.now) := DaY.cell 0 _ rfl
  have caY1 : w4.cell? ⟨w.heap.size, 1, none⟩ = some (.int .i64 x0.seq) := DaY.cell 1 _ rfl
  have caY2 : w4.cell? ⟨w.heap.size, 2, none⟩ = some (.slice s0.1.a s0.1.n s0.1.c) := DaY.cell 2 _ rfl
  have caY3 : w4.cell? ⟨w.heap.size, 3, none⟩ = some (.slice s0.2.a s0.2.n s0.2.c) := DaY.cell 3 _ rfl
  have caYs := DaY.lt
  go_wp2_with fail
  clear caY0 caY1 caY2 caY3 caYs
  generalize hW5 : w4.alloc (.cells #[.int .i64 ((followerNew x0 n1).1).yard.now, .int .i64 ((followerNew x0 n1).1).yard.seq, .slice rw0.1.a rw0.1.n rw0.1.c, .slice rw0.2.a rw0.2.n rw0.2.c, .int .i64 ((followerNew x0 n1).1).seq] 43) = w5
  have c5 : Below w4.heap.size w4 w5 := by rw [← hW5]; exact (Below.refl _ _).alloc (Nat.le_refl _) _
  have Dw0 : DBox (w4.heap.size) [.int .i64 ((followerNew x0 n1).1).yard.now, .int .i64 ((followerNew x0 n1).1).yard.seq, .slice rw0.1.a rw0.1.n rw0.1.c, .slice rw0.2.a rw0.2.n rw0.2.c, .int .i64 ((followerNew x0 n1).1).seq] w5 := by rw [← hW5]; exact DBox.new 43 _ _ (rfl)
  clear hW5
  have lw0 := Dw0.lt
  have b5 := bnext b4 c5
  replace ow0 := (followerD.ow_below ow0 c5)
  replace DaY := DaY.below c5
  have s5_ : w4.heap.size ≤ w5.heap.size := c5.size
  refine (toYard_own x0 s0 _ hm0 (yardD.rd_more (yardD.rd_below h0 b5) b5.size)).mono ?_
  rintro e w6 ⟨rx0, Fx0, rfl, ox0, nx0, c6⟩
  have b6 := bnext b5 c6
  replace ow0 := (followerD.ow_below ow0 c6)
  replace DaY := DaY.below c6
  replace Dw0 := Dw0.below c6
  have s6_ : w5.heap.size ≤ w6.heap.size := c6.size
  replace ox0 : yardD.ow w6 Fx0 x0 rx0 := ox0
  replace nx0 : ∀ b ∈ Fx0, w5.heap.size ≤ b := nx0
  have tx0 : ∀ b ∈ Fx0, b < w6.heap.size := (yardD.ow_lt ox0)
  go_wp2_with fail
  generalize hW7 : w6.alloc (.cells #[.int .i64 x0.now, .int .i64 x0.seq, .slice rx0.1.a rx0.1.n rx0.1.c, .slice rx0.2.a rx0.2.n rx0.2.c] 34) = w7
  have c7 : Below w6.heap.size w6 w7 := by rw [← hW7]; exact (Below.refl _ _).alloc (Nat.le_refl _) _
  have Dx0 : DBox (w6.heap.size) [.int .i64 x0.now, .int .i64 x0.seq, .slice rx0.1.a rx0.1.n rx0.1.c, .slice rx0.2.a rx0.2.n rx0.2.c] w7 := by rw [← hW7]; exact DBox.new 34 _ _ (rfl)
  clear hW7
  have lx0 := Dx0.lt
  have b7 := bnext b6 c7
  replace ow0 := (followerD.ow_below ow0 c7)
  replace ox0 := (yardD.ow_below ox0 c7)
  replace DaY := DaY.below c7
  replace Dw0 := Dw0.below c7
  have s7_ : w6.heap.size ≤ w7.heap.size := c7.size
  refine (implFollowerNew_own x0 rx0 n1 _ hm0 (yardD.ow_rd ox0)).mono ?_
  rintro e w8 ⟨rg0, Fg0, rfl, og0, ng0, c8⟩
  have b8 := bnext b7 c8
  replace ow0 := (followerD.ow_below ow0 c8)
  replace ox0 := (yardD.ow_below ox0 c8)
  replace DaY := DaY.below c8
  replace Dw0 := Dw0.below c8
  replace Dx0 := Dx0.below c8
  have s8_ : w7.heap.size ≤ w8.heap.size := c8.size
  replace og0 : followerD.ow w8 Fg0 ((followerNew x0 n1).1) rg0 := og0
  replace ng0 : ∀ b ∈ Fg0, w7.heap.size ≤ b := ng0
  have tg0 : ∀ b ∈ Fg0, b < w8.heap.size := (followerD.ow_lt og0)
  have cw00 : w8.cell? ⟨w4.heap.size, 0, none⟩ = some (.int .i64 ((followerNew x0 n1).1).yard.now) := Dw0.cell 0 _ rfl
  have cw01 : w8.cell? ⟨w4.heap.size, 1, none⟩ = some (.int .i64 ((followerNew x0 n1).1).yard.seq) := Dw0.cell 1 _ rfl
  have cw02 : w8.cell? ⟨w4.heap.size, 2, none⟩ = some (.slice rw0.1.a rw0.1.n rw0.1.c) := Dw0.cell 2 _ rfl
  have cw03 : w8.cell? ⟨w4.heap.size, 3, none⟩ = some (.slice rw0.2.a rw0.2.n rw0.2.c) := Dw0.cell 3 _ rfl
  have cw04 : w8.cell? ⟨w4.heap.size, 4, none⟩ = some (.int .i64 ((followerNew x0 n1).1).seq) := Dw0.cell 4 _ rfl
  have cw0s := Dw0.lt
  go_wp2_with fail
  clear cw00 cw01 cw02 cw03 cw04 cw0s
  generalize hW9 : w8.alloc (.cells #[.int .i64 ((followerNew x0 n1).1).yard.now, .int .i64 ((followerNew x0 n1).1).yard.seq, .slice rg0.1.a rg0.1.n rg0.1.c, .slice rg0.2.a rg0.2.n rg0.2.c, .int .i64 ((followerNew x0 n1).1).seq] 43) = w9
  have c9 : Below w8.heap.size w8 w9 := by rw [← hW9]; exact (Below.refl _ _).alloc (Nat.le_refl _) _
  have Dg0 : DBox (w8.heap.size) [.int .i64 ((followerNew x0 n1).1).yard.now, .int .i64 ((followerNew x0 n1).1).yard.seq, .slice rg0.1.a rg0.1.n rg0.1.c, .slice rg0.2.a rg0.2.n rg0.2.c, .int .i64 ((followerNew x0 n1).1).seq] w9 := by rw [← hW9]; exact DBox.new 43 _ _ (rfl)
  clear hW9
  have lg0 := Dg0.lt
  have b9 := bnext b8 c9
  replace ow0 := (followerD.ow_below ow0 c9)
  replace ox0 := (yardD.ow_below ox0 c9)
  replace og0 := (followerD.ow_below og0 c9)
  replace DaY := DaY.below c9
  replace Dw0 := Dw0.below c9
  replace Dx0 := Dx0.below c9
  have s9_ : w8.heap.size ≤ w9.heap.size := c9.size
  refine (eqFollower_own ((followerNew x0 n1).1) ((followerNew x0 n1).1) rg0 rw0 _ hmr hmr (followerD.ow_rd og0) (followerD.ow_rd ow0)).mono ?_
  rintro e w10 ⟨rfl, c10⟩
  have b10 := bnext b9 c10
  replace ow0 := (followerD.ow_below ow0 c10)
  replace ox0 := (yardD.ow_below ox0 c10)
  replace og0 := (followerD.ow_below og0 c10)
  replace DaY := DaY.below c10
  replace Dw0 := Dw0.below c10
  replace Dx0 := Dx0.below c10
  replace Dg0 := Dg0.below c10
  have s10_ : w9.heap.size ≤ w10.heap.size := c10.size
  have cx00 : w10.cell? ⟨w6.heap.size, 0, none⟩ = some (.int .i64 x0.now) := Dx0.cell 0 _ rfl
  have cx01 : w10.cell? ⟨w6.heap.size, 1, none⟩ = some (.int .i64 x0.seq) := Dx0.cell 1 _ rfl
  have cx02 : w10.cell? ⟨w6.heap.size, 2, none⟩ = some (.slice rx0.1.a rx0.1.n rx0.1.c) := Dx0.cell 2 _ rfl
  have cx03 : w10.cell? ⟨w6.heap.size, 3, none⟩ = some (.slice rx0.2.a rx0.2.n rx0.2.c) := Dx0.cell 3 _ rfl
  have caY0 : w10.cell? ⟨w.heap.size, 0, none⟩ = some (.int .i64 x0.now) := DaY.cell 0 _ rfl
  have caY1 : w10.cell? ⟨w.heap.size, 1, none⟩ = some (.int .i64 x0.seq) := DaY.cell 1 _ rfl
  have caY2 : w10.cell? ⟨w.heap.size, 2, none⟩ = some (.slice s0.1.a s0.1.n s0.1.c) := DaY.cell 2 _ rfl
  have caY3 : w10.cell? ⟨w.heap.size, 3, none⟩ = some (.slice s0.2.a s0.2.n s0.2.c) := DaY.cell 3 _ rfl
  have cx0s := Dx0.lt
  have caYs := DaY.lt
  go_wp2_with fail
  clear cx00 cx01 cx02 cx03 cx0s caY0 caY1 caY2 caY3 caYs
  have cx00 : w10.cell? ⟨w6.heap.size, 0, none⟩ = some (.int .i64 x0.now) := Dx0.cell 0 _ rfl
  have cx01 : w10.cell? ⟨w6.heap.size, 1, none⟩ = some (.int .i64 x0.seq) := Dx0.cell 1 _ rfl
  have cx02 : w10.cell? ⟨w6.heap.size, 2, none⟩ = some (.slice rx0.1.a rx0.1.n rx0.1.c) := Dx0.cell 2 _ rfl
  have cx03 : w10.cell? ⟨w6.heap.size, 3, none⟩ = some (.slice rx0.2.a rx0.2.n rx0.2.c) := Dx0.cell 3 _ rfl
  have caY0 : w10.cell? ⟨w.heap.size, 0, none⟩ = some (.int .i64 x0.now) := DaY.cell 0 _ rfl
  have caY1 : w10.cell? ⟨w.heap.size, 1, none⟩ = some (.int .i64 x0.seq) := DaY.cell 1 _ rfl
  have caY2 : w10.cell? ⟨w.heap.size, 2, none⟩ = some (.slice s0.1.a s0.1.n s0.1.c) := DaY.cell 2 _ rfl
  have caY3 : w10.cell? ⟨w.heap.size, 3, none⟩ = some (.slice s0.2.a s0.2.n s0.2.c) := DaY.cell 3 _ rfl
  have cx0s := Dx0.lt
  have caYs := DaY.lt
  go_region_held3 (fun w' => w'.cell? ⟨w6.heap.size, 0, none⟩ = some (.int .i64 x0.now) ∧ w'.cell? ⟨w6.heap.size, 1, none⟩ = some (.int .i64 x0.seq) ∧ w'.cell? ⟨w6.heap.size, 2, none⟩ = some (.slice rx0.1.a rx0.1.n rx0.1.c) ∧ w'.cell? ⟨w6.heap.size, 3, none⟩ = some (.slice rx0.2.a rx0.2.n rx0.2.c) ∧ w'.cell? ⟨w.heap.size, 0, none⟩ = some (.int .i64 x0.now) ∧ w'.cell? ⟨w.heap.size, 1, none⟩ = some (.int .i64 x0.seq) ∧ w'.cell? ⟨w.heap.size, 2, none⟩ = some (.slice s0.1.a s0.1.n s0.1.c) ∧ w'.cell? ⟨w.heap.size, 3, none⟩ = some (.slice s0.2.a s0.2.n s0.2.c))
    (first | (refine ⟨?_, ?_, ?_, ?_, ?_, ?_, ?_, ?_⟩ <;> first | assumption | go_keep) | go_keep)
    (first
      | (go_at_call 13; (with_reducible refine (toYard_own x0 s0 _ hm0 (yardD.rd_more (yardD.rd_below h0 b10.drew) b10.drew.size)).mono ?_); rintro e w11 ⟨ryx0, Fyx0, rfl, oyx0, nyx0, c11⟩; have b11 := bnext b10 (bnext ((Below.refl w10.heap.size w10).drew) c11); replace ow0 := (followerD.ow_below ow0 (bnext ((Below.refl w10.heap.size w10).drew) c11)); replace ox0 := (yardD.ow_below ox0 (bnext ((Below.refl w10.heap.size w10).drew) c11)); replace og0 := (followerD.ow_below og0 (bnext ((Below.refl w10.heap.size w10).drew) c11)); replace DaY := DaY.below (bnext ((Below.refl w10.heap.size w10).drew) c11); replace Dw0 := Dw0.below (bnext ((Below.refl w10.heap.size w10).drew) c11); replace Dx0 := Dx0.below (bnext ((Below.refl w10.heap.size w10).drew) c11); replace Dg0 := Dg0.below (bnext ((Below.refl w10.heap.size w10).drew) c11); have s11_ : w10.heap.size ≤ w11.heap.size := c11.size; replace oyx0 : yardD.ow w11 Fyx0 x0 ryx0 := oyx0; replace nyx0 : ∀ b ∈ Fyx0, w10.heap.size ≤ b := nyx0; have tyx0 : ∀ b ∈ Fyx0, b < w11.heap.size := (yardD.ow_lt oyx0); have Xx00 : w11.cell? ⟨w6.heap.size, 0, none⟩ = some (.int .i64 x0.now) := Dx0.cell 0 _ rfl; have Xx01 : w11.cell? ⟨w6.heap.size, 1, none⟩ = some (.int .i64 x0.seq) := Dx0.cell 1 _ rfl; have Xx02 : w11.cell? ⟨w6.heap.size, 2, none⟩ = some (.slice rx0.1.a rx0.1.n rx0.1.c) := Dx0.cell 2 _ rfl; have Xx03 : w11.cell? ⟨w6.heap.size, 3, none⟩ = some (.slice rx0.2.a rx0.2.n rx0.2.c) := Dx0.cell 3 _ rfl; have XaY0 : w11.cell? ⟨w.heap.size, 0, none⟩ = some (.int .i64 x0.now) := DaY.cell 0 _ rfl; have XaY1 : w11.cell? ⟨w.heap.size, 1, none⟩ = some (.int .i64 x0.seq) := DaY.cell 1 _ rfl; have XaY2 : w11.cell? ⟨w.heap.size, 2, none⟩ = some (.slice s0.1.a s0.1.n s0.1.c) := DaY.cell 2 _ rfl; have XaY3 : w11.cell? ⟨w.heap.size, 3, none⟩ = some (.slice s0.2.a s0.2.n s0.2.c) := DaY.cell 3 _ rfl; have Xx0s := Dx0.lt; have XaYs := DaY.lt)
      | (go_at_call 16; (with_reducible refine (eqYard_own x0 x0 rx0 ryx0 _ hm0 hm0 (yardD.ow_rd ox0) (yardD.ow_rd oyx0)).mono ?_); rintro e w12 ⟨rfl, c12⟩; have b12 := bnext b11 c12; replace ow0 := (followerD.ow_below ow0 c12); replace ox0 := (yardD.ow_below ox0 c12); replace og0 := (followerD.ow_below og0 c12); replace oyx0 := (yardD.ow_below oyx0 c12); replace DaY := DaY.below c12; replace Dw0 := Dw0.below c12; replace Dx0 := Dx0.below c12; replace Dg0 := Dg0.below c12; have s12_ : w11.heap.size ≤ w12.heap.size := c12.size; clear oyx0 nyx0 tyx0; have X1x00 : w12.cell? ⟨w6.heap.size, 0, none⟩ = some (.int .i64 x0.now) := Dx0.cell 0 _ rfl; have X1x01 : w12.cell? ⟨w6.heap.size, 1, none⟩ = some (.int .i64 x0.seq) := Dx0.cell 1 _ rfl; have X1x02 : w12.cell? ⟨w6.heap.size, 2, none⟩ = some (.slice rx0.1.a rx0.1.n rx0.1.c) := Dx0.cell 2 _ rfl; have X1x03 : w12.cell? ⟨w6.heap.size, 3, none⟩ = some (.slice rx0.2.a rx0.2.n rx0.2.c) := Dx0.cell 3 _ rfl; have X1aY0 : w12.cell? ⟨w.heap.size, 0, none⟩ = some (.int .i64 x0.now) := DaY.cell 0 _ rfl; have X1aY1 : w12.cell? ⟨w.heap.size, 1, none⟩ = some (.int .i64 x0.seq) := DaY.cell 1 _ rfl; have X1aY2 : w12.cell? ⟨w.heap.size, 2, none⟩ = some (.slice s0.1.a s0.1.n s0.1.c) := DaY.cell 2 _ rfl; have X1aY3 : w12.cell? ⟨w.heap.size, 3, none⟩ = some (.slice s0.2.a s0.2.n s0.2.c) := DaY.cell 3 _ rfl; have X1x0s := Dx0.lt; have X1aYs := DaY.lt))
  clear cx00 cx01 cx02 cx03 cx0s caY0 caY1 caY2 caY3 caYs
  clear Xx00 Xx01 Xx02 Xx03 Xx0s XaY0 XaY1 XaY2 XaY3 XaYs
  clear X1x00 X1x01 X1x02 X1x03 X1x0s X1aY0 X1aY1 X1aY2 X1aY3 X1aYs
  have kx0_ := (nvYard_le x0)
  have cx00 : w12.cell? ⟨w6.heap.size, 0, none⟩ = some (.int .i64 x0.now) := Dx0.cell 0 _ rfl
  have cx01 : w12.cell? ⟨w6.heap.size, 1, none⟩ = some (.int .i64 x0.seq) := Dx0.cell 1 _ rfl
  have cx02 : w12.cell? ⟨w6.heap.size, 2, none⟩ = some (.slice rx0.1.a rx0.1.n rx0.1.c) := Dx0.cell 2 _ rfl
  have cx03 : w12.cell? ⟨w6.heap.size, 3, none⟩ = some (.slice rx0.2.a rx0.2.n rx0.2.c) := Dx0.cell 3 _ rfl
  have cx0s := Dx0.lt
  go_wp2_with fail
  clear cx00 cx01 cx02 cx03 cx0s
  refine (markYard_own x0 rx0 Fx0 1 _ hm0 (by omega) (by omega) ox0).mono ?_
  rintro e w13 ⟨rfl, oo13, c13⟩
  have b13 := b12.trans (c13.below b12.size (fun x hx => by have := nx0 x hx; omega))
  replace ow0 := (followerD.ow_chg ow0 c13 (apart_of (in_of nw0 tw0) (in_of nx0 tx0) (by first | exact .inl (by omega) | exact .inr (by omega))))
  replace og0 := (followerD.ow_chg og0 c13 (apart_of (in_of ng0 tg0) (in_of nx0 tx0) (by first | exact .inl (by omega) | exact .inr (by omega))))
  replace DaY := DaY.chg c13 (fun hx => by have h1 := nx0 _ hx; have h2 := tx0 _ hx; omega)
  replace Dw0 := Dw0.chg c13 (fun hx => by have h1 := nx0 _ hx; have h2 := tx0 _ hx; omega)
  replace Dx0 := Dx0.chg c13 (fun hx => by have h1 := nx0 _ hx; have h2 := tx0 _ hx; omega)
  replace Dg0 := Dg0.chg c13 (fun hx => by have h1 := nx0 _ hx; have h2 := tx0 _ hx; omega)
  have s13_ : w12.heap.size ≤ w13.heap.size := c13.size
  replace ox0 : yardD.ow w13 Fx0 (mvYard 1 x0) rx0 := oo13
  have cg00 : w13.cell? ⟨w8.heap.size, 0, none⟩ = some (.int .i64 ((followerNew x0 n1).1).yard.now) := Dg0.cell 0 _ rfl
  have cg01 : w13.cell? ⟨w8.heap.size, 1, none⟩ = some (.int .i64 ((followerNew x0 n1).1).yard.seq) := Dg0.cell 1 _ rfl
  have cg02 : w13.cell? ⟨w8.heap.size, 2, none⟩ = some (.slice rg0.1.a rg0.1.n rg0.1.c) := Dg0.cell 2 _ rfl
  have cg03 : w13.cell? ⟨w8.heap.size, 3, none⟩ = some (.slice rg0.2.a rg0.2.n rg0.2.c) := Dg0.cell 3 _ rfl
  have cg04 : w13.cell? ⟨w8.heap.size, 4, none⟩ = some (.int .i64 ((followerNew x0 n1).1).seq) := Dg0.cell 4 _ rfl
  have cw00 : w13.cell? ⟨w4.heap.size, 0, none⟩ = some (.int .i64 ((followerNew x0 n1).1).yard.now) := Dw0.cell 0 _ rfl
  have cw01 : w13.cell? ⟨w4.heap.size, 1, none⟩ = some (.int .i64 ((followerNew x0 n1).1).yard.seq) := Dw0.cell 1 _ rfl
  have cw02 : w13.cell? ⟨w4.heap.size, 2, none⟩ = some (.slice rw0.1.a rw0.1.n rw0.1.c) := Dw0.cell 2 _ rfl
  have cw03 : w13.cell? ⟨w4.heap.size, 3, none⟩ = some (.slice rw0.2.a rw0.2.n rw0.2.c) := Dw0.cell 3 _ rfl
  have cw04 : w13.cell? ⟨w4.heap.size, 4, none⟩ = some (.int .i64 ((followerNew x0 n1).1).seq) := Dw0.cell 4 _ rfl
  have cg0s := Dg0.lt
  have cw0s := Dw0.lt
  go_wp2_with fail
  clear cg00 cg01 cg02 cg03 cg04 cg0s cw00 cw01 cw02 cw03 cw04 cw0s
  refine (eqFollower_own ((followerNew x0 n1).1) ((followerNew x0 n1).1) rg0 rw0 _ hmr hmr (followerD.ow_rd og0) (followerD.ow_rd ow0)).mono ?_
  rintro e w14 ⟨rfl, c14⟩
  have b14 := bnext b13 c14
  replace ow0 := (followerD.ow_below ow0 c14)
  replace ox0 := (yardD.ow_below ox0 c14)
  replace og0 := (followerD.ow_below og0 c14)
  replace DaY := DaY.below c14
  replace Dw0 := Dw0.below c14
  replace Dx0 := Dx0.below c14
  replace Dg0 := Dg0.below c14
  have s14_ : w13.heap.size ≤ w14.heap.size := c14.size
  have kg0_ := (nvFollower_le ((followerNew x0 n1).1))
  have cg00 : w14.cell? ⟨w8.heap.size, 0, none⟩ = some (.int .i64 ((followerNew x0 n1).1).yard.now) := Dg0.cell 0 _ rfl
  have cg01 : w14.cell? ⟨w8.heap.size, 1, none⟩ = some (.int .i64 ((followerNew x0 n1).1).yard.seq) := Dg0.cell 1 _ rfl
  have cg02 : w14.cell? ⟨w8.heap.size, 2, none⟩ = some (.slice rg0.1.a rg0.1.n rg0.1.c) := Dg0.cell 2 _ rfl
  have cg03 : w14.cell? ⟨w8.heap.size, 3, none⟩ = some (.slice rg0.2.a rg0.2.n rg0.2.c) := Dg0.cell 3 _ rfl
  have cg04 : w14.cell? ⟨w8.heap.size, 4, none⟩ = some (.int .i64 ((followerNew x0 n1).1).seq) := Dg0.cell 4 _ rfl
  have cg0s := Dg0.lt
  go_wp2_with fail
  clear cg00 cg01 cg02 cg03 cg04 cg0s
  refine (markFollower_own ((followerNew x0 n1).1) rg0 Fg0 1 _ hmr (by omega) (by omega) og0).mono ?_
  rintro e w15 ⟨rfl, oo15, c15⟩
  have b15 := b14.trans (c15.below b14.size (fun x hx => by have := ng0 x hx; omega))
  replace ow0 := (followerD.ow_chg ow0 c15 (apart_of (in_of nw0 tw0) (in_of ng0 tg0) (by first | exact .inl (by omega) | exact .inr (by omega))))
  replace ox0 := (yardD.ow_chg ox0 c15 (apart_of (in_of nx0 tx0) (in_of ng0 tg0) (by first | exact .inl (by omega) | exact .inr (by omega))))
  replace DaY := DaY.chg c15 (fun hx => by have h1 := ng0 _ hx; have h2 := tg0 _ hx; omega)
  replace Dw0 := Dw0.chg c15 (fun hx => by have h1 := ng0 _ hx; have h2 := tg0 _ hx; omega)
  replace Dx0 := Dx0.chg c15 (fun hx => by have h1 := ng0 _ hx; have h2 := tg0 _ hx; omega)
  replace Dg0 := Dg0.chg c15 (fun hx => by have h1 := ng0 _ hx; have h2 := tg0 _ hx; omega)
  have s15_ : w14.heap.size ≤ w15.heap.size := c15.size
  replace og0 : followerD.ow w15 Fg0 (mvFollower 1 ((followerNew x0 n1).1)) rg0 := oo15
  have cg00 : w15.cell? ⟨w8.heap.size, 0, none⟩ = some (.int .i64 ((followerNew x0 n1).1).yard.now) := Dg0.cell 0 _ rfl
  have cg01 : w15.cell? ⟨w8.heap.size, 1, none⟩ = some (.int .i64 ((followerNew x0 n1).1).yard.seq) := Dg0.cell 1 _ rfl
  have cg02 : w15.cell? ⟨w8.heap.size, 2, none⟩ = some (.slice rg0.1.a rg0.1.n rg0.1.c) := Dg0.cell 2 _ rfl
  have cg03 : w15.cell? ⟨w8.heap.size, 3, none⟩ = some (.slice rg0.2.a rg0.2.n rg0.2.c) := Dg0.cell 3 _ rfl
  have cg04 : w15.cell? ⟨w8.heap.size, 4, none⟩ = some (.int .i64 ((followerNew x0 n1).1).seq) := Dg0.cell 4 _ rfl
  have cg0s := Dg0.lt
  go_wp2_with fail
  clear cg00 cg01 cg02 cg03 cg04 cg0s
  refine (heldFollower_own ((followerNew x0 n1).1) rg0 1 _ hmr (by omega) (by omega) (followerD.ow_rd og0)).mono ?_
  rintro e w16 ⟨rfl, c16⟩
  have b16 := bnext b15 c16
  replace ow0 := (followerD.ow_below ow0 c16)
  replace ox0 := (yardD.ow_below ox0 c16)
  replace og0 := (followerD.ow_below og0 c16)
  replace DaY := DaY.below c16
  replace Dw0 := Dw0.below c16
  replace Dx0 := Dx0.below c16
  replace Dg0 := Dg0.below c16
  have s16_ : w15.heap.size ≤ w16.heap.size := c16.size
  have caY0 : w16.cell? ⟨w.heap.size, 0, none⟩ = some (.int .i64 x0.now) := DaY.cell 0 _ rfl
  have caY1 : w16.cell? ⟨w.heap.size, 1, none⟩ = some (.int .i64 x0.seq) := DaY.cell 1 _ rfl
  have caY2 : w16.cell? ⟨w.heap.size, 2, none⟩ = some (.slice s0.1.a s0.1.n s0.1.c) := DaY.cell 2 _ rfl
  have caY3 : w16.cell? ⟨w.heap.size, 3, none⟩ = some (.slice s0.2.a s0.2.n s0.2.c) := DaY.cell 3 _ rfl
  have caYs := DaY.lt
  go_wp2_with fail
  clear caY0 caY1 caY2 caY3 caYs
  refine (toYard_own x0 s0 _ hm0 (yardD.rd_more (yardD.rd_below h0 b16) b16.size)).mono ?_
  rintro e w17 ⟨rh0i0, Fh0i0, rfl, oh0i0, nh0i0, c17⟩
  have b17 := bnext b16 c17
  replace ow0 := (followerD.ow_below ow0 c17)
  replace ox0 := (yardD.ow_below ox0 c17)
  replace og0 := (followerD.ow_below og0 c17)
  replace DaY := DaY.below c17
  replace Dw0 := Dw0.below c17
  replace Dx0 := Dx0.below c17
  replace Dg0 := Dg0.below c17
  have s17_ : w16.heap.size ≤ w17.heap.size := c17.size
  replace oh0i0 : yardD.ow w17 Fh0i0 x0 rh0i0 := oh0i0
  replace nh0i0 : ∀ b ∈ Fh0i0, w16.heap.size ≤ b := nh0i0
  have th0i0 : ∀ b ∈ Fh0i0, b < w17.heap.size := (yardD.ow_lt oh0i0)
  go_wp2_with fail
  refine (implFollowerNew_own x0 rh0i0 n1 _ hm0 (yardD.ow_rd oh0i0)).mono ?_
  rintro e w18 ⟨rh0, Fh0, rfl, oh0, nh0, c18⟩
  have b18 := bnext b17 c18
  replace ow0 := (followerD.ow_below ow0 c18)
  replace ox0 := (yardD.ow_below ox0 c18)
  replace og0 := (followerD.ow_below og0 c18)
  replace oh0i0 := (yardD.ow_below oh0i0 c18)
  replace DaY := DaY.below c18
  replace Dw0 := Dw0.below c18
  replace Dx0 := Dx0.below c18
  replace Dg0 := Dg0.below c18
  have s18_ : w17.heap.size ≤ w18.heap.size := c18.size
  replace oh0 : followerD.ow w18 Fh0 ((followerNew x0 n1).1) rh0 := oh0
  replace nh0 : ∀ b ∈ Fh0, w17.heap.size ≤ b := nh0
  have th0 : ∀ b ∈ Fh0, b < w18.heap.size := (followerD.ow_lt oh0)
  clear oh0i0 nh0i0 th0i0
  have cw00 : w18.cell? ⟨w4.heap.size, 0, none⟩ = some (.int .i64 ((followerNew x0 n1).1).yard.now) := Dw0.cell 0 _ rfl
  have cw01 : w18.cell? ⟨w4.heap.size, 1, none⟩ = some (.int .i64 ((followerNew x0 n1).1).yard.seq) := Dw0.cell 1 _ rfl
  have cw02 : w18.cell? ⟨w4.heap.size, 2, none⟩ = some (.slice rw0.1.a rw0.1.n rw0.1.c) := Dw0.cell 2 _ rfl
  have cw03 : w18.cell? ⟨w4.heap.size, 3, none⟩ = some (.slice rw0.2.a rw0.2.n rw0.2.c) := Dw0.cell 3 _ rfl
  have cw04 : w18.cell? ⟨w4.heap.size, 4, none⟩ = some (.int .i64 ((followerNew x0 n1).1).seq) := Dw0.cell 4 _ rfl
  have cw0s := Dw0.lt
  go_wp2_with fail
  clear cw00 cw01 cw02 cw03 cw04 cw0s
  generalize hW19 : w18.alloc (.cells #[.int .i64 ((followerNew x0 n1).1).yard.now, .int .i64 ((followerNew x0 n1).1).yard.seq, .slice rh0.1.a rh0.1.n rh0.1.c, .slice rh0.2.a rh0.2.n rh0.2.c, .int .i64 ((followerNew x0 n1).1).seq] 43) = w19
  have c19 : Below w18.heap.size w18 w19 := by rw [← hW19]; exact (Below.refl _ _).alloc (Nat.le_refl _) _
  have Dh0 : DBox (w18.heap.size) [.int .i64 ((followerNew x0 n1).1).yard.now, .int .i64 ((followerNew x0 n1).1).yard.seq, .slice rh0.1.a rh0.1.n rh0.1.c, .slice rh0.2.a rh0.2.n rh0.2.c, .int .i64 ((followerNew x0 n1).1).seq] w19 := by rw [← hW19]; exact DBox.new 43 _ _ (rfl)
  clear hW19
  have lh0 := Dh0.lt
  have b19 := bnext b18 c19
  replace ow0 := (followerD.ow_below ow0 c19)
  replace ox0 := (yardD.ow_below ox0 c19)
  replace og0 := (followerD.ow_below og0 c19)
  replace oh0 := (followerD.ow_below oh0 c19)
  replace DaY := DaY.below c19
  replace Dw0 := Dw0.below c19
  replace Dx0 := Dx0.below c19
  replace Dg0 := Dg0.below c19
  have s19_ : w18.heap.size ≤ w19.heap.size := c19.size
  refine (eqFollower_own ((followerNew x0 n1).1) ((followerNew x0 n1).1) rh0 rw0 _ hmr hmr (followerD.ow_rd oh0) (followerD.ow_rd ow0)).mono ?_
  rintro e w20 ⟨rfl, c20⟩
  have b20 := bnext b19 c20
  replace ow0 := (followerD.ow_below ow0 c20)
  replace ox0 := (yardD.ow_below ox0 c20)
  replace og0 := (followerD.ow_below og0 c20)
  replace oh0 := (followerD.ow_below oh0 c20)
  replace DaY := DaY.below c20
  replace Dw0 := Dw0.below c20
  replace Dx0 := Dx0.below c20
  replace Dg0 := Dg0.below c20
  replace Dh0 := Dh0.below c20
  have s20_ : w19.heap.size ≤ w20.heap.size := c20.size
  have cg00 : w20.cell? ⟨w8.heap.size, 0, none⟩ = some (.int .i64 ((followerNew x0 n1).1).yard.now) := Dg0.cell 0 _ rfl
  have cg01 : w20.cell? ⟨w8.heap.size, 1, none⟩ = some (.int .i64 ((followerNew x0 n1).1).yard.seq) := Dg0.cell 1 _ rfl
  have cg02 : w20.cell? ⟨w8.heap.size, 2, none⟩ = some (.slice rg0.1.a rg0.1.n rg0.1.c) := Dg0.cell 2 _ rfl
  have cg03 : w20.cell? ⟨w8.heap.size, 3, none⟩ = some (.slice rg0.2.a rg0.2.n rg0.2.c) := Dg0.cell 3 _ rfl
  have cg04 : w20.cell? ⟨w8.heap.size, 4, none⟩ = some (.int .i64 ((followerNew x0 n1).1).seq) := Dg0.cell 4 _ rfl
  have cg0s := Dg0.lt
  go_wp2_with fail
  clear cg00 cg01 cg02 cg03 cg04 cg0s
  refine (heldFollower_own ((followerNew x0 n1).1) rg0 1 _ hmr (by omega) (by omega) (followerD.ow_rd og0)).mono ?_
  rintro e w21 ⟨rfl, c21⟩
  have b21 := bnext b20 c21
  replace ow0 := (followerD.ow_below ow0 c21)
  replace ox0 := (yardD.ow_below ox0 c21)
  replace og0 := (followerD.ow_below og0 c21)
  replace oh0 := (followerD.ow_below oh0 c21)
  replace DaY := DaY.below c21
  replace Dw0 := Dw0.below c21
  replace Dx0 := Dx0.below c21
  replace Dg0 := Dg0.below c21
  replace Dh0 := Dh0.below c21
  have s21_ : w20.heap.size ≤ w21.heap.size := c21.size
  go_wp2_with fail
  go_ret
  exact ⟨rfl, b21⟩
end Go.Proofs.YtjobmbjadpldfaaGreat
end
