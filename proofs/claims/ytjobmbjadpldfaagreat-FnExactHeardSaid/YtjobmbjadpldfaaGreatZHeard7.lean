/-
  Yards that are right: the program's walk. Yards that are right: the reference's walk. Yards that are right: the reference's walk, whole. Desks that are right: the program's walk and the reference's. Memos as flat data; copies of desks; the first memo that is heard. Copies of desks, of the program and of the reference. Written by program (zb.py).
-/
import Derived.Test.YtjobmbjadpldfaaGreatZHeard6
section
namespace Go.Proofs.YtjobmbjadpldfaaGreat
open Go.RowKit
set_option maxRecDepth 100000
set_option maxHeartbeats 4000000
set_option linter.unusedVariables false
set_option linter.unusedSimpArgs false

/-- the numbers of the entries ahead of a place -/
def seqsN (l : List Entry) (k : Nat) : List Nat := (l.take k).map fun e => e.seq.toNat
theorem seqsN_succ (l : List Entry) (k : Nat) (hk : k < l.length) : seqsN l (k + 1) = seqsN l k ++ [l[k].seq.toNat] := by
  unfold seqsN
  rw [take_snoc l k hk, List.map_append]
  rfl
theorem seqsN_len (l : List Entry) (k : Nat) : (seqsN l k).length ≤ k := by
  unfold seqsN
  rw [List.length_map, List.length_take]
  omega
theorem seqsN_nodup {l : List Entry} (h : ∀ j (hj : j < l.length), l[j].seq.toNat ∉ seqsN l j) : (l.map (·.seq)).Nodup := by
  have : ∀ k, k ≤ l.length → (seqsN l k).Nodup := by
    intro k
    induction k with
    | zero => intro _; simp [seqsN]
    | succ k ih =>
      intro hk
      rw [seqsN_succ l k (by omega), List.nodup_append]
      refine ⟨ih (by omega), by simp, fun a ha b hb e => ?_⟩
      have hb' : b = l[k].seq.toNat := by simpa using hb
      subst hb'
      subst e
      exact h k (by omega) ha
  have h2 := this l.length (Nat.le_refl _)
  unfold seqsN at h2
  rw [List.take_length] at h2
  have e : (l.map fun e => e.seq.toNat) = (l.map (·.seq)).map Int.toNat := by rw [List.map_map]; rfl
  rw [e] at h2
  exact List.Pairwise.of_map _ (fun a b hne e => hne (by rw [e])) h2
theorem nodup_seqsN {l : List Entry} (h : (l.map (·.seq)).Nodup) (hp : ∀ e ∈ l, 1 ≤ e.seq) {k : Nat} (hk : k < l.length) : l[k].seq.toNat ∉ seqsN l k := by
  intro hm
  unfold seqsN at hm
  obtain ⟨x, hx, he⟩ := List.mem_map.1 hm
  obtain ⟨j, hj, rfl⟩ := List.getElem_of_mem hx
  rw [List.length_take] at hj
  rw [List.getElem_take] at he
  have h1 := hp _ (List.getElem_mem (show j < l.length by omega))
  have h2 := hp _ (List.getElem_mem hk)
  have e : l[j].seq = l[k].seq := by omega
  have h3 := List.pairwise_iff_getElem.1 h j k (by rw [List.length_map]; omega) (by rw [List.length_map]; omega) (by omega)
  rw [List.getElem_map, List.getElem_map] at h3
  exact h3 e
theorem wait_of {p : Plan} (h : planFault p = 0) : 1 ≤ p.wait ∧ p.wait ≤ 20 := by
  have := (planFault_zero.1 h).1
  simp only [manyOk, Bool.and_eq_true] at this
  exact inB_iff.1 this.2

/-- what a yard that is right has to be, step by step -/
def entsOk (q : Int) (l : List Entry) (k : Nat) : Prop := ∀ j (hj : j < l.length), j < k → (1 ≤ l[j].seq ∧ l[j].seq ≤ q - 1) ∧ l[j].seq.toNat ∉ seqsN l j
theorem ents_step {q : Int} {l : List Entry} {k : Nat} (h : entsOk q l k) (hk : k < l.length) (h1 : inB l[k].seq 1 (q - 1) = true) (h2 : l[k].seq.toNat ∉ seqsN l k) : entsOk q l (k + 1) := by
  intro j hj hjk
  by_cases e : j = k
  · subst e; exact ⟨inB_iff.1 h1, h2⟩
  · exact h j hj (by omega)
theorem ents_bad1 {y : Yard} {k : Nat} (hk : k < (entriesOf y).length) (h1 : inB (entriesOf y)[k].seq 1 (y.seq - 1) = false) : ¬ yardP y := by
  intro h
  have := inB_iff.2 (h.2.2.2.2.1 _ (List.getElem_mem hk))
  rw [h1] at this
  cases this
theorem ents_bad2 {y : Yard} {k : Nat} (hk : k < (entriesOf y).length) (h1 : (entriesOf y)[k].seq.toNat ∈ seqsN (entriesOf y) k) : ¬ yardP y := fun h =>
  nodup_seqsN h.2.2.2.2.2.1 (fun e he => (h.2.2.2.2.1 e he).1) hk h1
def runsRight (y : Yard) (k : Nat) : Prop := ∀ j (hj : j < y.runs.length), j < k → runP y.runs[j] ∧ runAt y y.runs[j].id = j ∧ standP y.now y.runs[j] (entriesOf y)
theorem runs_step {y : Yard} {k : Nat} (h : runsRight y k) (hk : k < y.runs.length) (h1 : runP y.runs[k]) (h2 : runAt y y.runs[k].id = k) (h3 : standP y.now y.runs[k] (entriesOf y)) : runsRight y (k + 1) := by
  intro j hj hjk
  by_cases e : j = k
  · subst e; exact ⟨h1, h2, h3⟩
  · exact h j hj (by omega)
theorem yard_of {y : Yard} (h1 : inB y.now 0 999999980 = true) (h2 : inB y.seq 1 1000000000 = true) (h3 : y.shelf.length = 4) (h4 : ∀ k (hk : k < y.shelf.length), shelfP y.shelf[k]) (h5 : entsOk y.seq (entriesOf y) (entriesOf y).length) (h6 : y.runs.length ≤ 8) (h7 : runsRight y y.runs.length) :
    yardP y ↔ slotsOf y ≤ 40 := by
  constructor
  · intro h; exact h.2.2.2.2.2.2.2.2.2
  · intro h
    refine ⟨inB_iff.1 h1, inB_iff.1 h2, h3, fun l hl => ?_, fun e he => ?_, seqsN_nodup (fun j hj => (h5 j hj hj).2), h6, fun k hk => ⟨(h7 k hk hk).1, (h7 k hk hk).2.1⟩, fun r hr => ?_, h⟩
    · obtain ⟨k, hk, rfl⟩ := List.getElem_of_mem hl
      exact h4 k hk
    · obtain ⟨k, hk, rfl⟩ := List.getElem_of_mem he
      exact (h5 k hk hk).1
    · obtain ⟨k, hk, rfl⟩ := List.getElem_of_mem hr
      exact (h7 k hk hk).2.2

theorem implYardOk_any (y : Yard) (s : Sl × Sl) (w : World) (hl : cntYard y ≤ 2000000) (h : yardD.rd w w.heap.size y s) :
    Calls Tryz.prog 28 #[yardW y s] w fun e w' => e = .returned (.bool (tf (yardP y))) ∧ Below w.heap.size w w' := by
  have HR := Lib.hid (show ∀ W, Below w.heap.size w W → yardD.rd W W.heap.size y s from fun W hW => yardD.rd_more (yardD.rd_below h hW) hW.size)
  obtain ⟨⟨A1, n1, c1⟩, ⟨A2, n2, c2⟩⟩ := s
  obtain rfl : n1 = y.shelf.length := RdL.at1 (s := ⟨A1, n1, c1⟩) h.1
  obtain rfl : n2 = y.runs.length := RdL.at1 (s := ⟨A2, n2, c2⟩) h.2
  have h1 : RdL (Dt.list entryD) w w.heap.size (.slice A1 y.shelf.length c1) y.shelf := h.1
  have h2 : RdL runD w w.heap.size (.slice A2 y.runs.length c2) y.runs := h.2
  have hll : y.runs.length ≤ 2000000 := Nat.le_trans (cntL_len cntRun _) (by unfold cntYard at hl; omega)
  have hls : y.shelf.length ≤ 2000000 := Nat.le_trans (cntL_len cntEntryS _) (by unfold cntYard at hl; omega)
  have HE := Lib.hid (show ∀ k (hk : k < y.shelf.length), y.shelf[k].length ≤ 2000000 from fun k hk => by
    have := cntL_mem (cnt := cntEntryS) (List.getElem_mem hk)
    have h2 : y.shelf[k].length ≤ cntEntryS y.shelf[k] := cntL_len cntEntry _
    unfold cntYard at hl
    omega)
  have HC := Lib.hid (show ∀ k (hk : k < y.runs.length), cntRun y.runs[k] ≤ 2000000 from fun k hk => by
    have := cntL_mem (cnt := cntRun) (List.getElem_mem hk)
    unfold cntYard at hl
    omega)
  have HEn := Lib.hid (show (entriesOf y).length ≤ 2000000 by
    have := flat_take_le y.shelf y.shelf.length
    rw [List.take_length] at this
    unfold cntYard at hl
    unfold entriesOf
    omega)
  have hsl := slots_le hl
  clear h
  have X := DBox.new 34 [.int .i64 y.now, .int .i64 y.seq, .slice A1 y.shelf.length c1, .slice A2 y.runs.length c2] w (b := w.heap.size) rfl
  have B0 : Below w.heap.size w (w.alloc (.cells #[.int .i64 y.now, .int .i64 y.seq, .slice A1 y.shelf.length c1, .slice A2 y.runs.length c2] 34)) := by repeat (first | exact Below.refl _ _ | refine Below.alloc ?_ (by simp <;> omega) _)
  cases a1 : inB y.now 0 999999980
  case false =>
    have H := Lib.hid (tf_false (show ¬ yardP y from fun h => by have := inB_iff.2 h.1; rw [a1] at this; cases this))
    go_enter Tryz.func28, Tryz.ntmps28
    go_wp2_with (go_at_call 29; refine (within_any _ _ _ _).mono ?_; rintro e w' ⟨rfl, rfl⟩)
    go_ret
    exact ⟨ret_bool H.out.symm, B0⟩
  cases a2 : inB y.seq 1 1000000000
  case false =>
    have H := Lib.hid (tf_false (show ¬ yardP y from fun h => by have := inB_iff.2 h.2.1; rw [a2] at this; cases this))
    go_enter Tryz.func28, Tryz.ntmps28
    go_wp2_with (go_at_call 29; refine (within_any _ _ _ _).mono ?_; rintro e w' ⟨rfl, rfl⟩)
    go_ret
    exact ⟨ret_bool H.out.symm, B0⟩
  by_cases a3 : y.shelf.length = 4
  case neg =>
    have a3' : ((y.shelf.length : Int) != 4) = true := by simp; omega
    have H := Lib.hid (tf_false (show ¬ yardP y from fun h => a3 h.2.2.1))
    clear a3
    go_enter Tryz.func28, Tryz.ntmps28
    go_wp2_with (go_at_call 29; refine (within_any _ _ _ _).mono ?_; rintro e w' ⟨rfl, rfl⟩)
    go_ret
    exact ⟨ret_bool H.out.symm, B0⟩
  have a3' : ((y.shelf.length : Int) != 4) = false := by simp [a3]
  have A3_ := Lib.hid a3
  clear a3
  by_cases a4 : y.runs.length ≤ 8
  case neg =>
    have a4' : (8 : Int) < (y.runs.length : Int) := by omega
    have H := Lib.hid (tf_false (show ¬ yardP y from fun h => a4 h.2.2.2.2.2.2.1))
    clear a4
    go_enter Tryz.func28, Tryz.ntmps28
    go_wp2_with (go_at_call 29; refine (within_any _ _ _ _).mono ?_; rintro e w' ⟨rfl, rfl⟩)
    go_ret
    exact ⟨ret_bool H.out.symm, B0⟩
  have a4' : ¬ (8 : Int) < (y.runs.length : Int) := by omega
  have hqb := inB_iff.1 a2
  have hnb := inB_iff.1 a1
  go_enter Tryz.func28, Tryz.ntmps28
  go_wp2_with (go_at_call 29; refine (within_any _ _ _ _).mono ?_; rintro e w' ⟨rfl, rfl⟩)
  generalize (w.alloc (.cells #[.int .i64 y.now, .int .i64 y.seq, .slice A1 y.shelf.length c1, .slice A2 y.runs.length c2] 34)) = W at *
  have A1_ := Lib.hid a1
  have A2_ := Lib.hid a2
  clear a1 a2 a3' a4'
  go_loopw [36] (fun i wr => ∃ k : Nat, k ≤ y.shelf.length ∧ i = .int .i64 k ∧ Hid (∀ j (hj : j < y.shelf.length), j < k → shelfP y.shelf[j]) ∧ Below W.heap.size W wr) (fun i _ => y.shelf.length - (intOf i).toNat)
  case atStart => exact ⟨0, Nat.zero_le _, rfl, fun j _ h0 => absurd h0 (by omega), Below.refl _ _⟩
  case round =>
    obtain ⟨k, hk, rfl, hok, hb⟩ := hrel
    replace X := X.below hb
    replace B0 := bnext B0 hb
    by_cases hlt : k < y.shelf.length
    · have hltI : (k : Int) < (y.shelf.length : Int) := by omega
      obtain ⟨b, o, ⟨As, ns, cs⟩, hA1, hbb, hr, d0⟩ := (h1.below B0).entryS hlt
      obtain rfl : ns = y.shelf[k].length := RdL.at1 (s := ⟨As, ns, cs⟩) hr
      subst hA1
      have C := implShelfOk_any y.shelf[k] ⟨As, y.shelf[k].length, cs⟩ wr (HE.out k hlt) (hr.more B0.size)
      by_cases q : shelfP y.shelf[k]
      · have S : Hid (∀ j (hj : j < y.shelf.length), j < k + 1 → shelfP y.shelf[j]) := fun j hj hjk => by
          by_cases e : j = k
          · subst e; exact q
          · exact hok.out j hj (by omega)
        rw [tf_true q] at C
        clear q
        go_wp2_with fail
        refine C.mono ?_
        rintro e w2 ⟨rfl, b2⟩
        go_wp2
        first
          | exact ⟨⟨k + 1, by omega, by go_num, S, bnext hb b2⟩, by simp [intOf]; omega⟩
          | (refine ⟨?_, by simp [intOf]; omega⟩; (repeat apply Exists.intro); first | exact ⟨⟨k + 1, by omega, by go_num, S, bnext hb b2⟩, rfl⟩ | exact ⟨⟨k + 1, by omega, by go_num, S, bnext hb b2⟩, rfl, rfl⟩ | exact ⟨⟨k + 1, by omega, by go_num, S, bnext hb b2⟩, rfl, rfl, rfl⟩ | exact ⟨⟨k + 1, by omega, by go_num, S, bnext hb b2⟩, rfl, rfl, rfl, rfl⟩ | exact ⟨⟨k + 1, by omega, by go_num, S, bnext hb b2⟩, rfl, rfl, rfl, rfl, rfl⟩ | exact ⟨⟨k + 1, by omega, by go_num, S, bnext hb b2⟩, rfl, rfl, rfl, rfl, rfl, rfl⟩ | exact ⟨⟨k + 1, by omega, by go_num, S, bnext hb b2⟩, rfl, rfl, rfl, rfl, rfl, rfl, rfl⟩ | exact ⟨⟨k + 1, by omega, by go_num, S, bnext hb b2⟩, rfl, rfl, rfl, rfl, rfl, rfl, rfl, rfl⟩ | exact ⟨⟨k + 1, by omega, by go_num, S, bnext hb b2⟩, rfl, rfl, rfl, rfl, rfl, rfl, rfl, rfl, rfl⟩ | exact ⟨⟨k + 1, by omega, by go_num, S, bnext hb b2⟩, rfl, rfl, rfl, rfl, rfl, rfl, rfl, rfl, rfl, rfl⟩ | exact ⟨⟨k + 1, by omega, by go_num, S, bnext hb b2⟩, rfl, rfl, rfl, rfl, rfl, rfl, rfl, rfl, rfl, rfl, rfl⟩ | exact ⟨⟨k + 1, by omega, by go_num, S, bnext hb b2⟩, rfl, rfl, rfl, rfl, rfl, rfl, rfl, rfl, rfl, rfl, rfl, rfl⟩ | exact ⟨⟨k + 1, by omega, by go_num, S, bnext hb b2⟩, rfl, rfl, rfl, rfl, rfl, rfl, rfl, rfl, rfl, rfl, rfl, rfl, rfl⟩ | exact ⟨⟨k + 1, by omega, by go_num, S, bnext hb b2⟩, rfl, rfl, rfl, rfl, rfl, rfl, rfl, rfl, rfl, rfl, rfl, rfl, rfl, rfl⟩ | exact ⟨⟨k + 1, by omega, by go_num, S, bnext hb b2⟩, rfl, rfl, rfl, rfl, rfl, rfl, rfl, rfl, rfl, rfl, rfl, rfl, rfl, rfl, rfl⟩)
      · have H := Lib.hid (tf_false (show ¬ yardP y from fun h => q (h.2.2.2.1 _ (List.getElem_mem hlt))))
        rw [tf_false q] at C
        clear q
        go_wp2_with fail
        refine C.mono ?_
        rintro e w2 ⟨rfl, b2⟩
        go_wp2
        go_ret
        exact ⟨ret_bool H.out.symm, bnext B0 b2⟩
    · have hltI : ¬ (k : Int) < (y.shelf.length : Int) := by omega
      have HS : Hid (∀ k (hk : k < y.shelf.length), shelfP y.shelf[k]) := fun j hj => hok.out j hj (by omega)
      have C := implEntries_any y (⟨A1, y.shelf.length, c1⟩, ⟨A2, y.runs.length, c2⟩) wr hl (HR.out _ B0)
      have X_0 := X.cell 0 _ rfl
      have X_1 := X.cell 1 _ rfl
      have X_2 := X.cell 2 _ rfl
      have X_3 := X.cell 3 _ rfl
      have X_l := X.lt
      go_wp2_with fail
      refine C.mono ?_
      rintro e w2 ⟨v, rfl, o2, b2⟩
      replace X := X.below b2
      replace B0 := bnext B0 b2
      clear X_0 X_1 X_2 X_3 X_l hok hlt hltI hb
      have O2 := Rd.of_own o2
      clear o2
      obtain ⟨A3, c3, rfl, -⟩ := id O2
      have hel := HEn.out
      obtain ⟨j0, hj0, jz0, jz1, jz2⟩ := info_parts int_info
      go_wp2
      go_loopw [6, 48] (fun vl i wr => ∃ k : Nat, k ≤ (entriesOf y).length ∧ i = .int .i64 k ∧ Ow natE 3 wr w2.heap.size vl (seqsN (entriesOf y) k) ∧ Hid (entsOk y.seq (entriesOf y) k) ∧ Below w2.heap.size w2 wr) (fun _ i _ => (entriesOf y).length - (intOf i).toNat)
      case atStart => exact ⟨0, Nat.zero_le _, rfl, by simpa [seqsN] using Ow.nil natE 3 w2 w2.heap.size, fun j _ h0 => absurd h0 (by omega), Below.refl _ _⟩
      case round =>
        obtain ⟨k, hk, rfl, om, hok, hb⟩ := hrel
        replace X := X.below hb
        replace B0 := bnext B0 hb
        have X_0 := X.cell 0 _ rfl
        have X_1 := X.cell 1 _ rfl
        have X_2 := X.cell 2 _ rfl
        have X_3 := X.cell 3 _ rfl
        have X_l := X.lt
        have hsn := seqsN_len (entriesOf y) k
        by_cases hlt : k < (entriesOf y).length
        · have hltI : (k : Int) < ((entriesOf y).length : Int) := by omega
          obtain ⟨b, o, _, hA3, hbb, _, d0, d1, d2, d3⟩ := RdL.entry (ent_rdL (O2.below hb)) hlt
          subst hA3
          have hs1 : b < wr.heap.size := Nat.lt_of_lt_of_le hbb hb.size
          have hE : Hid (∀ wr : World, Below wr.heap.size wr (wr.alloc (.cells #[.int .i64 (entriesOf y)[k].prio, .int .i64 (entriesOf y)[k].seq, .int .i64 (entriesOf y)[k].run, .int .i64 (entriesOf y)[k].task] 96))) := fun wr => (Below.refl _ _).alloc (Nat.le_refl _) _
          obtain ⟨A7, c7, rfl, -⟩ := id (Rd.of_own om)
          have w1' : IntKind.i64.wrap (y.seq - 1) = y.seq - 1 := IntWalk.i64_in _ (by omega)
          have HB1 := Lib.hid (ents_bad1 (y := y) hlt)
          have HB2 := Lib.hid (ents_bad2 (y := y) hlt)
          have HSt := Lib.hid (ents_step (q := y.seq) hok.out hlt)
          have HSq := Lib.hid (seqsN_succ (entriesOf y) k hlt)
          cases q1 : inB (entriesOf y)[k].seq 1 (y.seq - 1)
          · have H := Lib.hid (tf_false (HB1.out q1))
            go_wp2_with (go_at_call 29; refine (within_any _ _ _ _).mono ?_; rintro e w' ⟨rfl, rfl⟩)
            go_ret
            exact ⟨ret_bool H.out.symm, bnext B0 (hE.out _)⟩
          have q1b := inB_iff.1 q1
          generalize hx : (entriesOf y)[k].seq = x at *
          obtain ⟨n, rfl⟩ := Int.eq_ofNat_of_zero_le (show 0 ≤ x by omega)
          have hn : Hid ((n : Int).toNat = n) := Int.toNat_natCast n
          have HX := Lib.hid hx
          clear hx
          by_cases q2 : n ∈ seqsN (entriesOf y) k
          · have H := Lib.hid (tf_false (HB2.out (by rw [hn.out]; exact q2)))
            have C := containsInt_any _ (seqsN (entriesOf y) k) n _ _ (by omega) (Rd.of_own (om.below (hE.out wr)))
            rw [decide_eq_true q2] at C
            clear q2
            go_wp2_with (first | (go_at_call 29; refine (within_any _ _ _ _).mono ?_; rintro e w' ⟨rfl, rfl⟩) | (go_at_call 58; refine C.mono ?_; rintro e w' ⟨rfl, rfl⟩))
            go_ret
            exact ⟨ret_bool H.out.symm, bnext B0 (hE.out _)⟩
          · have S := Lib.hid (HSt.out q1 (by rw [hn.out]; exact q2))
            have C := containsInt_any _ (seqsN (entriesOf y) k) n _ _ (by omega) (Rd.of_own (om.below (hE.out wr)))
            rw [decide_eq_false q2] at C
            clear q2
            have ha : Hid (∀ w : World, Below w.heap.size w ((w.alloc (.cells #[.int .i64 (entriesOf y)[k].prio, .int .i64 (n : Int), .int .i64 (entriesOf y)[k].run, .int .i64 (entriesOf y)[k].task] 96)).alloc (.cells #[.int .i64 (n : Int)] 3))) := fun w => ((Below.refl _ _).alloc (Nat.le_refl _) _).alloc (by simp) _
            go_wp2_with (first | (go_at_call 29; refine (within_any _ _ _ _).mono ?_; rintro e w' ⟨rfl, rfl⟩) | (go_at_call 58; refine C.mono ?_; rintro e w' ⟨rfl, rfl⟩) | (at_builtin; refine wpList_push_all _ natE (by decide) rfl (.tmp 65) (.tmp 68) rfl Tryz.underlying94 hj0 jz0 jz1 jz2 rfl (l := seqsN (entriesOf y) k) rfl (om.below (ha.out wr)) rfl (Rd.one natE _ _ n (by simp) rfl 1 (Nat.le_refl _) (Nat.lt_succ_self _)) (by omega) (by simp) (by decide) (by have := hb.size; simp; omega) ?_; intro v5 w5 o5 g5 _))
            have hb' := bnext hb (ha.out wr)
            have W5 := hb'.grown g5 hb'.size (fun g hg => by have := om.within _ hg; omega)
            have o6 : Ow natE 3 w5 w2.heap.size v5 (seqsN (entriesOf y) (k + 1)) := by rw [HSq.out, hn.out]; exact o5
            first
              | exact ⟨⟨k + 1, by omega, by go_num, o6, S, W5⟩, by simp [intOf]; omega⟩
              | (refine ⟨?_, by simp [intOf]; omega⟩; (repeat apply Exists.intro); first | exact ⟨⟨k + 1, by omega, by go_num, o6, S, W5⟩, rfl⟩ | exact ⟨⟨k + 1, by omega, by go_num, o6, S, W5⟩, rfl, rfl⟩ | exact ⟨⟨k + 1, by omega, by go_num, o6, S, W5⟩, rfl, rfl, rfl⟩ | exact ⟨⟨k + 1, by omega, by go_num, o6, S, W5⟩, rfl, rfl, rfl, rfl⟩ | exact ⟨⟨k + 1, by omega, by go_num, o6, S, W5⟩, rfl, rfl, rfl, rfl, rfl⟩ | exact ⟨⟨k + 1, by omega, by go_num, o6, S, W5⟩, rfl, rfl, rfl, rfl, rfl, rfl⟩ | exact ⟨⟨k + 1, by omega, by go_num, o6, S, W5⟩, rfl, rfl, rfl, rfl, rfl, rfl, rfl⟩ | exact ⟨⟨k + 1, by omega, by go_num, o6, S, W5⟩, rfl, rfl, rfl, rfl, rfl, rfl, rfl, rfl⟩ | exact ⟨⟨k + 1, by omega, by go_num, o6, S, W5⟩, rfl, rfl, rfl, rfl, rfl, rfl, rfl, rfl, rfl⟩ | exact ⟨⟨k + 1, by omega, by go_num, o6, S, W5⟩, rfl, rfl, rfl, rfl, rfl, rfl, rfl, rfl, rfl, rfl⟩ | exact ⟨⟨k + 1, by omega, by go_num, o6, S, W5⟩, rfl, rfl, rfl, rfl, rfl, rfl, rfl, rfl, rfl, rfl, rfl⟩ | exact ⟨⟨k + 1, by omega, by go_num, o6, S, W5⟩, rfl, rfl, rfl, rfl, rfl, rfl, rfl, rfl, rfl, rfl, rfl, rfl⟩ | exact ⟨⟨k + 1, by omega, by go_num, o6, S, W5⟩, rfl, rfl, rfl, rfl, rfl, rfl, rfl, rfl, rfl, rfl, rfl, rfl, rfl⟩ | exact ⟨⟨k + 1, by omega, by go_num, o6, S, W5⟩, rfl, rfl, rfl, rfl, rfl, rfl, rfl, rfl, rfl, rfl, rfl, rfl, rfl, rfl⟩ | exact ⟨⟨k + 1, by omega, by go_num, o6, S, W5⟩, rfl, rfl, rfl, rfl, rfl, rfl, rfl, rfl, rfl, rfl, rfl, rfl, rfl, rfl, rfl⟩)
        · have hltI : ¬ (k : Int) < ((entriesOf y).length : Int) := by omega
          have HO : Hid (entsOk y.seq (entriesOf y) (entriesOf y).length) := fun j hj hj2 => hok.out j hj (by omega)
          go_wp2
          replace O2 := O2.below hb
          clear X_0 X_1 X_2 X_3 X_l hok hlt hltI om hsn
          have hsb := hb.size
          clear hb
          obtain ⟨w6, hw6⟩ : ∃ w6, w6 = wr := ⟨_, rfl⟩
          rw [← hw6] at X B0 O2 hsb ⊢
          clear hw6
          go_loopw [74] (fun i wr => ∃ k : Nat, k ≤ y.runs.length ∧ i = .int .i64 k ∧ Hid (runsRight y k) ∧ Below w6.heap.size w6 wr) (fun i _ => y.runs.length - (intOf i).toNat)
          case atStart => exact ⟨0, Nat.zero_le _, rfl, fun j _ h0 => absurd h0 (by omega), Below.refl _ _⟩
          case round =>
            obtain ⟨k, hk, rfl, hok, hb⟩ := hrel
            replace X := X.below hb
            replace B0 := bnext B0 hb
            by_cases hlt : k < y.runs.length
            · have hltI : (k : Int) < (y.runs.length : Int) := by omega
              obtain ⟨b, o, ⟨⟨A8, n8, c8⟩, ⟨At, nt, ct⟩⟩, hA2, hbb, hrr, e0, e1, e2, e3, e4, e5, e6, e7⟩ := (h2.below B0).run hlt
              subst hA2
              have hs1 : b < wr.heap.size := Nat.lt_of_lt_of_le hbb B0.size
              have HRr := Lib.hid (show ∀ W, Below wr.heap.size wr W → runD.rd W W.heap.size y.runs[k] (⟨A8, n8, c8⟩, ⟨At, nt, ct⟩) from fun W hW => runD.rd_more (runD.rd_below (runD.rd_more hrr B0.size) hW) hW.size)
              have hcr := HC.out k hlt
              have ha : Below wr.heap.size wr (wr.alloc (.cells #[.int .i64 y.runs[k].id, .int .i64 y.runs[k].plan.prio, .int .i64 y.runs[k].plan.most, .int .i64 y.runs[k].plan.wait, .int .i64 y.runs[k].plan.tasks, .slice A8 n8 c8, .int .i64 y.runs[k].state, .slice At nt ct] 84)) := (Below.refl _ _).alloc (Nat.le_refl _) _
              have R := DBox.new 84 [.int .i64 y.runs[k].id, .int .i64 y.runs[k].plan.prio, .int .i64 y.runs[k].plan.most, .int .i64 y.runs[k].plan.wait, .int .i64 y.runs[k].plan.tasks, .slice A8 n8 c8, .int .i64 y.runs[k].state, .slice At nt ct] wr rfl
              have C1 := implRunOk_any y.runs[k] (⟨A8, n8, c8⟩, ⟨At, nt, ct⟩) _ hcr (HRr.out _ ha)
              have HSt := Lib.hid (runs_step hok.out hlt)
              by_cases q1 : runP y.runs[k]
              case neg =>
                have H := Lib.hid (tf_false (show ¬ yardP y from fun h => q1 (h.2.2.2.2.2.2.2.1 k hlt).1))
                rw [tf_false q1] at C1
                clear q1
                go_wp2_with fail
                refine C1.mono ?_
                rintro e w7 ⟨rfl, b7⟩
                go_wp2
                go_ret
                exact ⟨ret_bool H.out.symm, bnext B0 (bnext ha b7)⟩
              rw [tf_true q1] at C1
              have HQ1 := Lib.hid q1
              have hwt := wait_of q1.2.1
              have htl : y.runs[k].tasks.length ≤ 2000000 := Nat.le_trans (cntL_len cntTask _) (by unfold cntRun at hcr; omega)
              clear q1
              go_wp2_with fail
              refine C1.mono ?_
              rintro e w7 ⟨rfl, b7⟩
              replace R := R.below b7
              have ha7 := bnext ha b7
              replace X := X.below ha7
              have X_0 := X.cell 0 _ rfl
              have X_1 := X.cell 1 _ rfl
              have X_2 := X.cell 2 _ rfl
              have X_3 := X.cell 3 _ rfl
              have X_l := X.lt
              have R_0 := R.cell 0 _ rfl
              have R_1 := R.cell 1 _ rfl
              have R_2 := R.cell 2 _ rfl
              have R_3 := R.cell 3 _ rfl
              have R_4 := R.cell 4 _ rfl
              have R_5 := R.cell 5 _ rfl
              have R_6 := R.cell 6 _ rfl
              have R_7 := R.cell 7 _ rfl
              have R_l := R.lt
              have C2 := implRunAt_own y (⟨A1, y.shelf.length, c1⟩, ⟨some ⟨b, o, none⟩, y.runs.length, c2⟩) y.runs[k].id w7 hl (HR.out _ (bnext B0 ha7))
              by_cases q2 : runAt y y.runs[k].id = k
              case neg =>
                have H := Lib.hid (tf_false (show ¬ yardP y from fun h => q2 (h.2.2.2.2.2.2.2.1 k hlt).2))
                have q2' : (runAt y y.runs[k].id != (k : Int)) = true := by simp [q2]
                clear q2
                go_wp2_with fail
                refine C2.mono ?_
                rintro e w8 ⟨rfl, b8⟩
                go_wp2
                go_ret
                exact ⟨ret_bool H.out.symm, bnext B0 (bnext ha7 b8)⟩
              rw [q2] at C2
              have HQ2 := Lib.hid q2
              clear q2
              have q2' : ((k : Int) != (k : Int)) = false := by simp
              go_wp2_with fail
              refine C2.mono ?_
              rintro e w8 ⟨rfl, b8⟩
              have ha8 := bnext ha7 b8
              replace X := X.below b8
              clear X_0 X_1 X_2 X_3 X_l
              have X_0 := X.cell 0 _ rfl
              have X_1 := X.cell 1 _ rfl
              have X_2 := X.cell 2 _ rfl
              have X_3 := X.cell 3 _ rfl
              have X_l := X.lt
              replace R := R.below b8
              clear R_0 R_1 R_2 R_3 R_4 R_5 R_6 R_7 R_l
              have R_0 := R.cell 0 _ rfl
              have R_1 := R.cell 1 _ rfl
              have R_2 := R.cell 2 _ rfl
              have R_3 := R.cell 3 _ rfl
              have R_4 := R.cell 4 _ rfl
              have R_5 := R.cell 5 _ rfl
              have R_6 := R.cell 6 _ rfl
              have R_7 := R.cell 7 _ rfl
              have R_l := R.lt
              have C3 := implStand_any y (⟨A1, y.shelf.length, c1⟩, ⟨some ⟨b, o, none⟩, y.runs.length, c2⟩) y.runs[k] (⟨A8, n8, c8⟩, ⟨At, nt, ct⟩) (entriesOf y) ⟨A3, (entriesOf y).length, c3⟩ w8 htl hel hnb hwt (HRr.out _ ha8) ((O2.below ((bnext hb ha8).mono hsb)).more (Nat.le_trans hsb (bnext hb ha8).size))
              by_cases q3 : standP y.now y.runs[k] (entriesOf y)
              case neg =>
                have H := Lib.hid (tf_false (show ¬ yardP y from fun h => q3 (h.2.2.2.2.2.2.2.2.1 _ (List.getElem_mem hlt))))
                rw [tf_false q3] at C3
                clear q3
                go_wp2_with fail
                refine C3.mono ?_
                rintro e w9 ⟨rfl, b9⟩
                go_wp2
                go_ret
                exact ⟨ret_bool H.out.symm, bnext B0 (bnext ha8 b9)⟩
              have S := Lib.hid (HSt.out HQ1.out HQ2.out q3)
              rw [tf_true q3] at C3
              clear q3
              go_wp2_with fail
              refine C3.mono ?_
              rintro e w9 ⟨rfl, b9⟩
              go_wp2
              first
                | exact ⟨⟨k + 1, by omega, by go_num, S, bnext hb (bnext ha8 b9)⟩, by simp [intOf]; omega⟩
                | (refine ⟨?_, by simp [intOf]; omega⟩; (repeat apply Exists.intro); first | exact ⟨⟨k + 1, by omega, by go_num, S, bnext hb (bnext ha8 b9)⟩, rfl⟩ | exact ⟨⟨k + 1, by omega, by go_num, S, bnext hb (bnext ha8 b9)⟩, rfl, rfl⟩ | exact ⟨⟨k + 1, by omega, by go_num, S, bnext hb (bnext ha8 b9)⟩, rfl, rfl, rfl⟩ | exact ⟨⟨k + 1, by omega, by go_num, S, bnext hb (bnext ha8 b9)⟩, rfl, rfl, rfl, rfl⟩ | exact ⟨⟨k + 1, by omega, by go_num, S, bnext hb (bnext ha8 b9)⟩, rfl, rfl, rfl, rfl, rfl⟩ | exact ⟨⟨k + 1, by omega, by go_num, S, bnext hb (bnext ha8 b9)⟩, rfl, rfl, rfl, rfl, rfl, rfl⟩ | exact ⟨⟨k + 1, by omega, by go_num, S, bnext hb (bnext ha8 b9)⟩, rfl, rfl, rfl, rfl, rfl, rfl, rfl⟩ | exact ⟨⟨k + 1, by omega, by go_num, S, bnext hb (bnext ha8 b9)⟩, rfl, rfl, rfl, rfl, rfl, rfl, rfl, rfl⟩ | exact ⟨⟨k + 1, by omega, by go_num, S, bnext hb (bnext ha8 b9)⟩, rfl, rfl, rfl, rfl, rfl, rfl, rfl, rfl, rfl⟩ | exact ⟨⟨k + 1, by omega, by go_num, S, bnext hb (bnext ha8 b9)⟩, rfl, rfl, rfl, rfl, rfl, rfl, rfl, rfl, rfl, rfl⟩ | exact ⟨⟨k + 1, by omega, by go_num, S, bnext hb (bnext ha8 b9)⟩, rfl, rfl, rfl, rfl, rfl, rfl, rfl, rfl, rfl, rfl, rfl⟩ | exact ⟨⟨k + 1, by omega, by go_num, S, bnext hb (bnext ha8 b9)⟩, rfl, rfl, rfl, rfl, rfl, rfl, rfl, rfl, rfl, rfl, rfl, rfl⟩ | exact ⟨⟨k + 1, by omega, by go_num, S, bnext hb (bnext ha8 b9)⟩, rfl, rfl, rfl, rfl, rfl, rfl, rfl, rfl, rfl, rfl, rfl, rfl, rfl⟩ | exact ⟨⟨k + 1, by omega, by go_num, S, bnext hb (bnext ha8 b9)⟩, rfl, rfl, rfl, rfl, rfl, rfl, rfl, rfl, rfl, rfl, rfl, rfl, rfl, rfl⟩ | exact ⟨⟨k + 1, by omega, by go_num, S, bnext hb (bnext ha8 b9)⟩, rfl, rfl, rfl, rfl, rfl, rfl, rfl, rfl, rfl, rfl, rfl, rfl, rfl, rfl, rfl⟩)
            · have hltI : ¬ (k : Int) < (y.runs.length : Int) := by omega
              have HRt : Hid (runsRight y y.runs.length) := fun j hj _ => hok.out j hj (by omega)
              have HF := Lib.hid (yard_of A1_.out A2_.out A3_.out HS.out HO.out a4 HRt.out)
              have C := implSlots_any y (⟨A1, y.shelf.length, c1⟩, ⟨A2, y.runs.length, c2⟩) wr hl (HR.out _ B0)
              have X_0 := X.cell 0 _ rfl
              have X_1 := X.cell 1 _ rfl
              have X_2 := X.cell 2 _ rfl
              have X_3 := X.cell 3 _ rfl
              have X_l := X.lt
              go_wp2_with fail
              refine C.mono ?_
              rintro e w7 ⟨rfl, b7⟩
              have HT := Lib.hid (show tf (yardP y) = decide ((slotsOf y : Int) ≤ 40) by
                rw [Bool.eq_iff_iff, tf_iff, HF.out, decide_eq_true_eq]
                omega)
              generalize slotsOf y = N at *
              by_cases q : N ≤ 40
              · have H := Lib.hid (show tf (yardP y) = true by rw [HT.out]; exact decide_eq_true (by omega))
                go_wp2
                go_ret
                exact ⟨ret_bool (by rw [H.out]; exact decide_eq_true (by omega)), bnext B0 b7⟩
              · have H := Lib.hid (show tf (yardP y) = false by rw [HT.out]; exact decide_eq_false (by omega))
                go_wp2
                go_ret
                exact ⟨ret_bool (by rw [H.out]; exact decide_eq_false (by omega)), bnext B0 b7⟩
end Go.Proofs.YtjobmbjadpldfaaGreat
end
section
namespace Go.Proofs.YtjobmbjadpldfaaGreat
open Go.RowKit
set_option maxRecDepth 100000
set_option maxHeartbeats 4000000
set_option linter.unusedVariables false
set_option linter.unusedSimpArgs false

/-- the shelves of a yard are right -/
def shelvesP (y : Yard) : Prop := y.shelf.length = 4 ∧ (∀ l ∈ y.shelf, shelfP l) ∧ (∀ e ∈ entriesOf y, 1 ≤ e.seq ∧ e.seq ≤ y.seq - 1) ∧ ((entriesOf y).map (·.seq)).Nodup
theorem shelves_of {y : Yard} (h3 : y.shelf.length = 4) (h4 : ∀ k (hk : k < y.shelf.length), shelfP y.shelf[k]) (h5 : entsOk y.seq (entriesOf y) (entriesOf y).length) : shelvesP y := by
  refine ⟨h3, fun l hl => ?_, fun e he => ?_, seqsN_nodup (fun j hj => (h5 j hj hj).2)⟩
  · obtain ⟨k, hk, rfl⟩ := List.getElem_of_mem hl
    exact h4 k hk
  · obtain ⟨k, hk, rfl⟩ := List.getElem_of_mem he
    exact (h5 k hk hk).1
theorem shelves_ents {y : Yard} (h : shelvesP y) {k : Nat} (hk : k ≤ (entriesOf y).length) : entsOk y.seq (entriesOf y) k := fun j hj _ =>
  ⟨h.2.2.1 _ (List.getElem_mem hj), nodup_seqsN h.2.2.2 (fun e he => (h.2.2.1 e he).1) hj⟩
/-- none of the first m has that number -/
def noneSeq (l : List Entry) (k m : Nat) : Prop := ∀ j (hj : j < l.length) (hk : k < l.length), j < m → l[j].seq ≠ l[k].seq
theorem noneSeq_not {l : List Entry} {k : Nat} (hk : k < l.length) (h : noneSeq l k k) (hp : ∀ j (hj : j < l.length), j ≤ k → 1 ≤ l[j].seq) : l[k].seq.toNat ∉ seqsN l k := by
  intro hm
  unfold seqsN at hm
  obtain ⟨x, hx, he⟩ := List.mem_map.1 hm
  obtain ⟨j, hj, rfl⟩ := List.getElem_of_mem hx
  rw [List.length_take] at hj
  rw [List.getElem_take] at he
  have h1 := hp j (by omega) (by omega)
  have h2 := hp k hk (Nat.le_refl _)
  exact h j (by omega) hk (by omega) (by omega)

theorem specShelves_any (y : Yard) (s : Sl × Sl) (w : World) (hl : cntYard y ≤ 2000000) (hq : 1 ≤ y.seq ∧ y.seq ≤ 1000000000) (h : yardD.rd w w.heap.size y s) :
    Calls Tryz.prog 49 #[yardW y s] w fun e w' => e = .returned (.bool (tf (shelvesP y))) ∧ Below w.heap.size w w' := by
  have HR := Lib.hid (show ∀ W, Below w.heap.size w W → yardD.rd W W.heap.size y s from fun W hW => yardD.rd_more (yardD.rd_below h hW) hW.size)
  obtain ⟨⟨A1, n1, c1⟩, ⟨A2, n2, c2⟩⟩ := s
  obtain rfl : n1 = y.shelf.length := RdL.at1 (s := ⟨A1, n1, c1⟩) h.1
  have h1 : RdL (Dt.list entryD) w w.heap.size (.slice A1 y.shelf.length c1) y.shelf := h.1
  have hls : y.shelf.length ≤ 2000000 := Nat.le_trans (cntL_len cntEntryS _) (by unfold cntYard at hl; omega)
  have HE := Lib.hid (show ∀ k (hk : k < y.shelf.length), y.shelf[k].length ≤ 2000000 from fun k hk => by
    have := cntL_mem (cnt := cntEntryS) (List.getElem_mem hk)
    have h2 : y.shelf[k].length ≤ cntEntryS y.shelf[k] := cntL_len cntEntry _
    unfold cntYard at hl
    omega)
  have HEn := Lib.hid (show (entriesOf y).length ≤ 2000000 by
    have := flat_take_le y.shelf y.shelf.length
    rw [List.take_length] at this
    unfold cntYard at hl
    unfold entriesOf
    omega)
  clear h
  have X := DBox.new 34 [.int .i64 y.now, .int .i64 y.seq, .slice A1 y.shelf.length c1, .slice A2 n2 c2] w (b := w.heap.size) rfl
  have B0 : Below w.heap.size w (w.alloc (.cells #[.int .i64 y.now, .int .i64 y.seq, .slice A1 y.shelf.length c1, .slice A2 n2 c2] 34)) := by repeat (first | exact Below.refl _ _ | refine Below.alloc ?_ (by simp <;> omega) _)
  by_cases a3 : y.shelf.length = 4
  case neg =>
    have a3' : ((y.shelf.length : Int) != 4) = true := by simp; omega
    have H := Lib.hid (tf_false (show ¬ shelvesP y from fun h => a3 h.1))
    clear a3
    go_enter Tryz.func49, Tryz.ntmps49
    go_wp2
    go_ret
    exact ⟨ret_bool H.out.symm, B0⟩
  have a3' : ((y.shelf.length : Int) != 4) = false := by simp [a3]
  have A3_ := Lib.hid a3
  clear a3
  go_enter Tryz.func49, Tryz.ntmps49
  go_wp2
  generalize (w.alloc (.cells #[.int .i64 y.now, .int .i64 y.seq, .slice A1 y.shelf.length c1, .slice A2 n2 c2] 34)) = W at *
  clear a3'
  go_loopw [3] (fun i wr => ∃ k : Nat, k ≤ y.shelf.length ∧ i = .int .i64 k ∧ Hid (∀ j (hj : j < y.shelf.length), j < k → shelfP y.shelf[j]) ∧ Below W.heap.size W wr) (fun i _ => y.shelf.length - (intOf i).toNat)
  case atStart => exact ⟨0, Nat.zero_le _, rfl, fun j _ h0 => absurd h0 (by omega), Below.refl _ _⟩
  case round =>
    obtain ⟨k, hk, rfl, hok, hb⟩ := hrel
    replace X := X.below hb
    replace B0 := bnext B0 hb
    have X_0 := X.cell 0 _ rfl
    have X_1 := X.cell 1 _ rfl
    have X_2 := X.cell 2 _ rfl
    have X_3 := X.cell 3 _ rfl
    have X_l := X.lt
    by_cases hlt : k < y.shelf.length
    · have hltI : (k : Int) < (y.shelf.length : Int) := by omega
      obtain ⟨b, o, ⟨As, ns, cs⟩, hA1, hbb, hr, d0⟩ := (h1.below B0).entryS hlt
      obtain rfl : ns = y.shelf[k].length := RdL.at1 (s := ⟨As, ns, cs⟩) hr
      subst hA1
      have C := specShelfOk_any y.shelf[k] ⟨As, y.shelf[k].length, cs⟩ wr (HE.out k hlt) (hr.more B0.size)
      by_cases q : shelfP y.shelf[k]
      · have S : Hid (∀ j (hj : j < y.shelf.length), j < k + 1 → shelfP y.shelf[j]) := fun j hj hjk => by
          by_cases e : j = k
          · subst e; exact q
          · exact hok.out j hj (by omega)
        rw [tf_true q] at C
        clear q
        go_wp2_with fail
        refine C.mono ?_
        rintro e w2 ⟨rfl, b2⟩
        go_wp2
        first
          | exact ⟨⟨k + 1, by omega, by go_num, S, bnext hb b2⟩, by simp [intOf]; omega⟩
          | (refine ⟨?_, by simp [intOf]; omega⟩; (repeat apply Exists.intro); first | exact ⟨⟨k + 1, by omega, by go_num, S, bnext hb b2⟩, rfl⟩ | exact ⟨⟨k + 1, by omega, by go_num, S, bnext hb b2⟩, rfl, rfl⟩ | exact ⟨⟨k + 1, by omega, by go_num, S, bnext hb b2⟩, rfl, rfl, rfl⟩ | exact ⟨⟨k + 1, by omega, by go_num, S, bnext hb b2⟩, rfl, rfl, rfl, rfl⟩ | exact ⟨⟨k + 1, by omega, by go_num, S, bnext hb b2⟩, rfl, rfl, rfl, rfl, rfl⟩ | exact ⟨⟨k + 1, by omega, by go_num, S, bnext hb b2⟩, rfl, rfl, rfl, rfl, rfl, rfl⟩ | exact ⟨⟨k + 1, by omega, by go_num, S, bnext hb b2⟩, rfl, rfl, rfl, rfl, rfl, rfl, rfl⟩ | exact ⟨⟨k + 1, by omega, by go_num, S, bnext hb b2⟩, rfl, rfl, rfl, rfl, rfl, rfl, rfl, rfl⟩ | exact ⟨⟨k + 1, by omega, by go_num, S, bnext hb b2⟩, rfl, rfl, rfl, rfl, rfl, rfl, rfl, rfl, rfl⟩ | exact ⟨⟨k + 1, by omega, by go_num, S, bnext hb b2⟩, rfl, rfl, rfl, rfl, rfl, rfl, rfl, rfl, rfl, rfl⟩ | exact ⟨⟨k + 1, by omega, by go_num, S, bnext hb b2⟩, rfl, rfl, rfl, rfl, rfl, rfl, rfl, rfl, rfl, rfl, rfl⟩ | exact ⟨⟨k + 1, by omega, by go_num, S, bnext hb b2⟩, rfl, rfl, rfl, rfl, rfl, rfl, rfl, rfl, rfl, rfl, rfl, rfl⟩ | exact ⟨⟨k + 1, by omega, by go_num, S, bnext hb b2⟩, rfl, rfl, rfl, rfl, rfl, rfl, rfl, rfl, rfl, rfl, rfl, rfl, rfl⟩ | exact ⟨⟨k + 1, by omega, by go_num, S, bnext hb b2⟩, rfl, rfl, rfl, rfl, rfl, rfl, rfl, rfl, rfl, rfl, rfl, rfl, rfl, rfl⟩ | exact ⟨⟨k + 1, by omega, by go_num, S, bnext hb b2⟩, rfl, rfl, rfl, rfl, rfl, rfl, rfl, rfl, rfl, rfl, rfl, rfl, rfl, rfl, rfl⟩)
      · have H := Lib.hid (tf_false (show ¬ shelvesP y from fun h => q (h.2.1 _ (List.getElem_mem hlt))))
        rw [tf_false q] at C
        clear q
        go_wp2_with fail
        refine C.mono ?_
        rintro e w2 ⟨rfl, b2⟩
        go_wp2
        go_ret
        exact ⟨ret_bool H.out.symm, bnext B0 b2⟩
    · have hltI : ¬ (k : Int) < (y.shelf.length : Int) := by omega
      have HS : Hid (∀ k (hk : k < y.shelf.length), shelfP y.shelf[k]) := fun j hj => hok.out j hj (by omega)
      have C := specEntries_any y (⟨A1, y.shelf.length, c1⟩, ⟨A2, n2, c2⟩) wr hl (HR.out _ B0)
      go_wp2_with fail
      refine C.mono ?_
      rintro e w2 ⟨v, rfl, o2, b2⟩
      replace X := X.below b2
      replace B0 := bnext B0 b2
      clear X_0 X_1 X_2 X_3 X_l hok hlt hltI hb
      have O2 := Rd.of_own o2
      clear o2
      obtain ⟨A3, c3, rfl, -⟩ := id O2
      have hel := HEn.out
      go_wp2
      go_loopw [5] (fun i wr => ∃ k : Nat, k ≤ (entriesOf y).length ∧ i = .int .i64 k ∧ Hid (entsOk y.seq (entriesOf y) k) ∧ Below w2.heap.size w2 wr) (fun i _ => (entriesOf y).length - (intOf i).toNat)
      case atStart => exact ⟨0, Nat.zero_le _, rfl, fun j _ h0 => absurd h0 (by omega), Below.refl _ _⟩
      case round =>
        obtain ⟨k, hk, rfl, hok, hb⟩ := hrel
        have X1 := X.below hb
        have X1_0 := X1.cell 0 _ rfl
        have X1_1 := X1.cell 1 _ rfl
        have X1_2 := X1.cell 2 _ rfl
        have X1_3 := X1.cell 3 _ rfl
        have X1_l := X1.lt
        by_cases hlt : k < (entriesOf y).length
        · have hltI : (k : Int) < ((entriesOf y).length : Int) := by omega
          obtain ⟨b, o, _, hA3, hbb, _, d0, d1, d2, d3⟩ := RdL.entry (ent_rdL (O2.below hb)) hlt
          subst hA3
          have hs1 : b < wr.heap.size := Nat.lt_of_lt_of_le hbb hb.size
          have w1' : IntKind.i64.wrap (y.seq - 1) = y.seq - 1 := IntWalk.i64_in _ (by omega)
          have hlc := later_cell wr
          have B1 := bnext B0 hb
          cases q1 : inB (entriesOf y)[k].seq 1 (y.seq - 1)
          · have H := Lib.hid (tf_false (show ¬ shelvesP y from fun h => by
              have := inB_iff.2 (h.2.2.1 _ (List.getElem_mem hlt))
              rw [q1] at this
              cases this))
            go_wp2
            refine wp_region_pure (by kernel_rfl) (by kernel_rfl) ?_
            repeat (go_big_quiet_step ((go_at_call 26; exact pure_same (fun u => l01In_any _ _ _ u.1))))
            refine wpQuiet_nil ?_
            rintro _ ⟨⟨w3, b3⟩, rfl⟩
            clear hlc
            go_wp2
            go_ret
            exact ⟨ret_bool H.out.symm, bnext B1 b3⟩
          have HQ := Lib.hid (inB_iff.1 q1)
          go_wp2
          refine wp_region_pure (by kernel_rfl) (by kernel_rfl) ?_
          repeat (go_big_quiet_step ((go_at_call 26; exact pure_same (fun u => l01In_any _ _ _ u.1))))
          refine wpQuiet_nil ?_
          rintro _ ⟨⟨w3, b3⟩, rfl⟩
          clear hlc
          go_wp2
          clear d0 d1 d2 d3 hs1 X1_0 X1_1 X1_2 X1_3 X1_l X1 q1 w1'
          go_loopw [6] (fun i wq => ∃ m : Nat, m ≤ k ∧ i = .int .i64 m ∧ Hid (noneSeq (entriesOf y) k m) ∧ Below wr.heap.size wr wq) (fun i _ => k - (intOf i).toNat)
          case atStart => exact ⟨0, Nat.zero_le _, rfl, fun j _ _ h0 => absurd h0 (by omega), b3⟩
          case round =>
            obtain ⟨m, hm, rfl, hno, hb4⟩ := hrel
            by_cases hmk : m < k
            · have hmI : (m : Int) < (k : Int) := by omega
              obtain ⟨b', o', _, hA', hbb', _, d0, d1, d2, d3⟩ := RdL.entry (ent_rdL (O2.below (bnext hb hb4))) hlt
              simp only [Option.some.injEq, Addr.mk.injEq, and_true] at hA'
              obtain ⟨rfl, rfl⟩ := hA'
              obtain ⟨b', o', _, hA', _, _, f0, f1, f2, f3⟩ := RdL.entry (ent_rdL (O2.below (bnext hb hb4))) (show m < (entriesOf y).length by omega)
              simp only [Option.some.injEq, Addr.mk.injEq, and_true] at hA'
              obtain ⟨rfl, rfl⟩ := hA'
              have hmJ : (m : Int) < ((entriesOf y).length : Int) := by omega
              have hs2 := hb4.size
              by_cases q2 : (entriesOf y)[m].seq = (entriesOf y)[k].seq
              · have H := Lib.hid (tf_false (show ¬ shelvesP y from fun h => by
                  have h3 := List.pairwise_iff_getElem.1 h.2.2.2 m k (by rw [List.length_map]; omega) (by rw [List.length_map]; omega) (by omega)
                  rw [List.getElem_map, List.getElem_map] at h3
                  exact h3 q2))
                have q2' : ((entriesOf y)[m].seq == (entriesOf y)[k].seq) = true := beq_iff_eq.2 q2
                clear q2
                go_wp2
                go_quiet (fail)
                go_wp2
                go_ret
                exact ⟨ret_bool H.out.symm, bdrewN (bnext B1 hb4) _⟩
              · have S : Hid (noneSeq (entriesOf y) k (m + 1)) := fun j hj hk' hjm => by
                  by_cases e : j = m
                  · subst e; exact q2
                  · exact hno.out j hj hk' (by omega)
                have q2' : ((entriesOf y)[m].seq == (entriesOf y)[k].seq) = false := beq_eq_false_iff_ne.2 q2
                clear q2
                go_wp2
                go_quiet (fail)
                go_wp2
                first
                  | exact ⟨⟨m + 1, by omega, by go_num, S, bdrewN hb4 _⟩, by simp [intOf]; omega⟩
                  | (refine ⟨?_, by simp [intOf]; omega⟩; (repeat apply Exists.intro); first | exact ⟨⟨m + 1, by omega, by go_num, S, bdrewN hb4 _⟩, rfl⟩ | exact ⟨⟨m + 1, by omega, by go_num, S, bdrewN hb4 _⟩, rfl, rfl⟩ | exact ⟨⟨m + 1, by omega, by go_num, S, bdrewN hb4 _⟩, rfl, rfl, rfl⟩ | exact ⟨⟨m + 1, by omega, by go_num, S, bdrewN hb4 _⟩, rfl, rfl, rfl, rfl⟩ | exact ⟨⟨m + 1, by omega, by go_num, S, bdrewN hb4 _⟩, rfl, rfl, rfl, rfl, rfl⟩ | exact ⟨⟨m + 1, by omega, by go_num, S, bdrewN hb4 _⟩, rfl, rfl, rfl, rfl, rfl, rfl⟩ | exact ⟨⟨m + 1, by omega, by go_num, S, bdrewN hb4 _⟩, rfl, rfl, rfl, rfl, rfl, rfl, rfl⟩ | exact ⟨⟨m + 1, by omega, by go_num, S, bdrewN hb4 _⟩, rfl, rfl, rfl, rfl, rfl, rfl, rfl, rfl⟩ | exact ⟨⟨m + 1, by omega, by go_num, S, bdrewN hb4 _⟩, rfl, rfl, rfl, rfl, rfl, rfl, rfl, rfl, rfl⟩ | exact ⟨⟨m + 1, by omega, by go_num, S, bdrewN hb4 _⟩, rfl, rfl, rfl, rfl, rfl, rfl, rfl, rfl, rfl, rfl⟩ | exact ⟨⟨m + 1, by omega, by go_num, S, bdrewN hb4 _⟩, rfl, rfl, rfl, rfl, rfl, rfl, rfl, rfl, rfl, rfl, rfl⟩ | exact ⟨⟨m + 1, by omega, by go_num, S, bdrewN hb4 _⟩, rfl, rfl, rfl, rfl, rfl, rfl, rfl, rfl, rfl, rfl, rfl, rfl⟩ | exact ⟨⟨m + 1, by omega, by go_num, S, bdrewN hb4 _⟩, rfl, rfl, rfl, rfl, rfl, rfl, rfl, rfl, rfl, rfl, rfl, rfl, rfl⟩ | exact ⟨⟨m + 1, by omega, by go_num, S, bdrewN hb4 _⟩, rfl, rfl, rfl, rfl, rfl, rfl, rfl, rfl, rfl, rfl, rfl, rfl, rfl, rfl⟩ | exact ⟨⟨m + 1, by omega, by go_num, S, bdrewN hb4 _⟩, rfl, rfl, rfl, rfl, rfl, rfl, rfl, rfl, rfl, rfl, rfl, rfl, rfl, rfl, rfl⟩)
            · have hmI : ¬ (m : Int) < (k : Int) := by omega
              have S : Hid (entsOk y.seq (entriesOf y) (k + 1)) := ents_step hok.out hlt (inB_iff.2 HQ.out) (noneSeq_not hlt (fun j hj hk' hjm => hno.out j hj hk' (by omega)) (fun j hj hjk => by
                by_cases e : j = k
                · subst e; exact HQ.out.1
                · exact (hok.out j hj (by omega)).1.1))
              go_wp2
              first
                | exact ⟨⟨k + 1, by omega, by go_num, S, bnext hb hb4⟩, by simp [intOf]; omega⟩
                | (refine ⟨?_, by simp [intOf]; omega⟩; (repeat apply Exists.intro); first | exact ⟨⟨k + 1, by omega, by go_num, S, bnext hb hb4⟩, rfl⟩ | exact ⟨⟨k + 1, by omega, by go_num, S, bnext hb hb4⟩, rfl, rfl⟩ | exact ⟨⟨k + 1, by omega, by go_num, S, bnext hb hb4⟩, rfl, rfl, rfl⟩ | exact ⟨⟨k + 1, by omega, by go_num, S, bnext hb hb4⟩, rfl, rfl, rfl, rfl⟩ | exact ⟨⟨k + 1, by omega, by go_num, S, bnext hb hb4⟩, rfl, rfl, rfl, rfl, rfl⟩ | exact ⟨⟨k + 1, by omega, by go_num, S, bnext hb hb4⟩, rfl, rfl, rfl, rfl, rfl, rfl⟩ | exact ⟨⟨k + 1, by omega, by go_num, S, bnext hb hb4⟩, rfl, rfl, rfl, rfl, rfl, rfl, rfl⟩ | exact ⟨⟨k + 1, by omega, by go_num, S, bnext hb hb4⟩, rfl, rfl, rfl, rfl, rfl, rfl, rfl, rfl⟩ | exact ⟨⟨k + 1, by omega, by go_num, S, bnext hb hb4⟩, rfl, rfl, rfl, rfl, rfl, rfl, rfl, rfl, rfl⟩ | exact ⟨⟨k + 1, by omega, by go_num, S, bnext hb hb4⟩, rfl, rfl, rfl, rfl, rfl, rfl, rfl, rfl, rfl, rfl⟩ | exact ⟨⟨k + 1, by omega, by go_num, S, bnext hb hb4⟩, rfl, rfl, rfl, rfl, rfl, rfl, rfl, rfl, rfl, rfl, rfl⟩ | exact ⟨⟨k + 1, by omega, by go_num, S, bnext hb hb4⟩, rfl, rfl, rfl, rfl, rfl, rfl, rfl, rfl, rfl, rfl, rfl, rfl⟩ | exact ⟨⟨k + 1, by omega, by go_num, S, bnext hb hb4⟩, rfl, rfl, rfl, rfl, rfl, rfl, rfl, rfl, rfl, rfl, rfl, rfl, rfl⟩ | exact ⟨⟨k + 1, by omega, by go_num, S, bnext hb hb4⟩, rfl, rfl, rfl, rfl, rfl, rfl, rfl, rfl, rfl, rfl, rfl, rfl, rfl, rfl⟩ | exact ⟨⟨k + 1, by omega, by go_num, S, bnext hb hb4⟩, rfl, rfl, rfl, rfl, rfl, rfl, rfl, rfl, rfl, rfl, rfl, rfl, rfl, rfl, rfl⟩)
        · have hltI : ¬ (k : Int) < ((entriesOf y).length : Int) := by omega
          have H := Lib.hid (tf_true (shelves_of A3_.out HS.out (fun j hj hj2 => hok.out j hj (by omega))))
          go_wp2
          go_ret
          exact ⟨ret_bool H.out.symm, bnext B0 hb⟩
end Go.Proofs.YtjobmbjadpldfaaGreat
end
section
namespace Go.Proofs.YtjobmbjadpldfaaGreat
open Go.RowKit
set_option maxRecDepth 100000
set_option maxHeartbeats 4000000
set_option linter.unusedVariables false
set_option linter.unusedSimpArgs false

theorem yard_of2 {y : Yard} (h1 : inB y.now 0 999999980 = true) (h2 : inB y.seq 1 1000000000 = true) (h3 : shelvesP y) (h6 : y.runs.length ≤ 8) (h7 : runsRight y y.runs.length) : yardP y ↔ slotsOf y ≤ 40 := by
  refine yard_of h1 h2 h3.1 (fun k hk => h3.2.1 _ (List.getElem_mem hk)) (shelves_ents h3 (Nat.le_refl _)) h6 h7
def runsRight1 (y : Yard) (k : Nat) : Prop := ∀ j (hj : j < y.runs.length), j < k → runP y.runs[j] ∧ runAt y y.runs[j].id = j
def runsStand (y : Yard) (k : Nat) : Prop := ∀ j (hj : j < y.runs.length), j < k → standP y.now y.runs[j] (entriesOf y)

theorem specYardOk_any (y : Yard) (s : Sl × Sl) (w : World) (hl : cntYard y ≤ 2000000) (h : yardD.rd w w.heap.size y s) :
    Calls Tryz.prog 25 #[yardW y s] w fun e w' => e = .returned (.bool (tf (yardP y))) ∧ Below w.heap.size w w' := by
  have HR := Lib.hid (show ∀ W, Below w.heap.size w W → yardD.rd W W.heap.size y s from fun W hW => yardD.rd_more (yardD.rd_below h hW) hW.size)
  obtain ⟨⟨A1, n1, c1⟩, ⟨A2, n2, c2⟩⟩ := s
  obtain rfl : n2 = y.runs.length := RdL.at1 (s := ⟨A2, n2, c2⟩) h.2
  have h2 : RdL runD w w.heap.size (.slice A2 y.runs.length c2) y.runs := h.2
  have hll : y.runs.length ≤ 2000000 := Nat.le_trans (cntL_len cntRun _) (by unfold cntYard at hl; omega)
  have HC := Lib.hid (show ∀ k (hk : k < y.runs.length), cntRun y.runs[k] ≤ 2000000 from fun k hk => by
    have := cntL_mem (cnt := cntRun) (List.getElem_mem hk)
    unfold cntYard at hl
    omega)
  have HEn := Lib.hid (show (entriesOf y).length ≤ 2000000 by
    have := flat_take_le y.shelf y.shelf.length
    rw [List.take_length] at this
    unfold cntYard at hl
    unfold entriesOf
    omega)
  have hsl := slots_le hl
  clear h
  have X := DBox.new 34 [.int .i64 y.now, .int .i64 y.seq, .slice A1 n1 c1, .slice A2 y.runs.length c2] w (b := w.heap.size) rfl
  have B0 : Below w.heap.size w (w.alloc (.cells #[.int .i64 y.now, .int .i64 y.seq, .slice A1 n1 c1, .slice A2 y.runs.length c2] 34)) := by repeat (first | exact Below.refl _ _ | refine Below.alloc ?_ (by simp <;> omega) _)
  cases a1 : inB y.now 0 999999980
  case false =>
    have H := Lib.hid (tf_false (show ¬ yardP y from fun h => by have := inB_iff.2 h.1; rw [a1] at this; cases this))
    go_enter Tryz.func25, Tryz.ntmps25
    go_wp2_with (go_at_call 26; refine (l01In_any _ _ _ _).mono ?_; rintro e w' ⟨rfl, rfl⟩)
    go_ret
    exact ⟨ret_bool H.out.symm, B0⟩
  cases a2 : inB y.seq 1 1000000000
  case false =>
    have H := Lib.hid (tf_false (show ¬ yardP y from fun h => by have := inB_iff.2 h.2.1; rw [a2] at this; cases this))
    go_enter Tryz.func25, Tryz.ntmps25
    go_wp2_with (go_at_call 26; refine (l01In_any _ _ _ _).mono ?_; rintro e w' ⟨rfl, rfl⟩)
    go_ret
    exact ⟨ret_bool H.out.symm, B0⟩
  by_cases a4 : y.runs.length ≤ 8
  case neg =>
    have a4' : (8 : Int) < (y.runs.length : Int) := by omega
    have H := Lib.hid (tf_false (show ¬ yardP y from fun h => a4 h.2.2.2.2.2.2.1))
    clear a4
    go_enter Tryz.func25, Tryz.ntmps25
    go_wp2_with (go_at_call 26; refine (l01In_any _ _ _ _).mono ?_; rintro e w' ⟨rfl, rfl⟩)
    go_ret
    exact ⟨ret_bool H.out.symm, B0⟩
  have a4' : ¬ (8 : Int) < (y.runs.length : Int) := by omega
  have hqb := inB_iff.1 a2
  have hnb := inB_iff.1 a1
  have C0 := specShelves_any y (⟨A1, n1, c1⟩, ⟨A2, y.runs.length, c2⟩) (w.alloc (.cells #[.int .i64 y.now, .int .i64 y.seq, .slice A1 n1 c1, .slice A2 y.runs.length c2] 34)) hl hqb (HR.out _ B0)
  by_cases a3 : shelvesP y
  case neg =>
    have H := Lib.hid (tf_false (show ¬ yardP y from fun h => a3 ⟨h.2.2.1, h.2.2.2.1, h.2.2.2.2.1, h.2.2.2.2.2.1⟩))
    rw [tf_false a3] at C0
    clear a3
    go_enter Tryz.func25, Tryz.ntmps25
    go_wp2_with (first | (go_at_call 26; refine (l01In_any _ _ _ _).mono ?_; rintro e w' ⟨rfl, rfl⟩) | (go_at_call 49; refine C0.mono ?_; rintro e w1 ⟨rfl, b1⟩))
    go_ret
    exact ⟨ret_bool H.out.symm, bnext B0 b1⟩
  rw [tf_true a3] at C0
  go_enter Tryz.func25, Tryz.ntmps25
  go_wp2_with (first | (go_at_call 26; refine (l01In_any _ _ _ _).mono ?_; rintro e w' ⟨rfl, rfl⟩) | (go_at_call 49; refine C0.mono ?_; rintro e w1 ⟨rfl, b1⟩))
  replace X := X.below b1
  replace B0 := bnext B0 b1
  clear b1 C0
  have A1_ := Lib.hid a1
  have A2_ := Lib.hid a2
  have A3_ := Lib.hid a3
  clear a1 a2 a3 a4'
  go_loopw [3] (fun i wr => ∃ k : Nat, k ≤ y.runs.length ∧ i = .int .i64 k ∧ Hid (runsRight1 y k) ∧ Below w1.heap.size w1 wr) (fun i _ => y.runs.length - (intOf i).toNat)
  case atStart => exact ⟨0, Nat.zero_le _, rfl, fun j _ h0 => absurd h0 (by omega), Below.refl _ _⟩
  case round =>
    obtain ⟨k, hk, rfl, hok, hb⟩ := hrel
    replace X := X.below hb
    replace B0 := bnext B0 hb
    have X_0 := X.cell 0 _ rfl
    have X_1 := X.cell 1 _ rfl
    have X_2 := X.cell 2 _ rfl
    have X_3 := X.cell 3 _ rfl
    have X_l := X.lt
    by_cases hlt : k < y.runs.length
    · have hltI : (k : Int) < (y.runs.length : Int) := by omega
      obtain ⟨b, o, ⟨⟨A8, n8, c8⟩, ⟨At, nt, ct⟩⟩, hA2, hbb, hrr, e0, e1, e2, e3, e4, e5, e6, e7⟩ := (h2.below B0).run hlt
      subst hA2
      have hs1 : b < wr.heap.size := Nat.lt_of_lt_of_le hbb B0.size
      have HRr := Lib.hid (show ∀ W, Below wr.heap.size wr W → runD.rd W W.heap.size y.runs[k] (⟨A8, n8, c8⟩, ⟨At, nt, ct⟩) from fun W hW => runD.rd_more (runD.rd_below (runD.rd_more hrr B0.size) hW) hW.size)
      have hcr := HC.out k hlt
      have hlc := later_cell wr
      have C1 := fun u : Later wr => specRunOk_any y.runs[k] (⟨A8, n8, c8⟩, ⟨At, nt, ct⟩) u.1 hcr (HRr.out _ u.2)
      have C2 := fun u : Later wr => specRunAt_own y (⟨A1, n1, c1⟩, ⟨some ⟨b, o, none⟩, y.runs.length, c2⟩) y.runs[k].id u.1 hl (HR.out _ (bnext B0 u.2))
      have D1 := Lib.hid C1
      have D2 := Lib.hid C2
      clear C1 C2
      by_cases q1 : runP y.runs[k]
      case neg =>
        have H := Lib.hid (tf_false (show ¬ yardP y from fun h => q1 (h.2.2.2.2.2.2.2.1 k hlt).1))
        rw [tf_false q1] at D1
        clear q1
        go_wp2
        refine wp_region_pure (by kernel_rfl) (by kernel_rfl) ?_
        repeat (go_big_quiet_step ((go_at_call 50; (with_reducible exact pure_at D1.out))))
        refine wpQuiet_nil ?_
        rintro _ ⟨⟨w3, b3⟩, rfl⟩
        clear hlc
        go_wp2
        go_ret
        exact ⟨ret_bool H.out.symm, bnext B0 b3⟩
      rw [tf_true q1] at D1
      by_cases q2 : runAt y y.runs[k].id = k
      case neg =>
        have H := Lib.hid (tf_false (show ¬ yardP y from fun h => q2 (h.2.2.2.2.2.2.2.1 k hlt).2))
        have q2' : (runAt y y.runs[k].id != (k : Int)) = true := by simp [q2]
        clear q1 q2
        go_wp2
        refine wp_region_pure (by kernel_rfl) (by kernel_rfl) ?_
        repeat (go_big_quiet_step ((first | (go_at_call 50; (with_reducible exact pure_at D1.out)) | (go_at_call 51; (with_reducible exact pure_at D2.out)))))
        refine wpQuiet_nil ?_
        rintro _ ⟨⟨w3, b3⟩, rfl⟩
        clear hlc
        go_wp2
        go_ret
        exact ⟨ret_bool H.out.symm, bnext B0 b3⟩
      have S : Hid (runsRight1 y (k + 1)) := fun j hj hjk => by
        by_cases e : j = k
        · subst e; exact ⟨q1, q2⟩
        · exact hok.out j hj (by omega)
      rw [q2] at D2
      have q2' : ((k : Int) != (k : Int)) = false := by simp
      clear q1 q2
      go_wp2
      refine wp_region_pure (by kernel_rfl) (by kernel_rfl) ?_
      repeat (go_big_quiet_step ((first | (go_at_call 50; (with_reducible exact pure_at D1.out)) | (go_at_call 51; (with_reducible exact pure_at D2.out)))))
      refine wpQuiet_nil ?_
      rintro _ ⟨⟨w3, b3⟩, rfl⟩
      clear hlc
      go_wp2
      first
        | exact ⟨⟨k + 1, by omega, by go_num, S, bnext hb b3⟩, by simp [intOf]; omega⟩
        | (refine ⟨?_, by simp [intOf]; omega⟩; (repeat apply Exists.intro); first | exact ⟨⟨k + 1, by omega, by go_num, S, bnext hb b3⟩, rfl⟩ | exact ⟨⟨k + 1, by omega, by go_num, S, bnext hb b3⟩, rfl, rfl⟩ | exact ⟨⟨k + 1, by omega, by go_num, S, bnext hb b3⟩, rfl, rfl, rfl⟩ | exact ⟨⟨k + 1, by omega, by go_num, S, bnext hb b3⟩, rfl, rfl, rfl, rfl⟩ | exact ⟨⟨k + 1, by omega, by go_num, S, bnext hb b3⟩, rfl, rfl, rfl, rfl, rfl⟩ | exact ⟨⟨k + 1, by omega, by go_num, S, bnext hb b3⟩, rfl, rfl, rfl, rfl, rfl, rfl⟩ | exact ⟨⟨k + 1, by omega, by go_num, S, bnext hb b3⟩, rfl, rfl, rfl, rfl, rfl, rfl, rfl⟩ | exact ⟨⟨k + 1, by omega, by go_num, S, bnext hb b3⟩, rfl, rfl, rfl, rfl, rfl, rfl, rfl, rfl⟩ | exact ⟨⟨k + 1, by omega, by go_num, S, bnext hb b3⟩, rfl, rfl, rfl, rfl, rfl, rfl, rfl, rfl, rfl⟩ | exact ⟨⟨k + 1, by omega, by go_num, S, bnext hb b3⟩, rfl, rfl, rfl, rfl, rfl, rfl, rfl, rfl, rfl, rfl⟩ | exact ⟨⟨k + 1, by omega, by go_num, S, bnext hb b3⟩, rfl, rfl, rfl, rfl, rfl, rfl, rfl, rfl, rfl, rfl, rfl⟩ | exact ⟨⟨k + 1, by omega, by go_num, S, bnext hb b3⟩, rfl, rfl, rfl, rfl, rfl, rfl, rfl, rfl, rfl, rfl, rfl, rfl⟩ | exact ⟨⟨k + 1, by omega, by go_num, S, bnext hb b3⟩, rfl, rfl, rfl, rfl, rfl, rfl, rfl, rfl, rfl, rfl, rfl, rfl, rfl⟩ | exact ⟨⟨k + 1, by omega, by go_num, S, bnext hb b3⟩, rfl, rfl, rfl, rfl, rfl, rfl, rfl, rfl, rfl, rfl, rfl, rfl, rfl, rfl⟩ | exact ⟨⟨k + 1, by omega, by go_num, S, bnext hb b3⟩, rfl, rfl, rfl, rfl, rfl, rfl, rfl, rfl, rfl, rfl, rfl, rfl, rfl, rfl, rfl⟩)
    · have hltI : ¬ (k : Int) < (y.runs.length : Int) := by omega
      have HR1 : Hid (runsRight1 y y.runs.length) := fun j hj _ => hok.out j hj (by omega)
      have C := specEntries_any y (⟨A1, n1, c1⟩, ⟨A2, y.runs.length, c2⟩) wr hl (HR.out _ B0)
      go_wp2_with fail
      refine C.mono ?_
      rintro e w2 ⟨v, rfl, o2, b2⟩
      replace X := X.below b2
      replace B0 := bnext B0 b2
      clear X_0 X_1 X_2 X_3 X_l hok hlt hltI hb
      have O2 := Rd.of_own o2
      clear o2
      obtain ⟨A3, c3, rfl, -⟩ := id O2
      have hel := HEn.out
      go_wp2
      go_loopw [5] (fun i wr => ∃ k : Nat, k ≤ y.runs.length ∧ i = .int .i64 k ∧ Hid (runsStand y k) ∧ Below w2.heap.size w2 wr) (fun i _ => y.runs.length - (intOf i).toNat)
      case atStart => exact ⟨0, Nat.zero_le _, rfl, fun j _ h0 => absurd h0 (by omega), Below.refl _ _⟩
      case round =>
        obtain ⟨k, hk, rfl, hok, hb⟩ := hrel
        replace X := X.below hb
        replace B0 := bnext B0 hb
        have X_0 := X.cell 0 _ rfl
        have X_1 := X.cell 1 _ rfl
        have X_2 := X.cell 2 _ rfl
        have X_3 := X.cell 3 _ rfl
        have X_l := X.lt
        by_cases hlt : k < y.runs.length
        · have hltI : (k : Int) < (y.runs.length : Int) := by omega
          obtain ⟨b, o, ⟨⟨A8, n8, c8⟩, ⟨At, nt, ct⟩⟩, hA2, hbb, hrr, e0, e1, e2, e3, e4, e5, e6, e7⟩ := (h2.below B0).run hlt
          subst hA2
          have hs1 : b < wr.heap.size := Nat.lt_of_lt_of_le hbb B0.size
          have HRr := Lib.hid (show ∀ W, Below wr.heap.size wr W → runD.rd W W.heap.size y.runs[k] (⟨A8, n8, c8⟩, ⟨At, nt, ct⟩) from fun W hW => runD.rd_more (runD.rd_below (runD.rd_more hrr B0.size) hW) hW.size)
          have hcr := HC.out k hlt
          have hwt := wait_of (HR1.out k hlt hlt).1.2.1
          have htl : y.runs[k].tasks.length ≤ 2000000 := Nat.le_trans (cntL_len cntTask _) (by unfold cntRun at hcr; omega)
          have hlc := later_cell wr
          have D3 := Lib.hid (show ∀ u : Later wr, _ from fun u => specStand_any y (⟨A1, n1, c1⟩, ⟨some ⟨b, o, none⟩, y.runs.length, c2⟩) y.runs[k] (⟨A8, n8, c8⟩, ⟨At, nt, ct⟩) (entriesOf y) ⟨A3, (entriesOf y).length, c3⟩ u.1 htl hel hnb hwt (HRr.out _ u.2) ((O2.below (bnext hb u.2)).more (bnext hb u.2).size))
          by_cases q3 : standP y.now y.runs[k] (entriesOf y)
          case neg =>
            have H := Lib.hid (tf_false (show ¬ yardP y from fun h => q3 (h.2.2.2.2.2.2.2.2.1 _ (List.getElem_mem hlt))))
            rw [tf_false q3] at D3
            clear q3
            go_wp2
            refine wp_region_pure (by kernel_rfl) (by kernel_rfl) ?_
            repeat (go_big_quiet_step ((go_at_call 53; (with_reducible exact pure_at D3.out))))
            refine wpQuiet_nil ?_
            rintro _ ⟨⟨w3, b3⟩, rfl⟩
            clear hlc
            go_wp2
            go_ret
            exact ⟨ret_bool H.out.symm, bnext B0 b3⟩
          have S : Hid (runsStand y (k + 1)) := fun j hj hjk => by
            by_cases e : j = k
            · subst e; exact q3
            · exact hok.out j hj (by omega)
          rw [tf_true q3] at D3
          clear q3
          go_wp2
          refine wp_region_pure (by kernel_rfl) (by kernel_rfl) ?_
          repeat (go_big_quiet_step ((go_at_call 53; (with_reducible exact pure_at D3.out))))
          refine wpQuiet_nil ?_
          rintro _ ⟨⟨w3, b3⟩, rfl⟩
          clear hlc
          go_wp2
          first
            | exact ⟨⟨k + 1, by omega, by go_num, S, bnext hb b3⟩, by simp [intOf]; omega⟩
            | (refine ⟨?_, by simp [intOf]; omega⟩; (repeat apply Exists.intro); first | exact ⟨⟨k + 1, by omega, by go_num, S, bnext hb b3⟩, rfl⟩ | exact ⟨⟨k + 1, by omega, by go_num, S, bnext hb b3⟩, rfl, rfl⟩ | exact ⟨⟨k + 1, by omega, by go_num, S, bnext hb b3⟩, rfl, rfl, rfl⟩ | exact ⟨⟨k + 1, by omega, by go_num, S, bnext hb b3⟩, rfl, rfl, rfl, rfl⟩ | exact ⟨⟨k + 1, by omega, by go_num, S, bnext hb b3⟩, rfl, rfl, rfl, rfl, rfl⟩ | exact ⟨⟨k + 1, by omega, by go_num, S, bnext hb b3⟩, rfl, rfl, rfl, rfl, rfl, rfl⟩ | exact ⟨⟨k + 1, by omega, by go_num, S, bnext hb b3⟩, rfl, rfl, rfl, rfl, rfl, rfl, rfl⟩ | exact ⟨⟨k + 1, by omega, by go_num, S, bnext hb b3⟩, rfl, rfl, rfl, rfl, rfl, rfl, rfl, rfl⟩ | exact ⟨⟨k + 1, by omega, by go_num, S, bnext hb b3⟩, rfl, rfl, rfl, rfl, rfl, rfl, rfl, rfl, rfl⟩ | exact ⟨⟨k + 1, by omega, by go_num, S, bnext hb b3⟩, rfl, rfl, rfl, rfl, rfl, rfl, rfl, rfl, rfl, rfl⟩ | exact ⟨⟨k + 1, by omega, by go_num, S, bnext hb b3⟩, rfl, rfl, rfl, rfl, rfl, rfl, rfl, rfl, rfl, rfl, rfl⟩ | exact ⟨⟨k + 1, by omega, by go_num, S, bnext hb b3⟩, rfl, rfl, rfl, rfl, rfl, rfl, rfl, rfl, rfl, rfl, rfl, rfl⟩ | exact ⟨⟨k + 1, by omega, by go_num, S, bnext hb b3⟩, rfl, rfl, rfl, rfl, rfl, rfl, rfl, rfl, rfl, rfl, rfl, rfl, rfl⟩ | exact ⟨⟨k + 1, by omega, by go_num, S, bnext hb b3⟩, rfl, rfl, rfl, rfl, rfl, rfl, rfl, rfl, rfl, rfl, rfl, rfl, rfl, rfl⟩ | exact ⟨⟨k + 1, by omega, by go_num, S, bnext hb b3⟩, rfl, rfl, rfl, rfl, rfl, rfl, rfl, rfl, rfl, rfl, rfl, rfl, rfl, rfl, rfl⟩)
        · have hltI : ¬ (k : Int) < (y.runs.length : Int) := by omega
          have HRt : Hid (runsRight y y.runs.length) := fun j hj hj2 => ⟨(HR1.out j hj hj2).1, (HR1.out j hj hj2).2, hok.out j hj (by omega)⟩
          have HF := Lib.hid (yard_of2 A1_.out A2_.out A3_.out a4 HRt.out)
          have C := specSlots_any y (⟨A1, n1, c1⟩, ⟨A2, y.runs.length, c2⟩) wr hl (HR.out _ B0)
          go_wp2_with fail
          refine C.mono ?_
          rintro e w7 ⟨rfl, b7⟩
          have HT := Lib.hid (show tf (yardP y) = decide ((slotsOf y : Int) ≤ 40) by
            rw [Bool.eq_iff_iff, tf_iff, HF.out, decide_eq_true_eq]
            omega)
          generalize slotsOf y = N at *
          by_cases q : N ≤ 40
          · have H := Lib.hid (show tf (yardP y) = true by rw [HT.out]; exact decide_eq_true (by omega))
            go_wp2
            go_ret
            exact ⟨ret_bool (by rw [H.out]; exact decide_eq_true (by omega)), bnext B0 b7⟩
          · have H := Lib.hid (show tf (yardP y) = false by rw [HT.out]; exact decide_eq_false (by omega))
            go_wp2
            go_ret
            exact ⟨ret_bool (by rw [H.out]; exact decide_eq_false (by omega)), bnext B0 b7⟩
end Go.Proofs.YtjobmbjadpldfaaGreat
end
section
namespace Go.Proofs.YtjobmbjadpldfaaGreat
open Go.RowKit
set_option maxRecDepth 100000
set_option maxHeartbeats 2000000
set_option linter.unusedVariables false
set_option linter.unusedSimpArgs false

def memosOk (f : Int) (l : List Memo) (k : Nat) : Prop := ∀ j (hj : j < l.length), j < k → (f ≤ l[j].id ∧ l[j].id ≤ 1000000000) ∧ (∀ h0 : 0 < j, l[j - 1].id < l[j].id)
def deskP (k : Desk) : Prop := yardP k.yard ∧ k.memos.length ≤ 40 ∧ (1 ≤ k.fr ∧ k.fr ≤ 1000000000) ∧ memosOk k.fr k.memos k.memos.length
theorem memos_step {f : Int} {l : List Memo} {k : Nat} (h : memosOk f l k) (hk : k < l.length) (h1 : inB l[k].id f 1000000000 = true) (h2 : ∀ h0 : 0 < k, l[k - 1].id < l[k].id) : memosOk f l (k + 1) := by
  intro j hj hjk
  by_cases e : j = k
  · subst e; exact ⟨inB_iff.1 h1, h2⟩
  · exact h j hj (by omega)

theorem specDeskOk_own (k : Desk) (s : (Sl × Sl) × Sl) (w : World) (hm0 : cntDesk k ≤ 2000000) (h : deskD.rd w w.heap.size k s) :
    Calls Tryz.prog 7 #[deskW k s] w fun e w' => e = .returned (.bool (tf (deskP k))) ∧ Below w.heap.size w w' := by
  have HR := Lib.hid (show ∀ W, Below w.heap.size w W → deskD.rd W W.heap.size k s from fun W hW => deskD.rd_more (deskD.rd_below h hW) hW.size)
  obtain ⟨⟨⟨A1, n1, c1⟩, ⟨A2, n2, c2⟩⟩, ⟨A3, n3, c3⟩⟩ := s
  obtain rfl : n3 = k.memos.length := RdL.at1 (s := ⟨A3, n3, c3⟩) h.2
  have h3 : RdL memoD w w.heap.size (.slice A3 k.memos.length c3) k.memos := h.2
  have hl : cntYard k.yard ≤ 2000000 := by unfold cntDesk at hm0; omega
  have hll : k.memos.length ≤ 2000000 := Nat.le_trans (cntL_len cntMemo _) (by unfold cntDesk at hm0; omega)
  clear h
  have X := DBox.new 37 [.int .i64 k.yard.now, .int .i64 k.yard.seq, .slice A1 n1 c1, .slice A2 n2 c2, .slice A3 k.memos.length c3, .int .i64 k.fr] w (b := w.heap.size) rfl
  have B0 : Below w.heap.size w (w.alloc (.cells #[.int .i64 k.yard.now, .int .i64 k.yard.seq, .slice A1 n1 c1, .slice A2 n2 c2, .slice A3 k.memos.length c3, .int .i64 k.fr] 37)) := by repeat (first | exact Below.refl _ _ | refine Below.alloc ?_ (by simp <;> omega) _)
  have X_l := X.lt
  have C1 := specYardOk_any k.yard (⟨A1, n1, c1⟩, ⟨A2, n2, c2⟩) (w.alloc (.cells #[.int .i64 k.yard.now, .int .i64 k.yard.seq, .slice A1 n1 c1, .slice A2 n2 c2, .slice A3 k.memos.length c3, .int .i64 k.fr] 37)) hl (HR.out _ B0).1
  by_cases p1 : yardP k.yard
  case neg =>
    have H := Lib.hid (tf_false (show ¬ deskP k from fun h => p1 h.1))
    rw [tf_false p1] at C1
    clear p1
    go_enter Tryz.func7, Tryz.ntmps7
    go_wp2_with (go_at_call 25; refine C1.mono ?_; rintro e w1 ⟨rfl, b1⟩)
    go_ret
    exact ⟨ret_bool H.out.symm, bnext B0 b1⟩
  rw [tf_true p1] at C1
  by_cases p2 : k.memos.length ≤ 40
  case neg =>
    have H := Lib.hid (tf_false (show ¬ deskP k from fun h => p2 h.2.1))
    have p2' : (40 : Int) < (k.memos.length : Int) := by omega
    clear p1 p2
    go_enter Tryz.func7, Tryz.ntmps7
    go_wp2_with (go_at_call 25; refine C1.mono ?_; rintro e w1 ⟨rfl, b1⟩; have q1 := fun j => (bcell b1).1 w.heap.size j X_l)
    go_ret
    exact ⟨ret_bool H.out.symm, bnext B0 b1⟩
  have p2' : ¬ (40 : Int) < (k.memos.length : Int) := by omega
  cases p3 : inB k.fr 1 1000000000
  case false =>
    have H := Lib.hid (tf_false (show ¬ deskP k from fun h => by have := inB_iff.2 h.2.2.1; rw [p3] at this; cases this))
    clear p1
    go_enter Tryz.func7, Tryz.ntmps7
    go_wp2_with (first | (go_at_call 25; refine C1.mono ?_; rintro e w1 ⟨rfl, b1⟩; have q1 := fun j => (bcell b1).1 w.heap.size j X_l) | (go_at_call 26; refine (l01In_any _ _ _ _).mono ?_; rintro e w' ⟨rfl, rfl⟩))
    go_ret
    exact ⟨ret_bool H.out.symm, bnext B0 b1⟩
  have P1 := Lib.hid p1
  clear p1
  go_enter Tryz.func7, Tryz.ntmps7
  go_wp2_with (first | (go_at_call 25; refine C1.mono ?_; rintro e w1 ⟨rfl, b1⟩; have q1 := fun j => (bcell b1).1 w.heap.size j X_l) | (go_at_call 26; refine (l01In_any _ _ _ _).mono ?_; rintro e w' ⟨rfl, rfl⟩))
  have P3 := Lib.hid (inB_iff.1 p3)
  clear q1 p2' p3 X_l C1
  replace X := X.below b1
  replace B0 := bnext B0 b1
  go_loopw [3] (fun i wr => ∃ j : Nat, j ≤ k.memos.length ∧ i = .int .i64 j ∧ Hid (memosOk k.fr k.memos j) ∧ Below w1.heap.size w1 wr) (fun i _ => k.memos.length - (intOf i).toNat)
  case atStart => exact ⟨0, Nat.zero_le _, rfl, fun j _ h0 => absurd h0 (by omega), Below.refl _ _⟩
  case round =>
    obtain ⟨j, hj, rfl, hok, hb⟩ := hrel
    replace X := X.below hb
    replace B0 := bnext B0 hb
    have X_0 := X.cell 0 _ rfl
    have X_1 := X.cell 1 _ rfl
    have X_2 := X.cell 2 _ rfl
    have X_3 := X.cell 3 _ rfl
    have X_4 := X.cell 4 _ rfl
    have X_5 := X.cell 5 _ rfl
    have X_l := X.lt
    by_cases hlt : j < k.memos.length
    · have hltI : (j : Int) < (k.memos.length : Int) := by omega
      obtain ⟨b, o, _, hA3, hbb, _, d0, d1, d2, d3, d4⟩ := (h3.below B0).memo hlt
      subst hA3
      have hs1 : b < wr.heap.size := Nat.lt_of_lt_of_le hbb B0.size
      have bad : (inB k.memos[j].id k.fr 1000000000 = false ∨ ∃ h0 : 0 < j, k.memos[j].id ≤ k.memos[j - 1].id) → Hid (tf (deskP k) = false) := fun hh => tf_false (fun h => by
        have h1 := h.2.2.2 j hlt hlt
        rcases hh with hh | ⟨h0, hh⟩
        · have := inB_iff.2 h1.1
          rw [hh] at this
          cases this
        · have := h1.2 h0
          omega)
      have step := Lib.hid (memos_step hok.out hlt)
      cases q1 : inB k.memos[j].id k.fr 1000000000
      · have H := bad (.inl q1)
        clear bad
        have hlc := later_cell wr
        go_wp2
        refine wp_region_pure (by kernel_rfl) (by kernel_rfl) ?_
        repeat (go_big_quiet_step ((go_at_call 26; exact pure_same (fun u => l01In_any _ _ _ u.1))))
        refine wpQuiet_nil ?_
        rintro _ ⟨⟨w3, b3⟩, rfl⟩
        clear hlc
        go_wp2
        go_ret
        exact ⟨ret_bool H.out.symm, bnext B0 b3⟩
      · by_cases hj0 : j = 0
        · subst hj0
          have S := Lib.hid (step.out q1 (fun h0 => absurd h0 (by omega)))
          clear bad
          simp only [Nat.zero_mul, Nat.add_zero] at d0 d1 d2 d3 d4
          have hlc := later_cell wr
          go_wp2
          refine wp_region_pure (by kernel_rfl) (by kernel_rfl) ?_
          repeat (go_big_quiet_step ((go_at_call 26; exact pure_same (fun u => l01In_any _ _ _ u.1))))
          refine wpQuiet_nil ?_
          rintro _ ⟨⟨w3, b3⟩, rfl⟩
          clear hlc
          go_wp2
          first
            | exact ⟨⟨0 + 1, by omega, by go_num, S, bnext hb b3⟩, by simp [intOf]; omega⟩
            | (refine ⟨?_, by simp [intOf]; omega⟩; (repeat apply Exists.intro); first | exact ⟨⟨0 + 1, by omega, by go_num, S, bnext hb b3⟩, rfl⟩ | exact ⟨⟨0 + 1, by omega, by go_num, S, bnext hb b3⟩, rfl, rfl⟩ | exact ⟨⟨0 + 1, by omega, by go_num, S, bnext hb b3⟩, rfl, rfl, rfl⟩ | exact ⟨⟨0 + 1, by omega, by go_num, S, bnext hb b3⟩, rfl, rfl, rfl, rfl⟩ | exact ⟨⟨0 + 1, by omega, by go_num, S, bnext hb b3⟩, rfl, rfl, rfl, rfl, rfl⟩ | exact ⟨⟨0 + 1, by omega, by go_num, S, bnext hb b3⟩, rfl, rfl, rfl, rfl, rfl, rfl⟩ | exact ⟨⟨0 + 1, by omega, by go_num, S, bnext hb b3⟩, rfl, rfl, rfl, rfl, rfl, rfl, rfl⟩ | exact ⟨⟨0 + 1, by omega, by go_num, S, bnext hb b3⟩, rfl, rfl, rfl, rfl, rfl, rfl, rfl, rfl⟩ | exact ⟨⟨0 + 1, by omega, by go_num, S, bnext hb b3⟩, rfl, rfl, rfl, rfl, rfl, rfl, rfl, rfl, rfl⟩ | exact ⟨⟨0 + 1, by omega, by go_num, S, bnext hb b3⟩, rfl, rfl, rfl, rfl, rfl, rfl, rfl, rfl, rfl, rfl⟩ | exact ⟨⟨0 + 1, by omega, by go_num, S, bnext hb b3⟩, rfl, rfl, rfl, rfl, rfl, rfl, rfl, rfl, rfl, rfl, rfl⟩ | exact ⟨⟨0 + 1, by omega, by go_num, S, bnext hb b3⟩, rfl, rfl, rfl, rfl, rfl, rfl, rfl, rfl, rfl, rfl, rfl, rfl⟩ | exact ⟨⟨0 + 1, by omega, by go_num, S, bnext hb b3⟩, rfl, rfl, rfl, rfl, rfl, rfl, rfl, rfl, rfl, rfl, rfl, rfl, rfl⟩ | exact ⟨⟨0 + 1, by omega, by go_num, S, bnext hb b3⟩, rfl, rfl, rfl, rfl, rfl, rfl, rfl, rfl, rfl, rfl, rfl, rfl, rfl, rfl⟩ | exact ⟨⟨0 + 1, by omega, by go_num, S, bnext hb b3⟩, rfl, rfl, rfl, rfl, rfl, rfl, rfl, rfl, rfl, rfl, rfl, rfl, rfl, rfl, rfl⟩)
        · obtain ⟨b', o', _, hA', hbb', _, f0, f1, f2, f3, f4⟩ := (h3.below B0).memo (k := j - 1) (by omega)
          simp only [Option.some.injEq, Addr.mk.injEq, and_true] at hA'
          obtain ⟨rfl, rfl⟩ := hA'
          have hkp : 0 < j := by omega
          have hkI : (0 : Int) < (j : Int) := by omega
          by_cases q2 : k.memos[j].id ≤ k.memos[j - 1].id
          · have H := bad (.inr ⟨hkp, q2⟩)
            have q2' : decide (k.memos[j].id ≤ k.memos[j - 1].id) = true := decide_eq_true q2
            clear bad q2
            have hlc := later_cell wr
            go_wp2
            refine wp_region_pure (by kernel_rfl) (by kernel_rfl) ?_
            repeat (go_big_quiet_step ((go_at_call 26; exact pure_same (fun u => l01In_any _ _ _ u.1))))
            refine wpQuiet_nil ?_
            rintro _ ⟨⟨w3, b3⟩, rfl⟩
            clear hlc
            go_wp2
            go_ret
            exact ⟨ret_bool H.out.symm, bnext B0 b3⟩
          · have S := Lib.hid (step.out q1 (fun _ => by omega))
            have q2' : decide (k.memos[j].id ≤ k.memos[j - 1].id) = false := decide_eq_false q2
            clear bad q2
            have hlc := later_cell wr
            go_wp2
            refine wp_region_pure (by kernel_rfl) (by kernel_rfl) ?_
            repeat (go_big_quiet_step ((go_at_call 26; exact pure_same (fun u => l01In_any _ _ _ u.1))))
            refine wpQuiet_nil ?_
            rintro _ ⟨⟨w3, b3⟩, rfl⟩
            clear hlc
            go_wp2
            first
              | exact ⟨⟨j + 1, by omega, by go_num, S, bnext hb b3⟩, by simp [intOf]; omega⟩
              | (refine ⟨?_, by simp [intOf]; omega⟩; (repeat apply Exists.intro); first | exact ⟨⟨j + 1, by omega, by go_num, S, bnext hb b3⟩, rfl⟩ | exact ⟨⟨j + 1, by omega, by go_num, S, bnext hb b3⟩, rfl, rfl⟩ | exact ⟨⟨j + 1, by omega, by go_num, S, bnext hb b3⟩, rfl, rfl, rfl⟩ | exact ⟨⟨j + 1, by omega, by go_num, S, bnext hb b3⟩, rfl, rfl, rfl, rfl⟩ | exact ⟨⟨j + 1, by omega, by go_num, S, bnext hb b3⟩, rfl, rfl, rfl, rfl, rfl⟩ | exact ⟨⟨j + 1, by omega, by go_num, S, bnext hb b3⟩, rfl, rfl, rfl, rfl, rfl, rfl⟩ | exact ⟨⟨j + 1, by omega, by go_num, S, bnext hb b3⟩, rfl, rfl, rfl, rfl, rfl, rfl, rfl⟩ | exact ⟨⟨j + 1, by omega, by go_num, S, bnext hb b3⟩, rfl, rfl, rfl, rfl, rfl, rfl, rfl, rfl⟩ | exact ⟨⟨j + 1, by omega, by go_num, S, bnext hb b3⟩, rfl, rfl, rfl, rfl, rfl, rfl, rfl, rfl, rfl⟩ | exact ⟨⟨j + 1, by omega, by go_num, S, bnext hb b3⟩, rfl, rfl, rfl, rfl, rfl, rfl, rfl, rfl, rfl, rfl⟩ | exact ⟨⟨j + 1, by omega, by go_num, S, bnext hb b3⟩, rfl, rfl, rfl, rfl, rfl, rfl, rfl, rfl, rfl, rfl, rfl⟩ | exact ⟨⟨j + 1, by omega, by go_num, S, bnext hb b3⟩, rfl, rfl, rfl, rfl, rfl, rfl, rfl, rfl, rfl, rfl, rfl, rfl⟩ | exact ⟨⟨j + 1, by omega, by go_num, S, bnext hb b3⟩, rfl, rfl, rfl, rfl, rfl, rfl, rfl, rfl, rfl, rfl, rfl, rfl, rfl⟩ | exact ⟨⟨j + 1, by omega, by go_num, S, bnext hb b3⟩, rfl, rfl, rfl, rfl, rfl, rfl, rfl, rfl, rfl, rfl, rfl, rfl, rfl, rfl⟩ | exact ⟨⟨j + 1, by omega, by go_num, S, bnext hb b3⟩, rfl, rfl, rfl, rfl, rfl, rfl, rfl, rfl, rfl, rfl, rfl, rfl, rfl, rfl, rfl⟩)
    · have hltI : ¬ (j : Int) < (k.memos.length : Int) := by omega
      have H := Lib.hid (tf_true (show deskP k from ⟨P1.out, p2, P3.out, fun i hi _ => hok.out i hi (by omega)⟩))
      go_wp2
      go_ret
      exact ⟨ret_bool H.out.symm, B0⟩

theorem implDeskOk_own (k : Desk) (s : (Sl × Sl) × Sl) (w : World) (hm0 : cntDesk k ≤ 2000000) (h : deskD.rd w w.heap.size k s) :
    Calls Tryz.prog 9 #[deskW k s] w fun e w' => e = .returned (.bool (tf (deskP k))) ∧ Below w.heap.size w w' := by
  have HR := Lib.hid (show ∀ W, Below w.heap.size w W → deskD.rd W W.heap.size k s from fun W hW => deskD.rd_more (deskD.rd_below h hW) hW.size)
  obtain ⟨⟨⟨A1, n1, c1⟩, ⟨A2, n2, c2⟩⟩, ⟨A3, n3, c3⟩⟩ := s
  obtain rfl : n3 = k.memos.length := RdL.at1 (s := ⟨A3, n3, c3⟩) h.2
  have h3 : RdL memoD w w.heap.size (.slice A3 k.memos.length c3) k.memos := h.2
  have hl : cntYard k.yard ≤ 2000000 := by unfold cntDesk at hm0; omega
  have hll : k.memos.length ≤ 2000000 := Nat.le_trans (cntL_len cntMemo _) (by unfold cntDesk at hm0; omega)
  clear h
  have X := DBox.new 37 [.int .i64 k.yard.now, .int .i64 k.yard.seq, .slice A1 n1 c1, .slice A2 n2 c2, .slice A3 k.memos.length c3, .int .i64 k.fr] w (b := w.heap.size) rfl
  have B0 : Below w.heap.size w (w.alloc (.cells #[.int .i64 k.yard.now, .int .i64 k.yard.seq, .slice A1 n1 c1, .slice A2 n2 c2, .slice A3 k.memos.length c3, .int .i64 k.fr] 37)) := by repeat (first | exact Below.refl _ _ | refine Below.alloc ?_ (by simp <;> omega) _)
  have X_l := X.lt
  have C1 := implYardOk_any k.yard (⟨A1, n1, c1⟩, ⟨A2, n2, c2⟩) (w.alloc (.cells #[.int .i64 k.yard.now, .int .i64 k.yard.seq, .slice A1 n1 c1, .slice A2 n2 c2, .slice A3 k.memos.length c3, .int .i64 k.fr] 37)) hl (HR.out _ B0).1
  by_cases p1 : yardP k.yard
  case neg =>
    have H := Lib.hid (tf_false (show ¬ deskP k from fun h => p1 h.1))
    rw [tf_false p1] at C1
    clear p1
    go_enter Tryz.func9, Tryz.ntmps9
    go_wp2_with (go_at_call 28; refine C1.mono ?_; rintro e w1 ⟨rfl, b1⟩)
    go_ret
    exact ⟨ret_bool H.out.symm, bnext B0 b1⟩
  rw [tf_true p1] at C1
  by_cases p2 : k.memos.length ≤ 40
  case neg =>
    have H := Lib.hid (tf_false (show ¬ deskP k from fun h => p2 h.2.1))
    have p2' : (40 : Int) < (k.memos.length : Int) := by omega
    clear p1 p2
    go_enter Tryz.func9, Tryz.ntmps9
    go_wp2_with (go_at_call 28; refine C1.mono ?_; rintro e w1 ⟨rfl, b1⟩; have q1 := fun j => (bcell b1).1 w.heap.size j X_l)
    go_ret
    exact ⟨ret_bool H.out.symm, bnext B0 b1⟩
  have p2' : ¬ (40 : Int) < (k.memos.length : Int) := by omega
  cases p3 : inB k.fr 1 1000000000
  case false =>
    have H := Lib.hid (tf_false (show ¬ deskP k from fun h => by have := inB_iff.2 h.2.2.1; rw [p3] at this; cases this))
    clear p1
    go_enter Tryz.func9, Tryz.ntmps9
    go_wp2_with (first | (go_at_call 28; refine C1.mono ?_; rintro e w1 ⟨rfl, b1⟩; have q1 := fun j => (bcell b1).1 w.heap.size j X_l) | (go_at_call 29; refine (within_any _ _ _ _).mono ?_; rintro e w' ⟨rfl, rfl⟩))
    go_ret
    exact ⟨ret_bool H.out.symm, bnext B0 b1⟩
  have P1 := Lib.hid p1
  clear p1
  go_enter Tryz.func9, Tryz.ntmps9
  go_wp2_with (first | (go_at_call 28; refine C1.mono ?_; rintro e w1 ⟨rfl, b1⟩; have q1 := fun j => (bcell b1).1 w.heap.size j X_l) | (go_at_call 29; refine (within_any _ _ _ _).mono ?_; rintro e w' ⟨rfl, rfl⟩))
  have P3 := Lib.hid (inB_iff.1 p3)
  clear q1 p2' p3 X_l C1
  replace X := X.below b1
  replace B0 := bnext B0 b1
  go_loopw [24] (fun i wr => ∃ j : Nat, j ≤ k.memos.length ∧ i = .int .i64 j ∧ Hid (memosOk k.fr k.memos j) ∧ Below w1.heap.size w1 wr) (fun i _ => k.memos.length - (intOf i).toNat)
  case atStart => exact ⟨0, Nat.zero_le _, rfl, fun j _ h0 => absurd h0 (by omega), Below.refl _ _⟩
  case round =>
    obtain ⟨j, hj, rfl, hok, hb⟩ := hrel
    replace X := X.below hb
    replace B0 := bnext B0 hb
    have X_0 := X.cell 0 _ rfl
    have X_1 := X.cell 1 _ rfl
    have X_2 := X.cell 2 _ rfl
    have X_3 := X.cell 3 _ rfl
    have X_4 := X.cell 4 _ rfl
    have X_5 := X.cell 5 _ rfl
    have X_l := X.lt
    by_cases hlt : j < k.memos.length
    · have hltI : (j : Int) < (k.memos.length : Int) := by omega
      obtain ⟨b, o, _, hA3, hbb, _, d0, d1, d2, d3, d4⟩ := (h3.below B0).memo hlt
      subst hA3
      have hs1 : b < wr.heap.size := Nat.lt_of_lt_of_le hbb B0.size
      have bad : (inB k.memos[j].id k.fr 1000000000 = false ∨ ∃ h0 : 0 < j, k.memos[j].id ≤ k.memos[j - 1].id) → Hid (tf (deskP k) = false) := fun hh => tf_false (fun h => by
        have h1 := h.2.2.2 j hlt hlt
        rcases hh with hh | ⟨h0, hh⟩
        · have := inB_iff.2 h1.1
          rw [hh] at this
          cases this
        · have := h1.2 h0
          omega)
      have step := Lib.hid (memos_step hok.out hlt)
      cases q1 : inB k.memos[j].id k.fr 1000000000
      · have H := bad (.inl q1)
        clear bad
        have ha := (Below.refl wr.heap.size wr).alloc (Nat.le_refl _) (.cells #[.int .i64 k.memos[j].id, .int .i64 k.memos[j].reply.code, .int .i64 k.memos[j].reply.run, .int .i64 k.memos[j].reply.task, .int .i64 k.memos[j].reply.try_] 61)
        have T := DBox.new 61 [.int .i64 k.memos[j].id, .int .i64 k.memos[j].reply.code, .int .i64 k.memos[j].reply.run, .int .i64 k.memos[j].reply.task, .int .i64 k.memos[j].reply.try_] wr rfl
        go_wp2
        generalize wr.alloc (.cells #[.int .i64 k.memos[j].id, .int .i64 k.memos[j].reply.code, .int .i64 k.memos[j].reply.run, .int .i64 k.memos[j].reply.task, .int .i64 k.memos[j].reply.try_] 61) = W2 at *
        have X2 := X.below ha
        have X2_0 := X2.cell 0 _ rfl
        have X2_1 := X2.cell 1 _ rfl
        have X2_2 := X2.cell 2 _ rfl
        have X2_3 := X2.cell 3 _ rfl
        have X2_4 := X2.cell 4 _ rfl
        have X2_5 := X2.cell 5 _ rfl
        have X2_l := X2.lt
        have T_0 := T.cell 0 _ rfl
        have T_1 := T.cell 1 _ rfl
        have T_2 := T.cell 2 _ rfl
        have T_3 := T.cell 3 _ rfl
        have T_4 := T.cell 4 _ rfl
        have T_l := T.lt
        have d0' : W2.cell? ⟨b, o + j * 5, none⟩ = some (.int .i64 k.memos[j].id) := (ha.cell (p := ⟨b, o + j * 5, none⟩) hs1).trans d0
        have hs2 : b < W2.heap.size := Nat.lt_of_lt_of_le hs1 ha.size
        have hlc := later_cell W2
        refine wp_region_pure (by kernel_rfl) (by kernel_rfl) ?_
        repeat (go_big_quiet_step ((go_at_call 29; exact pure_same (fun u => within_any _ _ _ u.1))))
        refine wpQuiet_nil ?_
        rintro _ ⟨⟨w3, b3⟩, rfl⟩
        clear hlc
        go_wp2
        go_ret
        exact ⟨ret_bool H.out.symm, bnext (bnext B0 ha) b3⟩
      · by_cases hj0 : j = 0
        · subst hj0
          have S := Lib.hid (step.out q1 (fun h0 => absurd h0 (by omega)))
          clear bad
          simp only [Nat.zero_mul, Nat.add_zero] at d0 d1 d2 d3 d4
          have ha := (Below.refl wr.heap.size wr).alloc (Nat.le_refl _) (.cells #[.int .i64 k.memos[0].id, .int .i64 k.memos[0].reply.code, .int .i64 k.memos[0].reply.run, .int .i64 k.memos[0].reply.task, .int .i64 k.memos[0].reply.try_] 61)
          have T := DBox.new 61 [.int .i64 k.memos[0].id, .int .i64 k.memos[0].reply.code, .int .i64 k.memos[0].reply.run, .int .i64 k.memos[0].reply.task, .int .i64 k.memos[0].reply.try_] wr rfl
          go_wp2
          generalize wr.alloc (.cells #[.int .i64 k.memos[0].id, .int .i64 k.memos[0].reply.code, .int .i64 k.memos[0].reply.run, .int .i64 k.memos[0].reply.task, .int .i64 k.memos[0].reply.try_] 61) = W2 at *
          have X2 := X.below ha
          have X2_0 := X2.cell 0 _ rfl
          have X2_1 := X2.cell 1 _ rfl
          have X2_2 := X2.cell 2 _ rfl
          have X2_3 := X2.cell 3 _ rfl
          have X2_4 := X2.cell 4 _ rfl
          have X2_5 := X2.cell 5 _ rfl
          have X2_l := X2.lt
          have T_0 := T.cell 0 _ rfl
          have T_1 := T.cell 1 _ rfl
          have T_2 := T.cell 2 _ rfl
          have T_3 := T.cell 3 _ rfl
          have T_4 := T.cell 4 _ rfl
          have T_l := T.lt
          have d0' : W2.cell? ⟨b, o, none⟩ = some (.int .i64 k.memos[0].id) := (ha.cell (p := ⟨b, o, none⟩) hs1).trans d0
          have hs2 : b < W2.heap.size := Nat.lt_of_lt_of_le hs1 ha.size
          have hlc := later_cell W2
          refine wp_region_pure (by kernel_rfl) (by kernel_rfl) ?_
          repeat (go_big_quiet_step ((go_at_call 29; exact pure_same (fun u => within_any _ _ _ u.1))))
          refine wpQuiet_nil ?_
          rintro _ ⟨⟨w3, b3⟩, rfl⟩
          clear hlc
          go_wp2
          first
            | exact ⟨⟨0 + 1, by omega, by go_num, S, bnext (bnext hb ha) b3⟩, by simp [intOf]; omega⟩
            | (refine ⟨?_, by simp [intOf]; omega⟩; (repeat apply Exists.intro); first | exact ⟨⟨0 + 1, by omega, by go_num, S, bnext (bnext hb ha) b3⟩, rfl⟩ | exact ⟨⟨0 + 1, by omega, by go_num, S, bnext (bnext hb ha) b3⟩, rfl, rfl⟩ | exact ⟨⟨0 + 1, by omega, by go_num, S, bnext (bnext hb ha) b3⟩, rfl, rfl, rfl⟩ | exact ⟨⟨0 + 1, by omega, by go_num, S, bnext (bnext hb ha) b3⟩, rfl, rfl, rfl, rfl⟩ | exact ⟨⟨0 + 1, by omega, by go_num, S, bnext (bnext hb ha) b3⟩, rfl, rfl, rfl, rfl, rfl⟩ | exact ⟨⟨0 + 1, by omega, by go_num, S, bnext (bnext hb ha) b3⟩, rfl, rfl, rfl, rfl, rfl, rfl⟩ | exact ⟨⟨0 + 1, by omega, by go_num, S, bnext (bnext hb ha) b3⟩, rfl, rfl, rfl, rfl, rfl, rfl, rfl⟩ | exact ⟨⟨0 + 1, by omega, by go_num, S, bnext (bnext hb ha) b3⟩, rfl, rfl, rfl, rfl, rfl, rfl, rfl, rfl⟩ | exact ⟨⟨0 + 1, by omega, by go_num, S, bnext (bnext hb ha) b3⟩, rfl, rfl, rfl, rfl, rfl, rfl, rfl, rfl, rfl⟩ | exact ⟨⟨0 + 1, by omega, by go_num, S, bnext (bnext hb ha) b3⟩, rfl, rfl, rfl, rfl, rfl, rfl, rfl, rfl, rfl, rfl⟩ | exact ⟨⟨0 + 1, by omega, by go_num, S, bnext (bnext hb ha) b3⟩, rfl, rfl, rfl, rfl, rfl, rfl, rfl, rfl, rfl, rfl, rfl⟩ | exact ⟨⟨0 + 1, by omega, by go_num, S, bnext (bnext hb ha) b3⟩, rfl, rfl, rfl, rfl, rfl, rfl, rfl, rfl, rfl, rfl, rfl, rfl⟩ | exact ⟨⟨0 + 1, by omega, by go_num, S, bnext (bnext hb ha) b3⟩, rfl, rfl, rfl, rfl, rfl, rfl, rfl, rfl, rfl, rfl, rfl, rfl, rfl⟩ | exact ⟨⟨0 + 1, by omega, by go_num, S, bnext (bnext hb ha) b3⟩, rfl, rfl, rfl, rfl, rfl, rfl, rfl, rfl, rfl, rfl, rfl, rfl, rfl, rfl⟩ | exact ⟨⟨0 + 1, by omega, by go_num, S, bnext (bnext hb ha) b3⟩, rfl, rfl, rfl, rfl, rfl, rfl, rfl, rfl, rfl, rfl, rfl, rfl, rfl, rfl, rfl⟩)
        · obtain ⟨b', o', _, hA', hbb', _, f0, f1, f2, f3, f4⟩ := (h3.below B0).memo (k := j - 1) (by omega)
          simp only [Option.some.injEq, Addr.mk.injEq, and_true] at hA'
          obtain ⟨rfl, rfl⟩ := hA'
          have hkp : 0 < j := by omega
          have hkI : (0 : Int) < (j : Int) := by omega
          by_cases q2 : k.memos[j].id ≤ k.memos[j - 1].id
          · have H := bad (.inr ⟨hkp, q2⟩)
            have q2' : decide (k.memos[j].id ≤ k.memos[j - 1].id) = true := decide_eq_true q2
            clear bad q2
            have ha := (Below.refl wr.heap.size wr).alloc (Nat.le_refl _) (.cells #[.int .i64 k.memos[j].id, .int .i64 k.memos[j].reply.code, .int .i64 k.memos[j].reply.run, .int .i64 k.memos[j].reply.task, .int .i64 k.memos[j].reply.try_] 61)
            have T := DBox.new 61 [.int .i64 k.memos[j].id, .int .i64 k.memos[j].reply.code, .int .i64 k.memos[j].reply.run, .int .i64 k.memos[j].reply.task, .int .i64 k.memos[j].reply.try_] wr rfl
            go_wp2
            generalize wr.alloc (.cells #[.int .i64 k.memos[j].id, .int .i64 k.memos[j].reply.code, .int .i64 k.memos[j].reply.run, .int .i64 k.memos[j].reply.task, .int .i64 k.memos[j].reply.try_] 61) = W2 at *
            have X2 := X.below ha
            have X2_0 := X2.cell 0 _ rfl
            have X2_1 := X2.cell 1 _ rfl
            have X2_2 := X2.cell 2 _ rfl
            have X2_3 := X2.cell 3 _ rfl
            have X2_4 := X2.cell 4 _ rfl
            have X2_5 := X2.cell 5 _ rfl
            have X2_l := X2.lt
            have T_0 := T.cell 0 _ rfl
            have T_1 := T.cell 1 _ rfl
            have T_2 := T.cell 2 _ rfl
            have T_3 := T.cell 3 _ rfl
            have T_4 := T.cell 4 _ rfl
            have T_l := T.lt
            have d0' : W2.cell? ⟨b, o + j * 5, none⟩ = some (.int .i64 k.memos[j].id) := (ha.cell (p := ⟨b, o + j * 5, none⟩) hs1).trans d0
            have hs2 : b < W2.heap.size := Nat.lt_of_lt_of_le hs1 ha.size
            have f0' : W2.cell? ⟨b, o + (j - 1) * 5, none⟩ = some (.int .i64 k.memos[j - 1].id) := (ha.cell (p := ⟨b, o + (j - 1) * 5, none⟩) hs1).trans f0
            have hlc := later_cell W2
            refine wp_region_pure (by kernel_rfl) (by kernel_rfl) ?_
            repeat (go_big_quiet_step ((go_at_call 29; exact pure_same (fun u => within_any _ _ _ u.1))))
            refine wpQuiet_nil ?_
            rintro _ ⟨⟨w3, b3⟩, rfl⟩
            clear hlc
            go_wp2
            go_ret
            exact ⟨ret_bool H.out.symm, bnext (bnext B0 ha) b3⟩
          · have S := Lib.hid (step.out q1 (fun _ => by omega))
            have q2' : decide (k.memos[j].id ≤ k.memos[j - 1].id) = false := decide_eq_false q2
            clear bad q2
            have ha := (Below.refl wr.heap.size wr).alloc (Nat.le_refl _) (.cells #[.int .i64 k.memos[j].id, .int .i64 k.memos[j].reply.code, .int .i64 k.memos[j].reply.run, .int .i64 k.memos[j].reply.task, .int .i64 k.memos[j].reply.try_] 61)
            have T := DBox.new 61 [.int .i64 k.memos[j].id, .int .i64 k.memos[j].reply.code, .int .i64 k.memos[j].reply.run, .int .i64 k.memos[j].reply.task, .int .i64 k.memos[j].reply.try_] wr rfl
            go_wp2
            generalize wr.alloc (.cells #[.int .i64 k.memos[j].id, .int .i64 k.memos[j].reply.code, .int .i64 k.memos[j].reply.run, .int .i64 k.memos[j].reply.task, .int .i64 k.memos[j].reply.try_] 61) = W2 at *
            have X2 := X.below ha
            have X2_0 := X2.cell 0 _ rfl
            have X2_1 := X2.cell 1 _ rfl
            have X2_2 := X2.cell 2 _ rfl
            have X2_3 := X2.cell 3 _ rfl
            have X2_4 := X2.cell 4 _ rfl
            have X2_5 := X2.cell 5 _ rfl
            have X2_l := X2.lt
            have T_0 := T.cell 0 _ rfl
            have T_1 := T.cell 1 _ rfl
            have T_2 := T.cell 2 _ rfl
            have T_3 := T.cell 3 _ rfl
            have T_4 := T.cell 4 _ rfl
            have T_l := T.lt
            have d0' : W2.cell? ⟨b, o + j * 5, none⟩ = some (.int .i64 k.memos[j].id) := (ha.cell (p := ⟨b, o + j * 5, none⟩) hs1).trans d0
            have hs2 : b < W2.heap.size := Nat.lt_of_lt_of_le hs1 ha.size
            have f0' : W2.cell? ⟨b, o + (j - 1) * 5, none⟩ = some (.int .i64 k.memos[j - 1].id) := (ha.cell (p := ⟨b, o + (j - 1) * 5, none⟩) hs1).trans f0
            have hlc := later_cell W2
            refine wp_region_pure (by kernel_rfl) (by kernel_rfl) ?_
            repeat (go_big_quiet_step ((go_at_call 29; exact pure_same (fun u => within_any _ _ _ u.1))))
            refine wpQuiet_nil ?_
            rintro _ ⟨⟨w3, b3⟩, rfl⟩
            clear hlc
            go_wp2
            first
              | exact ⟨⟨j + 1, by omega, by go_num, S, bnext (bnext hb ha) b3⟩, by simp [intOf]; omega⟩
              | (refine ⟨?_, by simp [intOf]; omega⟩; (repeat apply Exists.intro); first | exact ⟨⟨j + 1, by omega, by go_num, S, bnext (bnext hb ha) b3⟩, rfl⟩ | exact ⟨⟨j + 1, by omega, by go_num, S, bnext (bnext hb ha) b3⟩, rfl, rfl⟩ | exact ⟨⟨j + 1, by omega, by go_num, S, bnext (bnext hb ha) b3⟩, rfl, rfl, rfl⟩ | exact ⟨⟨j + 1, by omega, by go_num, S, bnext (bnext hb ha) b3⟩, rfl, rfl, rfl, rfl⟩ | exact ⟨⟨j + 1, by omega, by go_num, S, bnext (bnext hb ha) b3⟩, rfl, rfl, rfl, rfl, rfl⟩ | exact ⟨⟨j + 1, by omega, by go_num, S, bnext (bnext hb ha) b3⟩, rfl, rfl, rfl, rfl, rfl, rfl⟩ | exact ⟨⟨j + 1, by omega, by go_num, S, bnext (bnext hb ha) b3⟩, rfl, rfl, rfl, rfl, rfl, rfl, rfl⟩ | exact ⟨⟨j + 1, by omega, by go_num, S, bnext (bnext hb ha) b3⟩, rfl, rfl, rfl, rfl, rfl, rfl, rfl, rfl⟩ | exact ⟨⟨j + 1, by omega, by go_num, S, bnext (bnext hb ha) b3⟩, rfl, rfl, rfl, rfl, rfl, rfl, rfl, rfl, rfl⟩ | exact ⟨⟨j + 1, by omega, by go_num, S, bnext (bnext hb ha) b3⟩, rfl, rfl, rfl, rfl, rfl, rfl, rfl, rfl, rfl, rfl⟩ | exact ⟨⟨j + 1, by omega, by go_num, S, bnext (bnext hb ha) b3⟩, rfl, rfl, rfl, rfl, rfl, rfl, rfl, rfl, rfl, rfl, rfl⟩ | exact ⟨⟨j + 1, by omega, by go_num, S, bnext (bnext hb ha) b3⟩, rfl, rfl, rfl, rfl, rfl, rfl, rfl, rfl, rfl, rfl, rfl, rfl⟩ | exact ⟨⟨j + 1, by omega, by go_num, S, bnext (bnext hb ha) b3⟩, rfl, rfl, rfl, rfl, rfl, rfl, rfl, rfl, rfl, rfl, rfl, rfl, rfl⟩ | exact ⟨⟨j + 1, by omega, by go_num, S, bnext (bnext hb ha) b3⟩, rfl, rfl, rfl, rfl, rfl, rfl, rfl, rfl, rfl, rfl, rfl, rfl, rfl, rfl⟩ | exact ⟨⟨j + 1, by omega, by go_num, S, bnext (bnext hb ha) b3⟩, rfl, rfl, rfl, rfl, rfl, rfl, rfl, rfl, rfl, rfl, rfl, rfl, rfl, rfl, rfl⟩)
    · have hltI : ¬ (j : Int) < (k.memos.length : Int) := by omega
      have H := Lib.hid (tf_true (show deskP k from ⟨P1.out, p2, P3.out, fun i hi _ => hok.out i hi (by omega)⟩))
      go_wp2
      go_ret
      exact ⟨ret_bool H.out.symm, B0⟩
end Go.Proofs.YtjobmbjadpldfaaGreat
end
section
namespace Go.Proofs.YtjobmbjadpldfaaGreat
open Go.RowKit
set_option maxRecDepth 100000
set_option maxHeartbeats 2000000
set_option linter.unusedVariables false
set_option linter.unusedSimpArgs false

def mmoE : Enc Memo := { cells := fun x => [.int .i64 x.id, .int .i64 x.reply.code, .int .i64 x.reply.run, .int .i64 x.reply.task, .int .i64 x.reply.try_], sz := 5, len := fun _ => rfl, one := fun _ u hu => by simp at hu; rcases hu with rfl | rfl | rfl | rfl | rfl <;> rfl }
theorem mmoE_info : (Tryz.prog.info? 61).map (fun i => (i.zero, i.size, i.bytes)) = some (some (.agg #[.int .i64 0, .int .i64 0, .int .i64 0, .int .i64 0, .int .i64 0]), 5, 40) := by kernel_rfl
theorem memo_rd {w : World} {B : Nat} {v : Value} {l : List Memo} (h : RdL memoD w B v l) : Rd mmoE w B v l := by
  obtain ⟨rs, rfl, ⟨A, c, rfl, hc, hA⟩, _⟩ := h
  refine ⟨A, c, by rw [List.length_map], by rw [List.length_map]; exact hc, fun hl => ?_⟩
  rw [List.length_map] at hl
  obtain ⟨b, o, h1, h2, h3⟩ := hA hl
  refine ⟨b, o, h1, h2, fun k hk j u hu => ?_⟩
  rw [List.getElem_map] at hu
  exact h3 k (by rw [List.length_map] at hk; exact hk) j u hu
theorem memo_ows (w : World) : ∀ l : List Memo, Ows memoD w [] (l.map fun x => (x, ()))
  | [] => .nil
  | x :: l => by
    have := Ows.cons (d := memoD) (w := w) (F := []) (r := (x, ())) rfl (memo_ows w l)
    exact this
theorem memo_owl {w : World} {F : List Nat} {v : Value} {l : List Memo} (h1 : Hw mmoE w F v l) : OwL memoD w F v l := by
  obtain ⟨⟨A, c, hv, hc, hA⟩, hF, hf⟩ := id h1
  subst hv
  refine ⟨l.map fun x => (x, ()), F, [], by rw [List.map_map]; exact List.map_id _, ⟨⟨A, c, by rw [List.length_map], by rw [List.length_map]; exact hc, fun hl => ?_⟩, by rw [List.length_map]; exact hF, hf⟩, memo_ows w l, (List.append_nil _).symm, h1.nodup⟩
  rw [List.length_map] at hl
  obtain ⟨b, o, h3, h4, h5⟩ := hA hl
  refine ⟨b, o, h3, h4, fun k hk j u hu => ?_⟩
  rw [List.getElem_map] at hu
  exact h5 k (by rw [List.length_map] at hk; exact hk) j u hu
theorem Rd.memo_ {w : World} {B : Nat} {A : Option Addr} {n c : Nat} {l : List Memo} (h : Rd mmoE w B (.slice A n c) l) {k : Nat} (hk : k < l.length) :
    ∃ b o, A = some ⟨b, o, none⟩ ∧ b < B ∧ w.cell? ⟨b, o + k * 5, none⟩ = some (.int .i64 l[k].id) ∧ w.cell? ⟨b, o + k * 5 + 1, none⟩ = some (.int .i64 l[k].reply.code) ∧ w.cell? ⟨b, o + k * 5 + 2, none⟩ = some (.int .i64 l[k].reply.run) ∧ w.cell? ⟨b, o + k * 5 + 3, none⟩ = some (.int .i64 l[k].reply.task) ∧ w.cell? ⟨b, o + k * 5 + 4, none⟩ = some (.int .i64 l[k].reply.try_) := by
  obtain ⟨A', c', hv, _, hA⟩ := h
  simp only [Value.slice.injEq] at hv
  obtain ⟨rfl, _, _⟩ := hv
  obtain ⟨b, o, rfl, hb, hc⟩ := hA (by omega)
  exact ⟨b, o, rfl, hb, hc k hk 0 _ rfl, hc k hk 1 _ rfl, hc k hk 2 _ rfl, hc k hk 3 _ rfl, hc k hk 4 _ rfl⟩

/-- the memo is heard, up to a number -/
def heardP (u : Int) (m : Memo) : Bool := decide (m.id ≤ u)
theorem heard1_any (m : Memo) (p : Nat) (u : Int) (w : World) (hp : w.cell? ⟨p, 0, none⟩ = some (.int .i64 u)) (hp' : p < w.heap.size) :
    Calls Tryz.prog 46 #[memoW m (), .pointer (some ⟨p, 0, none⟩)] w fun e w' => e = .returned (.bool (heardP u m)) ∧ Below w.heap.size w w' := by
  unfold heardP
  cases t1 : decide (m.id ≤ u)
  all_goals
    go_enter Tryz.func46, Tryz.ntmps46
    go_wp2
    go_ret
    exact ⟨rfl, by repeat (first | exact Below.refl _ _ | refine Below.alloc ?_ (by simp <;> omega) _)⟩
theorem indexMemo_any (l : List Memo) (A : Option Addr) (n c : Nat) (p : Nat) (u : Int) (w : World) (hl : l.length ≤ 2000000) (h : Rd mmoE w w.heap.size (.slice A n c) l) (hp : w.cell? ⟨p, 0, none⟩ = some (.int .i64 u)) (hp' : p < w.heap.size) :
    Calls Tryz.prog 78 #[.slice A n c, .func (.func 46) #[] #[.pointer (some ⟨p, 0, none⟩)]] w
      fun e w' => e = .returned (.int .i64 (idxOf (heardP u) l)) ∧ Below w.heap.size w w' := by
  obtain rfl : n = l.length := by obtain ⟨A', c', hv, _⟩ := id h; simp only [Value.slice.injEq] at hv; exact hv.2.1
  go_enter Tryz.func78, Tryz.ntmps78
  go_wp2
  go_loopw [8] (fun i wr => ∃ k : Nat, k ≤ l.length ∧ i = .int .i64 k ∧ Hid (∀ j (hj : j < k) (hj' : j < l.length), heardP u l[j] = false) ∧ Below w.heap.size w wr) (fun i _ => l.length - (intOf i).toNat)
  case atStart => exact ⟨0, Nat.zero_le _, rfl, fun j hj => absurd hj (by omega), Below.refl _ _⟩
  case round =>
    obtain ⟨k, hk, rfl, hno, hb⟩ := hrel
    by_cases hlt : k < l.length
    · obtain ⟨b, o, rfl, hbb, c0, c1, c2, c3, c4⟩ := (h.below hb).memo_ hlt
      have hltI : (k : Int) < (l.length : Int) := by omega
      have hp1 := (hb.cell (p := ⟨p, 0, none⟩) hp').trans hp
      have hs := hb.size
      cases t1 : heardP u l[k]
      · have S : Hid (∀ j (hj : j < k + 1) (hj' : j < l.length), heardP u l[j] = false) := by
          intro j hj hj'
          by_cases e : j = k
          · subst e; exact t1
          · exact hno.out j (by omega) hj'
        go_wp2_with (go_at_call 46; refine (heard1_any l[k] p u _ hp1 (by omega)).mono ?_; rintro e w1 ⟨rfl, hb1⟩; simp only [t1])
        first
          | exact ⟨⟨k + 1, by omega, by go_num, S, hb.trans (hb1.mono hb.size)⟩, by simp [intOf]; omega⟩
          | (refine ⟨?_, by simp [intOf]; omega⟩; (repeat apply Exists.intro); first | exact ⟨⟨k + 1, by omega, by go_num, S, hb.trans (hb1.mono hb.size)⟩, rfl⟩ | exact ⟨⟨k + 1, by omega, by go_num, S, hb.trans (hb1.mono hb.size)⟩, rfl, rfl⟩ | exact ⟨⟨k + 1, by omega, by go_num, S, hb.trans (hb1.mono hb.size)⟩, rfl, rfl, rfl⟩ | exact ⟨⟨k + 1, by omega, by go_num, S, hb.trans (hb1.mono hb.size)⟩, rfl, rfl, rfl, rfl⟩ | exact ⟨⟨k + 1, by omega, by go_num, S, hb.trans (hb1.mono hb.size)⟩, rfl, rfl, rfl, rfl, rfl⟩ | exact ⟨⟨k + 1, by omega, by go_num, S, hb.trans (hb1.mono hb.size)⟩, rfl, rfl, rfl, rfl, rfl, rfl⟩ | exact ⟨⟨k + 1, by omega, by go_num, S, hb.trans (hb1.mono hb.size)⟩, rfl, rfl, rfl, rfl, rfl, rfl, rfl⟩ | exact ⟨⟨k + 1, by omega, by go_num, S, hb.trans (hb1.mono hb.size)⟩, rfl, rfl, rfl, rfl, rfl, rfl, rfl, rfl⟩ | exact ⟨⟨k + 1, by omega, by go_num, S, hb.trans (hb1.mono hb.size)⟩, rfl, rfl, rfl, rfl, rfl, rfl, rfl, rfl, rfl⟩ | exact ⟨⟨k + 1, by omega, by go_num, S, hb.trans (hb1.mono hb.size)⟩, rfl, rfl, rfl, rfl, rfl, rfl, rfl, rfl, rfl, rfl⟩ | exact ⟨⟨k + 1, by omega, by go_num, S, hb.trans (hb1.mono hb.size)⟩, rfl, rfl, rfl, rfl, rfl, rfl, rfl, rfl, rfl, rfl, rfl⟩ | exact ⟨⟨k + 1, by omega, by go_num, S, hb.trans (hb1.mono hb.size)⟩, rfl, rfl, rfl, rfl, rfl, rfl, rfl, rfl, rfl, rfl, rfl, rfl⟩ | exact ⟨⟨k + 1, by omega, by go_num, S, hb.trans (hb1.mono hb.size)⟩, rfl, rfl, rfl, rfl, rfl, rfl, rfl, rfl, rfl, rfl, rfl, rfl, rfl⟩ | exact ⟨⟨k + 1, by omega, by go_num, S, hb.trans (hb1.mono hb.size)⟩, rfl, rfl, rfl, rfl, rfl, rfl, rfl, rfl, rfl, rfl, rfl, rfl, rfl, rfl⟩ | exact ⟨⟨k + 1, by omega, by go_num, S, hb.trans (hb1.mono hb.size)⟩, rfl, rfl, rfl, rfl, rfl, rfl, rfl, rfl, rfl, rfl, rfl, rfl, rfl, rfl, rfl⟩)
      · have H := Lib.hid (idxOf_found hlt (fun j hj => hno.out j hj (by omega)) t1)
        go_wp2_with (go_at_call 46; refine (heard1_any l[k] p u _ hp1 (by omega)).mono ?_; rintro e w1 ⟨rfl, hb1⟩; simp only [t1])
        go_ret
        exact ⟨ret_int (by rw [H.out]), hb.trans (hb1.mono hb.size)⟩
    · have hltI : ¬ (k : Int) < (l.length : Int) := by omega
      have H := Lib.hid (idxOf_none (p := heardP u) (l := l) (fun j hj => hno.out j (by omega) hj))
      go_wp2
      go_ret
      exact ⟨ret_int (by rw [H.out]), hb⟩
end Go.Proofs.YtjobmbjadpldfaaGreat
end
section
namespace Go.Proofs.YtjobmbjadpldfaaGreat
open Go.RowKit
set_option maxRecDepth 100000
set_option maxHeartbeats 2000000
set_option linter.unusedVariables false
set_option linter.unusedSimpArgs false

theorem memo_ow {w : World} {E : TypeId} {base : Nat} {v : Value} {l : List Memo} (h : Ow mmoE E w base v l) : ∃ (s : Sl) (F : List Nat), v = .slice s.a s.n s.c ∧ OwL memoD w F s.v l ∧ ∀ b ∈ F, base ≤ b := by
  obtain ⟨h1, h2⟩ := Hw.of_ow h
  obtain ⟨A, c, hv, _⟩ := id h1.1
  subst hv
  exact ⟨⟨A, l.length, c⟩, _, rfl, memo_owl h1, h2⟩
theorem memo_nil {w : World} {F : List Nat} {rs : List (Memo × memoD.S)} (h : Ows memoD w F rs) : F = [] := by
  induction h with
  | nil => rfl
  | cons h1 _ ih => rw [show _ = [] from h1, ih]; rfl
theorem memo_hw {w : World} {F : List Nat} {v : Value} {l : List Memo} (h : OwL memoD w F v l) : Hw mmoE w F v l := by
  have hr := memo_rd h.rd
  obtain ⟨rs, H, G, hm, hh, ho, rfl, hn⟩ := h
  have hG := memo_nil ho
  subst hG
  obtain ⟨h1, h2, h3⟩ := hh
  refine ⟨hr, ?_, fun g hg => h3 g (by simpa using hg)⟩
  rw [List.append_nil, h2, ← hm, List.length_map]


theorem implCopyDesk_own (k : Desk) (s : (Sl × Sl) × Sl) (w : World) (hm0 : cntDesk k ≤ 2000000) (h : deskD.rd w w.heap.size k s) :
    Calls Tryz.prog 44 #[deskW k s] w (OwnPost deskD deskW k w) := by
  obtain ⟨⟨⟨A1, n1, c1⟩, ⟨A2, n2, c2⟩⟩, ⟨A3, n3, c3⟩⟩ := s
  obtain rfl : n3 = k.memos.length := RdL.at1 (s := ⟨A3, n3, c3⟩) h.2
  have h1 : yardD.rd w w.heap.size k.yard (⟨A1, n1, c1⟩, ⟨A2, n2, c2⟩) := h.1
  have h2 : Rd mmoE w w.heap.size (.slice A3 k.memos.length c3) k.memos := memo_rd h.2
  have hl : cntYard k.yard ≤ 2000000 := by unfold cntDesk at hm0; omega
  have hll : k.memos.length ≤ 2000000 := Nat.le_trans (cntL_len cntMemo _) (by unfold cntDesk at hm0; omega)
  clear h hm0
  have X := (DBox.new 37 [.int .i64 k.yard.now, .int .i64 k.yard.seq, .slice A1 n1 c1, .slice A2 n2 c2, .slice A3 k.memos.length c3, .int .i64 k.fr] w (b := w.heap.size) rfl).below ((Below.refl _ _).alloc (Nat.le_refl _) (.cells #[.int .i64 0, .int .i64 0, .slice none 0 0, .slice none 0 0, .slice none 0 0, .int .i64 0] 37))
  have Z := DBox.new 37 [.int .i64 0, .int .i64 0, .slice none 0 0, .slice none 0 0, .slice none 0 0, .int .i64 0] (w.alloc (.cells #[.int .i64 k.yard.now, .int .i64 k.yard.seq, .slice A1 n1 c1, .slice A2 n2 c2, .slice A3 k.memos.length c3, .int .i64 k.fr] 37)) (b := w.heap.size + 1) (by simp)
  have B0 : Below w.heap.size w ((w.alloc (.cells #[.int .i64 k.yard.now, .int .i64 k.yard.seq, .slice A1 n1 c1, .slice A2 n2 c2, .slice A3 k.memos.length c3, .int .i64 k.fr] 37)).alloc (.cells #[.int .i64 0, .int .i64 0, .slice none 0 0, .slice none 0 0, .slice none 0 0, .int .i64 0] 37)) := by repeat (first | exact Below.refl _ _ | refine Below.alloc ?_ (by simp <;> omega) _)
  obtain ⟨i0, hi0, hz0, hz1, hz2⟩ := info_parts mmoE_info
  go_enter Tryz.func44, Tryz.ntmps44
  go_wp2_with fail
  generalize ((w.alloc (.cells #[.int .i64 k.yard.now, .int .i64 k.yard.seq, .slice A1 n1 c1, .slice A2 n2 c2, .slice A3 k.memos.length c3, .int .i64 k.fr] 37)).alloc (.cells #[.int .i64 0, .int .i64 0, .slice none 0 0, .slice none 0 0, .slice none 0 0, .int .i64 0] 37)) = W at *
  refine (implCopyYard_own k.yard (⟨A1, n1, c1⟩, ⟨A2, n2, c2⟩) W hl (yardD.rd_more (yardD.rd_below h1 B0) B0.size)).mono ?_
  rintro e w0 ⟨⟨⟨A4, n4, c4⟩, ⟨A5, n5, c5⟩⟩, F0, rfl, o0, n0, b0⟩
  have hW : w.heap.size + 2 ≤ W.heap.size := Z.lt
  replace X := X.below b0
  replace Z := Z.below b0
  replace B0 := bnext B0 b0
  have X_0 := X.cell 0 _ rfl
  have X_1 := X.cell 1 _ rfl
  have X_2 := X.cell 2 _ rfl
  have X_3 := X.cell 3 _ rfl
  have X_4 := X.cell 4 _ rfl
  have X_5 := X.cell 5 _ rfl
  have X_l := X.lt
  have Z_0 := Z.cell 0 _ rfl
  have Z_1 := Z.cell 1 _ rfl
  have Z_2 := Z.cell 2 _ rfl
  have Z_3 := Z.cell 3 _ rfl
  have Z_4 := Z.cell 4 _ rfl
  have Z_5 := Z.cell 5 _ rfl
  have Z_l := Z.lt
  have X_f := X.free
  have Z_f := Z.free
  have hnX : w.heap.size ∉ F0 := fun hm => by have := n0 _ hm; omega
  have X1 : DBox w.heap.size [.int .i64 k.yard.now, .int .i64 k.yard.seq, .slice A4 n4 c4, .slice A5 n5 c5, .slice A3 k.memos.length c3, .int .i64 k.fr] ((((w0.setCell ⟨w.heap.size, 0, none⟩ (.int .i64 k.yard.now)).setCell ⟨w.heap.size, 1, none⟩ (.int .i64 k.yard.seq)).setCell ⟨w.heap.size, 2, none⟩ (.slice A4 n4 c4)).setCell ⟨w.heap.size, 3, none⟩ (.slice A5 n5 c5)) := (((X.set 0 (by simp) (.int .i64 k.yard.now)).set 1 (by simp) (.int .i64 k.yard.seq)).set 2 (by simp) (.slice A4 n4 c4)).set 3 (by simp) (.slice A5 n5 c5)
  have Z1 := (((Z.setOther (a := ⟨w.heap.size, 0, none⟩) (by simp) (.int .i64 k.yard.now)).setOther (a := ⟨w.heap.size, 1, none⟩) (by simp) (.int .i64 k.yard.seq)).setOther (a := ⟨w.heap.size, 2, none⟩) (by simp) (.slice A4 n4 c4)).setOther (a := ⟨w.heap.size, 3, none⟩) (by simp) (.slice A5 n5 c5)
  have o1 : yardD.ow ((((w0.setCell ⟨w.heap.size, 0, none⟩ (.int .i64 k.yard.now)).setCell ⟨w.heap.size, 1, none⟩ (.int .i64 k.yard.seq)).setCell ⟨w.heap.size, 2, none⟩ (.slice A4 n4 c4)).setCell ⟨w.heap.size, 3, none⟩ (.slice A5 n5 c5)) F0 k.yard (⟨A4, n4, c4⟩, ⟨A5, n5, c5⟩) := by repeat (first | (with_reducible exact o0) | refine Dt.ow_set yardD ?_ hnX _)
  have B1 : Below w.heap.size w ((((w0.setCell ⟨w.heap.size, 0, none⟩ (.int .i64 k.yard.now)).setCell ⟨w.heap.size, 1, none⟩ (.int .i64 k.yard.seq)).setCell ⟨w.heap.size, 2, none⟩ (.slice A4 n4 c4)).setCell ⟨w.heap.size, 3, none⟩ (.slice A5 n5 c5)) := by repeat (first | (with_reducible exact B0) | refine Below.setCell ?_ (by simp) _)
  have HZ3 := Lib.hid (show ((((w0.setCell ⟨w.heap.size, 0, none⟩ (.int .i64 k.yard.now)).setCell ⟨w.heap.size, 1, none⟩ (.int .i64 k.yard.seq)).setCell ⟨w.heap.size, 2, none⟩ (.slice A4 n4 c4)).setCell ⟨w.heap.size, 3, none⟩ (.slice A5 n5 c5)).heap.size = w0.heap.size by simp)
  go_wp2_with (at_builtin; generalize hW3 : ((((w0.setCell ⟨w.heap.size, 0, none⟩ (.int .i64 k.yard.now)).setCell ⟨w.heap.size, 1, none⟩ (.int .i64 k.yard.seq)).setCell ⟨w.heap.size, 2, none⟩ (.slice A4 n4 c4)).setCell ⟨w.heap.size, 3, none⟩ (.slice A5 n5 c5)) = W3 at *; clear hW3 X_0 X_1 X_2 X_3 X_4 X_5 X_l X_f Z_0 Z_1 Z_2 Z_3 Z_4 Z_5 Z_l Z_f X Z o0; have hal := (Below.refl W3.heap.size W3); refine wpList_push_all _ mmoE (by decide) rfl (.const (.slice none 0 0)) (.tmp 8) rfl Tryz.underlying35 hi0 hz0 hz1 hz2 rfl (v := (.slice none 0 0)) (l := []) rfl (Ow.nil mmoE 61 _ w0.heap.size) rfl ((h2.below (bnext B1 hal)).more (bnext B1 hal).size) (by simp) (by omega) (by decide) (by have := hal.size; have := HZ3.out; omega) ?_; intro v1 w1 o5 g1 f1; rw [List.nil_append] at o5; have B31 : Below W3.heap.size W3 w1 := hal.grown g1 hal.size (fun g hg => by have := HZ3.out; simp [Value.ownBlock] at hg <;> omega); clear f1 g1; obtain ⟨⟨A6, n6, c6⟩, F5, rfl, o6, n6'⟩ := memo_ow o5; replace X1 := X1.below B31; replace Z1 := Z1.below B31; have y0 := X1.cell 0 _ rfl; have y1 := X1.cell 1 _ rfl; have y2 := X1.cell 2 _ rfl; have y3 := X1.cell 3 _ rfl; have y4 := X1.cell 4 _ rfl; have y5 := X1.cell 5 _ rfl; have yf := X1.free; have yl := X1.lt; have z0 := Z1.cell 0 _ rfl; have z1 := Z1.cell 1 _ rfl; have z2 := Z1.cell 2 _ rfl; have z3 := Z1.cell 3 _ rfl; have z4 := Z1.cell 4 _ rfl; have z5 := Z1.cell 5 _ rfl; have zf := Z1.free; have zl := Z1.lt)
  have B2 := bnext B1 B31
  replace o1 : yardD.ow W3 F0 k.yard (⟨A4, n4, c4⟩, ⟨A5, n5, c5⟩) := o1
  have o7 : yardD.ow w1 F0 k.yard (⟨A4, n4, c4⟩, ⟨A5, n5, c5⟩) := yardD.ow_below (x := k.yard) (s := (⟨A4, n4, c4⟩, ⟨A5, n5, c5⟩)) o1 B31
  have hz3 := HZ3.out
  have hb0 := b0.size
  have l0 : ∀ b ∈ F0, b < w0.heap.size := fun b hb => by have := yardD.ow_lt (x := k.yard) (s := (⟨A4, n4, c4⟩, ⟨A5, n5, c5⟩)) o1 b hb; omega
  refine bodyPost_ret (v := deskW k ((⟨A4, n4, c4⟩, ⟨A5, n5, c5⟩), ⟨A6, n6, c6⟩)) ?_ rfl ?_
  · simp [deskW, results, Tryz.results44, go_sem, z0, z1, z2, z3, z4, z5]
  · refine ⟨((⟨A4, n4, c4⟩, ⟨A5, n5, c5⟩), ⟨A6, n6, c6⟩), F0 ++ F5, rfl, ⟨F0, F5, rfl, ?_, ?_, ?_⟩, ?_, ?_⟩
    · rw [List.nodup_append]
      refine ⟨yardD.ow_nodup (x := k.yard) (s := (⟨A4, n4, c4⟩, ⟨A5, n5, c5⟩)) o1, o6.nodup, fun u hu u' hu' e => ?_⟩
      have := l0 u hu
      have := n6' u' hu'
      omega
    · have hn2 : w.heap.size + 1 ∉ F0 := fun hm => by have := n0 _ hm; omega
      show yardD.ow _ F0 k.yard (⟨A4, n4, c4⟩, ⟨A5, n5, c5⟩)
      repeat (first | (with_reducible exact o7) | refine Dt.ow_set yardD ?_ (by first | exact hnX | exact hn2) _)
    · have hn1 : w.heap.size ∉ F5 := fun hm => by have := n6' _ hm; omega
      have hn2 : w.heap.size + 1 ∉ F5 := fun hm => by have := n6' _ hm; omega
      show OwL memoD _ F5 (.slice A6 n6 c6) k.memos
      repeat (first | (with_reducible exact o6) | refine OwL.set ?_ (by first | exact hn1 | exact hn2) _)
    · intro b hb
      rcases List.mem_append.1 hb with hb | hb
      · have := n0 b hb; omega
      · have := n6' b hb; omega
    · repeat (first | (with_reducible exact B2) | refine Below.setCell ?_ (by first | (simp; done) | (simp; omega)) _)


theorem specCopyDesk_own (k : Desk) (s : (Sl × Sl) × Sl) (w : World) (hm0 : cntDesk k ≤ 2000000) (h : deskD.rd w w.heap.size k s) :
    Calls Tryz.prog 43 #[deskW k s] w (OwnPost deskD deskW k w) := by
  obtain ⟨⟨⟨A1, n1, c1⟩, ⟨A2, n2, c2⟩⟩, ⟨A3, n3, c3⟩⟩ := s
  obtain rfl : n3 = k.memos.length := RdL.at1 (s := ⟨A3, n3, c3⟩) h.2
  have h1 : yardD.rd w w.heap.size k.yard (⟨A1, n1, c1⟩, ⟨A2, n2, c2⟩) := h.1
  have h2 : Rd mmoE w w.heap.size (.slice A3 k.memos.length c3) k.memos := memo_rd h.2
  have hl : cntYard k.yard ≤ 2000000 := by unfold cntDesk at hm0; omega
  have hll : k.memos.length ≤ 2000000 := Nat.le_trans (cntL_len cntMemo _) (by unfold cntDesk at hm0; omega)
  clear h hm0
  have X := (DBox.new 37 [.int .i64 k.yard.now, .int .i64 k.yard.seq, .slice A1 n1 c1, .slice A2 n2 c2, .slice A3 k.memos.length c3, .int .i64 k.fr] w (b := w.heap.size) rfl).below ((Below.refl _ _).alloc (Nat.le_refl _) (.cells #[.int .i64 0, .int .i64 0, .slice none 0 0, .slice none 0 0, .slice none 0 0, .int .i64 0] 37))
  have Z := DBox.new 37 [.int .i64 0, .int .i64 0, .slice none 0 0, .slice none 0 0, .slice none 0 0, .int .i64 0] (w.alloc (.cells #[.int .i64 k.yard.now, .int .i64 k.yard.seq, .slice A1 n1 c1, .slice A2 n2 c2, .slice A3 k.memos.length c3, .int .i64 k.fr] 37)) (b := w.heap.size + 1) (by simp)
  have B0 : Below w.heap.size w ((w.alloc (.cells #[.int .i64 k.yard.now, .int .i64 k.yard.seq, .slice A1 n1 c1, .slice A2 n2 c2, .slice A3 k.memos.length c3, .int .i64 k.fr] 37)).alloc (.cells #[.int .i64 0, .int .i64 0, .slice none 0 0, .slice none 0 0, .slice none 0 0, .int .i64 0] 37)) := by repeat (first | exact Below.refl _ _ | refine Below.alloc ?_ (by simp <;> omega) _)
  obtain ⟨i0, hi0, hz0, hz1, hz2⟩ := info_parts mmoE_info
  go_enter Tryz.func43, Tryz.ntmps43
  go_wp2_with fail
  generalize ((w.alloc (.cells #[.int .i64 k.yard.now, .int .i64 k.yard.seq, .slice A1 n1 c1, .slice A2 n2 c2, .slice A3 k.memos.length c3, .int .i64 k.fr] 37)).alloc (.cells #[.int .i64 0, .int .i64 0, .slice none 0 0, .slice none 0 0, .slice none 0 0, .int .i64 0] 37)) = W at *
  refine (specCopyYard_own k.yard (⟨A1, n1, c1⟩, ⟨A2, n2, c2⟩) W hl (yardD.rd_more (yardD.rd_below h1 B0) B0.size)).mono ?_
  rintro e w0 ⟨⟨⟨A4, n4, c4⟩, ⟨A5, n5, c5⟩⟩, F0, rfl, o0, n0, b0⟩
  have hW : w.heap.size + 2 ≤ W.heap.size := Z.lt
  replace X := X.below b0
  replace Z := Z.below b0
  replace B0 := bnext B0 b0
  have X_0 := X.cell 0 _ rfl
  have X_1 := X.cell 1 _ rfl
  have X_2 := X.cell 2 _ rfl
  have X_3 := X.cell 3 _ rfl
  have X_4 := X.cell 4 _ rfl
  have X_5 := X.cell 5 _ rfl
  have X_l := X.lt
  have Z_0 := Z.cell 0 _ rfl
  have Z_1 := Z.cell 1 _ rfl
  have Z_2 := Z.cell 2 _ rfl
  have Z_3 := Z.cell 3 _ rfl
  have Z_4 := Z.cell 4 _ rfl
  have Z_5 := Z.cell 5 _ rfl
  have Z_l := Z.lt
  have X_f := X.free
  have Z_f := Z.free
  have hnX : w.heap.size ∉ F0 := fun hm => by have := n0 _ hm; omega
  have X1 : DBox w.heap.size [.int .i64 k.yard.now, .int .i64 k.yard.seq, .slice A4 n4 c4, .slice A5 n5 c5, .slice A3 k.memos.length c3, .int .i64 k.fr] ((((w0.setCell ⟨w.heap.size, 0, none⟩ (.int .i64 k.yard.now)).setCell ⟨w.heap.size, 1, none⟩ (.int .i64 k.yard.seq)).setCell ⟨w.heap.size, 2, none⟩ (.slice A4 n4 c4)).setCell ⟨w.heap.size, 3, none⟩ (.slice A5 n5 c5)) := (((X.set 0 (by simp) (.int .i64 k.yard.now)).set 1 (by simp) (.int .i64 k.yard.seq)).set 2 (by simp) (.slice A4 n4 c4)).set 3 (by simp) (.slice A5 n5 c5)
  have Z1 := (((Z.setOther (a := ⟨w.heap.size, 0, none⟩) (by simp) (.int .i64 k.yard.now)).setOther (a := ⟨w.heap.size, 1, none⟩) (by simp) (.int .i64 k.yard.seq)).setOther (a := ⟨w.heap.size, 2, none⟩) (by simp) (.slice A4 n4 c4)).setOther (a := ⟨w.heap.size, 3, none⟩) (by simp) (.slice A5 n5 c5)
  have o1 : yardD.ow ((((w0.setCell ⟨w.heap.size, 0, none⟩ (.int .i64 k.yard.now)).setCell ⟨w.heap.size, 1, none⟩ (.int .i64 k.yard.seq)).setCell ⟨w.heap.size, 2, none⟩ (.slice A4 n4 c4)).setCell ⟨w.heap.size, 3, none⟩ (.slice A5 n5 c5)) F0 k.yard (⟨A4, n4, c4⟩, ⟨A5, n5, c5⟩) := by repeat (first | (with_reducible exact o0) | refine Dt.ow_set yardD ?_ hnX _)
  have B1 : Below w.heap.size w ((((w0.setCell ⟨w.heap.size, 0, none⟩ (.int .i64 k.yard.now)).setCell ⟨w.heap.size, 1, none⟩ (.int .i64 k.yard.seq)).setCell ⟨w.heap.size, 2, none⟩ (.slice A4 n4 c4)).setCell ⟨w.heap.size, 3, none⟩ (.slice A5 n5 c5)) := by repeat (first | (with_reducible exact B0) | refine Below.setCell ?_ (by simp) _)
  have HZ3 := Lib.hid (show ((((w0.setCell ⟨w.heap.size, 0, none⟩ (.int .i64 k.yard.now)).setCell ⟨w.heap.size, 1, none⟩ (.int .i64 k.yard.seq)).setCell ⟨w.heap.size, 2, none⟩ (.slice A4 n4 c4)).setCell ⟨w.heap.size, 3, none⟩ (.slice A5 n5 c5)).heap.size = w0.heap.size by simp)
  go_wp2_with (at_builtin; generalize hW3 : ((((w0.setCell ⟨w.heap.size, 0, none⟩ (.int .i64 k.yard.now)).setCell ⟨w.heap.size, 1, none⟩ (.int .i64 k.yard.seq)).setCell ⟨w.heap.size, 2, none⟩ (.slice A4 n4 c4)).setCell ⟨w.heap.size, 3, none⟩ (.slice A5 n5 c5)) = W3 at *; clear hW3 X_0 X_1 X_2 X_3 X_4 X_5 X_l X_f Z_0 Z_1 Z_2 Z_3 Z_4 Z_5 Z_l Z_f X Z o0; have hal := ((Below.refl W3.heap.size W3).alloc (Nat.le_refl _) (.cells #[] 61)); refine wpList_push_all _ mmoE (by decide) rfl (.tmp 7) (.tmp 9) rfl Tryz.underlying35 hi0 hz0 hz1 hz2 rfl (v := (.slice (some ⟨w0.heap.size, 0, none⟩) 0 0)) (l := []) rfl (Ow.empty mmoE 61 W3 HZ3.out.symm) rfl ((h2.below (bnext B1 hal)).more (bnext B1 hal).size) (by simp) (by omega) (by decide) (by have := hal.size; have := HZ3.out; omega) ?_; intro v1 w1 o5 g1 f1; rw [List.nil_append] at o5; have B31 : Below W3.heap.size W3 w1 := hal.grown g1 hal.size (fun g hg => by have := HZ3.out; simp [Value.ownBlock] at hg <;> omega); clear f1 g1; obtain ⟨⟨A6, n6, c6⟩, F5, rfl, o6, n6'⟩ := memo_ow o5; replace X1 := X1.below B31; replace Z1 := Z1.below B31; have y0 := X1.cell 0 _ rfl; have y1 := X1.cell 1 _ rfl; have y2 := X1.cell 2 _ rfl; have y3 := X1.cell 3 _ rfl; have y4 := X1.cell 4 _ rfl; have y5 := X1.cell 5 _ rfl; have yf := X1.free; have yl := X1.lt; have z0 := Z1.cell 0 _ rfl; have z1 := Z1.cell 1 _ rfl; have z2 := Z1.cell 2 _ rfl; have z3 := Z1.cell 3 _ rfl; have z4 := Z1.cell 4 _ rfl; have z5 := Z1.cell 5 _ rfl; have zf := Z1.free; have zl := Z1.lt)
  have B2 := bnext B1 B31
  replace o1 : yardD.ow W3 F0 k.yard (⟨A4, n4, c4⟩, ⟨A5, n5, c5⟩) := o1
  have o7 : yardD.ow w1 F0 k.yard (⟨A4, n4, c4⟩, ⟨A5, n5, c5⟩) := yardD.ow_below (x := k.yard) (s := (⟨A4, n4, c4⟩, ⟨A5, n5, c5⟩)) o1 B31
  have hz3 := HZ3.out
  have hb0 := b0.size
  have l0 : ∀ b ∈ F0, b < w0.heap.size := fun b hb => by have := yardD.ow_lt (x := k.yard) (s := (⟨A4, n4, c4⟩, ⟨A5, n5, c5⟩)) o1 b hb; omega
  refine bodyPost_ret (v := deskW k ((⟨A4, n4, c4⟩, ⟨A5, n5, c5⟩), ⟨A6, n6, c6⟩)) ?_ rfl ?_
  · simp [deskW, results, Tryz.results43, go_sem, z0, z1, z2, z3, z4, z5]
  · refine ⟨((⟨A4, n4, c4⟩, ⟨A5, n5, c5⟩), ⟨A6, n6, c6⟩), F0 ++ F5, rfl, ⟨F0, F5, rfl, ?_, ?_, ?_⟩, ?_, ?_⟩
    · rw [List.nodup_append]
      refine ⟨yardD.ow_nodup (x := k.yard) (s := (⟨A4, n4, c4⟩, ⟨A5, n5, c5⟩)) o1, o6.nodup, fun u hu u' hu' e => ?_⟩
      have := l0 u hu
      have := n6' u' hu'
      omega
    · have hn2 : w.heap.size + 1 ∉ F0 := fun hm => by have := n0 _ hm; omega
      show yardD.ow _ F0 k.yard (⟨A4, n4, c4⟩, ⟨A5, n5, c5⟩)
      repeat (first | (with_reducible exact o7) | refine Dt.ow_set yardD ?_ (by first | exact hnX | exact hn2) _)
    · have hn1 : w.heap.size ∉ F5 := fun hm => by have := n6' _ hm; omega
      have hn2 : w.heap.size + 1 ∉ F5 := fun hm => by have := n6' _ hm; omega
      show OwL memoD _ F5 (.slice A6 n6 c6) k.memos
      repeat (first | (with_reducible exact o6) | refine OwL.set ?_ (by first | exact hn1 | exact hn2) _)
    · intro b hb
      rcases List.mem_append.1 hb with hb | hb
      · have := n0 b hb; omega
      · have := n6' b hb; omega
    · repeat (first | (with_reducible exact B2) | refine Below.setCell ?_ (by first | (simp; done) | (simp; omega)) _)

end Go.Proofs.YtjobmbjadpldfaaGreat
end
