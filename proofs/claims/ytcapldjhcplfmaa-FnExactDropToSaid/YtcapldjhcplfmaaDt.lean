/-
  DropTo of the reference and of the program.
-/
import Derived.Test.YtcapldjhcplfmaaCq
import Derived.Test.YtcapldjhcplfmaaQs
namespace Go.Proofs.Ytcapldjhcplfmaa
open Go.RowKit
set_option maxRecDepth 100000
set_option maxHeartbeats 2000000
set_option linter.unusedVariables false
set_option linter.unusedSimpArgs false
attribute [local go_sem] slV

def reach (q : Int) (s : Seg) : Bool := s.notes.any fun n => decide (q < n.seq)
def dropL (q : Int) : List Seg → List Seg
  | s :: t :: l => if reach q s = true then s :: t :: l else dropL q (t :: l)
  | l => l
def dropTo (l : List Seg) (q : Int) : List Seg := if segsOk l = true then dropL q l else l
theorem dropL_cnt (q : Int) : ∀ l : List Seg, cntL cntSeg (dropL q l) ≤ cntL cntSeg l
  | [] => by simp [dropL]
  | [s] => by simp [dropL]
  | s :: t :: l => by
    have ih := dropL_cnt q (t :: l)
    unfold dropL
    split
    · exact Nat.le_refl _
    · refine Nat.le_trans ih ?_
      unfold cntL
      simp only [List.length_cons, List.map_cons, List.sum_cons]
      omega
theorem dropTo_cnt (l : List Seg) (q : Int) : cntL cntSeg (dropTo l q) ≤ cntL cntSeg l := by
  unfold dropTo
  split
  · exact dropL_cnt q l
  · exact Nat.le_refl _
theorem reach_last {s : Seg} {q : Int} (hf : notesFit s = true) (hp : 0 < s.notes.length) : reach q s = decide (q < s.notes[s.notes.length - 1].seq) := by
  by_cases h : q < s.notes[s.notes.length - 1].seq
  · rw [decide_eq_true h]
    unfold reach
    rw [List.any_eq_true]
    exact ⟨s.notes[s.notes.length - 1], List.getElem_mem (by omega), decide_eq_true h⟩
  · rw [decide_eq_false h]
    unfold reach
    rw [List.any_eq_false]
    intro x hx
    obtain ⟨j, hj, rfl⟩ := List.getElem_of_mem hx
    have h1 := (notesFit_get hf hj).1
    have h2 := (notesFit_get hf (j := s.notes.length - 1) (by omega)).1
    simp only [decide_eq_true_eq]
    omega
theorem reach_empty {s : Seg} {q : Int} (hp : ¬ 0 < s.notes.length) : reach q s = false := by
  have : s.notes = [] := List.eq_nil_of_length_eq_zero (by omega)
  simp [reach, this]
/-- the length of a slice -/
def lenV : Value → Nat
  | .slice _ n _ => n
  | _ => 0

theorem OwL.tail_ {α : Type} {d : Dt α} {w : World} {F : List Nat} {b o n c : Nat} {x y : α} {l : List α} (h : OwL d w F (.slice (some ⟨b, o, none⟩) n c) (x :: y :: l)) :
    ∃ F', OwL d w F' (.slice (some ⟨b, o + d.enc.sz, none⟩) (l.length + 1) (c - 1)) (y :: l) ∧ ∀ g ∈ F', g ∈ F := by
  obtain ⟨rs, H, G, hm, ⟨hr, hF, hfr⟩, ho, rfl, hn⟩ := h
  match rs, hm with
  | r0 :: r1 :: rs, hm =>
    simp only [List.map_cons, List.cons.injEq] at hm
    obtain ⟨rfl, rfl, rfl⟩ := hm
    obtain ⟨A', c', hv, hcap, hA⟩ := hr
    simp only [Value.slice.injEq] at hv
    obtain ⟨rfl, rfl, rfl⟩ := hv
    obtain ⟨b', o', he, hlt, hc⟩ := hA (by simp)
    simp only [Option.some.injEq, Addr.mk.injEq, and_true] at he
    obtain ⟨rfl, rfl⟩ := he
    obtain ⟨G1, G2, rfl, h1, h2⟩ := ho.head
    have hH : H = [b] := by rw [hF]; unfold blocks; rw [if_neg (by simp)]; rfl
    refine ⟨H ++ G2, ⟨r1 :: rs, H, G2, rfl, ⟨⟨_, c - 1, by simp, by simp at hcap ⊢; omega, fun _ => ⟨b, o + d.enc.sz, rfl, hlt, fun k hk j u hu => ?_⟩⟩, ?_, hfr⟩, h2, rfl, ?_⟩, ?_⟩
    · have := hc (k + 1) (by simp at hk ⊢; omega) j u (by simpa using hu)
      rw [Nat.succ_mul] at this
      rw [show o + d.enc.sz + k * d.enc.sz + j = o + (k * d.enc.sz + d.enc.sz) + j from by omega]
      exact this
    · rw [hH]; unfold blocks; rw [if_neg (by simp)]; rfl
    · rw [List.nodup_append] at hn ⊢
      refine ⟨hn.1, (List.nodup_append.1 hn.2.1).2.1, fun a ha b' hb' => hn.2.2 a ha b' (List.mem_append_right _ hb')⟩
    · intro g hg
      rcases List.mem_append.1 hg with hg | hg
      · exact List.mem_append_left _ hg
      · exact List.mem_append_right _ (List.mem_append_right _ hg)

theorem reaches_own (x : Seg) (s : Sl) (q : Int) (w : World) (hl : cntSeg x ≤ 2000000) (h : segD.rd w w.heap.size x s) :
    Calls Try.prog 120 #[segW x s, .int .i64 q] w fun e w' => e = .returned (.bool (reach q x)) ∧ Below w.heap.size w w' := by
  have hr : RdL noteD w w.heap.size s.v x.notes := h
  obtain ⟨A, n, c⟩ := s
  obtain ⟨_, _, hv, -⟩ := hr.form
  simp only [Sl.v, Value.slice.injEq] at hv
  obtain ⟨rfl, rfl, rfl⟩ := hv
  have hll : x.notes.length ≤ 2000000 := Nat.le_trans (cntL_len cntNote _) hl
  have hb0 : Below w.heap.size w (w.alloc (.cells #[.int .i64 x.fr, .slice A x.notes.length c] 126)) := (Below.refl _ _).alloc (Nat.le_refl _) _
  go_enter Try.func120, Try.ntmps120
  go_wp2
  go_loopw [10] (fun i wr => ∃ k : Nat, k ≤ x.notes.length ∧ i = .int .i64 k ∧ Hid (∀ j (hj : j < x.notes.length), j < k → ¬ q < x.notes[j].seq) ∧ Below w.heap.size w wr) (fun i _ => x.notes.length - (intOf i).toNat)
  case atStart => exact ⟨0, Nat.zero_le _, rfl, fun j hj h0 => absurd h0 (by omega), hb0⟩
  case round =>
    obtain ⟨k, hk, rfl, hno, hb⟩ := hrel
    by_cases hlt : k < x.notes.length
    · obtain ⟨b, o, s', rfl, hbb, hr', c0, c1, c2, c3, c4, c5, c6, c7, c8, c9, c10, c11⟩ := (hr.below hb).note hlt
      have hs := hb.size
      have hba := fun T cs => hb.alloc hb.size (.cells cs T)
      by_cases hq : q < x.notes[k].seq
      · have H := Lib.hid (show reach q x = true by unfold reach; rw [List.any_eq_true]; exact ⟨_, List.getElem_mem hlt, by simpa using hq⟩)
        go_wp2
        go_ret
        exact ⟨ret_bool H.out.symm, hba _ _⟩
      · have S : Hid (∀ j (hj : j < x.notes.length), j < k + 1 → ¬ q < x.notes[j].seq) := by
          intro j hj h0
          by_cases e : j = k
          · subst e; exact hq
          · exact hno.out j hj (by omega)
        go_wp2
        exact ⟨⟨k + 1, by omega, by go_num, S, hba _ _⟩, by simp [intOf]; omega⟩
    · have H := Lib.hid (show reach q x = false by
        unfold reach
        rw [List.any_eq_false]
        intro y hy
        obtain ⟨j, hj, rfl⟩ := List.getElem_of_mem hy
        simpa using hno.out j hj (by omega))
      go_wp2
      go_ret
      exact ⟨ret_bool H.out.symm, hb⟩

theorem implDropTo_own (l : List Seg) (s : Sl) (q : Int) (w : World) (hl : cntL cntSeg l ≤ 2000000) (h : RdL segD w w.heap.size s.v l) :
    Calls Try.prog 74 #[.slice s.a s.n s.c, .int .i64 q] w (OwnPost (Dt.list segD) slV (dropTo l q) w) := by
  obtain ⟨A, n, c⟩ := s
  obtain ⟨A', c', hv, -⟩ := h.form
  simp only [Sl.v, Value.slice.injEq] at hv
  obtain ⟨rfl, rfl, rfl⟩ := hv
  have hcc : ∀ x ∈ l, cntSeg x ≤ 2000000 := fun x hx => by have := cntL_mem (cnt := cntSeg) hx; omega
  have hll : l.length ≤ 2000000 := Nat.le_trans (cntL_len _ _) hl
  have hS : ∀ W, Below w.heap.size w W → Calls Try.prog 20 #[.slice A l.length c] W fun e w' => e = .returned (.bool (segsOk l)) ∧ Below W.heap.size W w' := fun W hW => implSegsOk_own l ⟨A, l.length, c⟩ W hl (RdL.more (RdL.below h hW) hW.size)
  cases hok : segsOk l
  case false =>
    have H := Lib.hid (show dropTo l q = l by unfold dropTo; rw [hok]; simp)
    rw [hok] at hS
    go_enter Try.func74, Try.ntmps74
    go_wp2_with (first | (go_at_call 119; refine (implCopySegs_own l ⟨A, l.length, c⟩ w hl h).mono ?_; rintro e w1 ⟨s1, F1, rfl, o1, n1, b1⟩) | (go_at_call 20; refine (hS _ b1).mono ?_; rintro e w2 ⟨rfl, b2⟩))
    go_ret
    rw [H.out]
    exact ⟨s1, F1, rfl, OwL.below o1 b2, n1, bnext b1 b2⟩
  have H := Lib.hid (show dropTo l q = dropL q l by unfold dropTo; rw [hok]; simp)
  rw [hok] at hS
  have hfit : ∀ x ∈ l, notesFit x = true := fun x hx => by
    obtain ⟨j, hj, rfl⟩ := List.getElem_of_mem hx
    exact (segFit_get hj ((segsOk_get hok).2.2 j hj)).2
  clear hok
  go_enter Try.func74, Try.ntmps74
  go_wp2_with (first | (go_at_call 119; refine (implCopySegs_own l ⟨A, l.length, c⟩ w hl h).mono ?_; rintro e w1 ⟨s1, F1, rfl, o1, n1, b1⟩) | (go_at_call 20; refine (hS _ b1).mono ?_; rintro e w2 ⟨rfl, b2⟩))
  have b12 := bnext b1 b2
  have o12 := OwL.below o1 b2
  obtain ⟨A1, n1', c1⟩ := s1
  obtain ⟨_, _, hv1, -⟩ := OwL.form o12
  simp only [Sl.v, Value.slice.injEq] at hv1
  obtain ⟨rfl, rfl, rfl⟩ := hv1
  clear hS hl h o1 b1 b2
  go_loopw [5] (fun v wr => ∃ (cur : List Seg) (F : List Nat) (A2 : Option Addr) (c2 : Nat), v = .slice A2 cur.length c2 ∧ OwL segD wr F (.slice A2 cur.length c2) cur ∧ Hid ((∀ b ∈ F, w.heap.size ≤ b) ∧ dropL q cur = dropL q l ∧ ∀ x ∈ cur, x ∈ l) ∧ cur.length ≤ l.length ∧ Below w.heap.size w wr) (fun v _ => lenV v)
  case atStart => exact ⟨l, F1, _, _, rfl, o12, ⟨n1, rfl, fun x hx => hx⟩, Nat.le_refl _, b12⟩
  case round =>
    clear o12 b12
    obtain ⟨cur, F, A2, c2, rfl, ho, hI, hcl, hb⟩ := hrel
    match cur, ho, hI, hcl with
    | [], ho, hI, hcl =>
      have e := Lib.hid (show dropTo l q = [] by rw [H.out, ← hI.out.2.1]; rfl)
      go_wp2
      skip
      go_wp2
      go_ret
      rw [e.out]
      exact ⟨⟨A2, 0, c2⟩, F, rfl, ho, hI.out.1, hb⟩
    | [x], ho, hI, hcl =>
      have e := Lib.hid (show dropTo l q = [x] by rw [H.out, ← hI.out.2.1]; rfl)
      go_wp2
      skip
      go_wp2
      go_ret
      rw [e.out]
      exact ⟨⟨A2, 1, c2⟩, F, rfl, ho, hI.out.1, hb⟩
    | x :: y :: cur, ho, hI, hcl =>
      obtain ⟨b, o, s', rfl, hbb, hr0, d0, d1⟩ := (OwL.rd ho).seg (k := 0) (by simp)
      simp only [List.getElem_cons_zero, Nat.zero_mul, Nat.add_zero] at hr0 d0 d1
      have hxm : x ∈ l := hI.out.2.2 x (by simp)
      obtain ⟨F', ho', hF'⟩ := ho.tail_
      have hc2 : ¬ c2 = 1 := by
        obtain ⟨_, c9, hv9, hc9⟩ := OwL.form ho
        simp only [Value.slice.injEq] at hv9
        simp only [List.length_cons] at hc9
        omega
      have hlen : ((cur.length + 1 + 1 : Nat) : Int) = (cur.length : Int) + 1 + 1 := by push_cast; rfl
      simp only [List.length_cons] at hcl
      cases hre : reach q x
      · have S : Hid ((∀ b ∈ F', w.heap.size ≤ b) ∧ dropL q (y :: cur) = dropL q l ∧ ∀ z ∈ y :: cur, z ∈ l) := ⟨fun g hg => hI.out.1 g (hF' g hg), by rw [← hI.out.2.1, dropL, hre]; simp, fun z hz => hI.out.2.2 z (List.mem_cons_of_mem _ hz)⟩
        go_wp2_with (go_at_call 120; refine (reaches_own x s' q _ (hcc x hxm) hr0).mono ?_; rintro e w3 ⟨rfl, b3⟩; simp only [hre])
        (try simp only [if_neg hc2])
        exact ⟨⟨y :: cur, F', _, _, rfl, OwL.below ho' b3, S, by simp; omega, bnext hb b3⟩, by simp [lenV]⟩
      · have e := Lib.hid (show dropTo l q = x :: y :: cur by rw [H.out, ← hI.out.2.1, dropL, hre]; simp)
        go_wp2_with (go_at_call 120; refine (reaches_own x s' q _ (hcc x hxm) hr0).mono ?_; rintro e w3 ⟨rfl, b3⟩; simp only [hre])
        go_ret
        rw [e.out]
        exact ⟨⟨_, _, c2⟩, F, rfl, OwL.below ho b3, hI.out.1, bnext hb b3⟩

theorem specDropTo_own (l : List Seg) (s : Sl) (q : Int) (w : World) (hl : cntL cntSeg l ≤ 2000000) (h : RdL segD w w.heap.size s.v l) :
    Calls Try.prog 73 #[.slice s.a s.n s.c, .int .i64 q] w (OwnPost (Dt.list segD) slV (dropTo l q) w) := by
  obtain ⟨A, n, c⟩ := s
  obtain ⟨A', c', hv, -⟩ := h.form
  simp only [Sl.v, Value.slice.injEq] at hv
  obtain ⟨rfl, rfl, rfl⟩ := hv
  have hcc : ∀ x ∈ l, cntSeg x ≤ 2000000 := fun x hx => by have := cntL_mem (cnt := cntSeg) hx; omega
  have hll : l.length ≤ 2000000 := Nat.le_trans (cntL_len _ _) hl
  have hS : ∀ W, Below w.heap.size w W → Calls Try.prog 18 #[.slice A l.length c] W fun e w' => e = .returned (.bool (segsOk l)) ∧ Below W.heap.size W w' := fun W hW => specSegsOk_own l ⟨A, l.length, c⟩ W hl (RdL.more (RdL.below h hW) hW.size)
  cases hok : segsOk l
  case false =>
    have H := Lib.hid (show dropTo l q = l by unfold dropTo; rw [hok]; simp)
    rw [hok] at hS
    go_enter Try.func73, Try.ntmps73
    go_wp2_with (first | (go_at_call 118; refine (specCopySegs_own l ⟨A, l.length, c⟩ w hl h).mono ?_; rintro e w1 ⟨s1, F1, rfl, o1, n1, b1⟩) | (go_at_call 18; refine (hS _ b1).mono ?_; rintro e w2 ⟨rfl, b2⟩))
    go_ret
    rw [H.out]
    exact ⟨s1, F1, rfl, OwL.below o1 b2, n1, bnext b1 b2⟩
  have H := Lib.hid (show dropTo l q = dropL q l by unfold dropTo; rw [hok]; simp)
  rw [hok] at hS
  have hfit : ∀ x ∈ l, notesFit x = true := fun x hx => by
    obtain ⟨j, hj, rfl⟩ := List.getElem_of_mem hx
    exact (segFit_get hj ((segsOk_get hok).2.2 j hj)).2
  clear hok
  go_enter Try.func73, Try.ntmps73
  go_wp2_with (first | (go_at_call 118; refine (specCopySegs_own l ⟨A, l.length, c⟩ w hl h).mono ?_; rintro e w1 ⟨s1, F1, rfl, o1, n1, b1⟩) | (go_at_call 18; refine (hS _ b1).mono ?_; rintro e w2 ⟨rfl, b2⟩))
  have b12 := bnext b1 b2
  have o12 := OwL.below o1 b2
  obtain ⟨A1, n1', c1⟩ := s1
  obtain ⟨_, _, hv1, -⟩ := OwL.form o12
  simp only [Sl.v, Value.slice.injEq] at hv1
  obtain ⟨rfl, rfl, rfl⟩ := hv1
  clear hS hl h o1 b1 b2
  go_loopw [5] (fun v wr => ∃ (cur : List Seg) (F : List Nat) (A2 : Option Addr) (c2 : Nat), v = .slice A2 cur.length c2 ∧ OwL segD wr F (.slice A2 cur.length c2) cur ∧ Hid ((∀ b ∈ F, w.heap.size ≤ b) ∧ dropL q cur = dropL q l ∧ ∀ x ∈ cur, x ∈ l) ∧ cur.length ≤ l.length ∧ Below w.heap.size w wr) (fun v _ => lenV v)
  case atStart => exact ⟨l, F1, _, _, rfl, o12, ⟨n1, rfl, fun x hx => hx⟩, Nat.le_refl _, b12⟩
  case round =>
    clear o12 b12
    obtain ⟨cur, F, A2, c2, rfl, ho, hI, hcl, hb⟩ := hrel
    match cur, ho, hI, hcl with
    | [], ho, hI, hcl =>
      have e := Lib.hid (show dropTo l q = [] by rw [H.out, ← hI.out.2.1]; rfl)
      go_wp2
      go_quiet (fail)
      go_wp2
      go_ret
      rw [e.out]
      exact ⟨⟨A2, 0, c2⟩, F, rfl, OwL.below ho ((bdrewN (Below.refl _ _) _)), hI.out.1, bdrewN hb _⟩
    | [x], ho, hI, hcl =>
      have e := Lib.hid (show dropTo l q = [x] by rw [H.out, ← hI.out.2.1]; rfl)
      go_wp2
      go_quiet (fail)
      go_wp2
      go_ret
      rw [e.out]
      exact ⟨⟨A2, 1, c2⟩, F, rfl, OwL.below ho ((bdrewN (Below.refl _ _) _)), hI.out.1, bdrewN hb _⟩
    | x :: y :: cur, ho, hI, hcl =>
      obtain ⟨b, o, s', rfl, hbb, hr0, d0, d1⟩ := (OwL.rd ho).seg (k := 0) (by simp)
      simp only [List.getElem_cons_zero, Nat.zero_mul, Nat.add_zero] at hr0 d0 d1
      have hxm : x ∈ l := hI.out.2.2 x (by simp)
      obtain ⟨F', ho', hF'⟩ := ho.tail_
      have hc2 : ¬ c2 = 1 := by
        obtain ⟨_, c9, hv9, hc9⟩ := OwL.form ho
        simp only [Value.slice.injEq] at hv9
        simp only [List.length_cons] at hc9
        omega
      have hlen : ((cur.length + 1 + 1 : Nat) : Int) = (cur.length : Int) + 1 + 1 := by push_cast; rfl
      simp only [List.length_cons] at hcl
      have hr : RdL noteD wr wr.heap.size s'.v x.notes := hr0
      obtain ⟨A3, n3, c3⟩ := s'
      obtain ⟨_, _, hv3, -⟩ := hr.form
      simp only [Sl.v, Value.slice.injEq] at hv3
      obtain ⟨rfl, rfl, rfl⟩ := hv3
      have hnl : x.notes.length ≤ 2000000 := Nat.le_trans (cntL_len cntNote _) (hcc x hxm)
      have hfx := hfit x hxm
      have g0 : decide ((1 : Int) < (cur.length : Int) + 1 + 1) = true := decide_eq_true (by omega)
      by_cases hz : 0 < x.notes.length
      · have t3 : ((x.notes.length : Int) == 0) = false := by rw [beq_eq_false_iff_ne]; omega
        obtain ⟨b4, o4, s4, rfl, hbb4, hr4, e0, -⟩ := hr.note (k := x.notes.length - 1) (by omega)
        have hpi : (0 : Int) < (x.notes.length : Int) := by omega
        cases hre : reach q x
        · have t4 : decide (x.notes[x.notes.length - 1].seq ≤ q) = true := by rw [reach_last hfx hz] at hre; simpa using hre
          have S : Hid ((∀ b ∈ F', w.heap.size ≤ b) ∧ dropL q (y :: cur) = dropL q l ∧ ∀ z ∈ y :: cur, z ∈ l) := ⟨fun g hg => hI.out.1 g (hF' g hg), by rw [← hI.out.2.1, dropL, hre]; simp, fun z hz => hI.out.2.2 z (List.mem_cons_of_mem _ hz)⟩
          clear hre
          go_wp2
          go_quiet (fail)
          go_wp2
          exact ⟨⟨y :: cur, F', _, _, rfl, OwL.below ho' (bdrewN (Below.refl _ _) _), S, by simp; omega, bdrewN hb _⟩, by simp [lenV]⟩
        · have t4 : decide (x.notes[x.notes.length - 1].seq ≤ q) = false := by rw [reach_last hfx hz] at hre; simpa using hre
          have e := Lib.hid (show dropTo l q = x :: y :: cur by rw [H.out, ← hI.out.2.1, dropL, hre]; simp)
          clear hre
          go_wp2
          go_quiet (fail)
          go_wp2
          go_ret
          rw [e.out]
          exact ⟨⟨_, _, c2⟩, F, rfl, OwL.below ho (bdrewN (Below.refl _ _) _), hI.out.1, bdrewN hb _⟩
      · have t3 : ((x.notes.length : Int) == 0) = true := by rw [beq_iff_eq]; omega
        have hre : reach q x = false := reach_empty hz
        have S : Hid ((∀ b ∈ F', w.heap.size ≤ b) ∧ dropL q (y :: cur) = dropL q l ∧ ∀ z ∈ y :: cur, z ∈ l) := ⟨fun g hg => hI.out.1 g (hF' g hg), by rw [← hI.out.2.1, dropL, hre]; simp, fun z hz => hI.out.2.2 z (List.mem_cons_of_mem _ hz)⟩
        clear hre hz
        go_wp2
        go_quiet (fail)
        go_wp2
        exact ⟨⟨y :: cur, F', _, _, rfl, OwL.below ho' (bdrewN (Below.refl _ _) _), S, by simp; omega, bdrewN hb _⟩, by simp [lenV]⟩

end Go.Proofs.Ytcapldjhcplfmaa
