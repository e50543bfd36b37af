/-
  Merged of the reference. l10Lay of the reference: tasks are laid on their run's shelf. Written by program (ke.py). A plan that is drawn is right; drawn weights; DrawWork, DrawPlans. Plain facts on plans turned round, reduced, laid beside and behind each other. l13Turn of the reference: a run of the yard is otherwise. The small helpers of the laws: lists and plans that are the same, a number in a list, ones. A run's own tasks that are written; l09Leave of the reference. l09Started of the reference: a run of which a task was handed out. l09Runs and RunFails of the reference. RunFails of the refe
-/
import Derived.Test.YtonlnjdempbfoaaZParts6
section
namespace Go.Proofs.Ytonlnjdempbfoaa
open Go.RowKit
set_option maxRecDepth 100000
set_option maxHeartbeats 2000000
set_option linter.unusedVariables false
set_option linter.unusedSimpArgs false
theorem fold_take {α β : Type} (f : β → α → β) (z : β) (l : List α) (k : Nat) (h : k < l.length) : (l.take (k + 1)).foldl f z = f ((l.take k).foldl f z) l[k] := by
 rw [List.take_succ_eq_append_getElem h, List.foldl_append]
 rfl
theorem specMerged_own (a b : List Entry) (s r : Sl) (w : World) (hl : a.length ≤ 2000000) (hl' : b.length ≤ 2000000) (h : RdL entryD w w.heap.size s.v a) (h' : RdL entryD w w.heap.size r.v b) :
  Calls Try.prog 70 #[.slice s.a s.n s.c, .slice r.a r.n r.c] w (OwnPost (Dt.list entryD) slV (mergedE a b) w) := by
 obtain ⟨A, n, c⟩ := s
 obtain rfl : n = a.length := RdL.at1 (s := ⟨A, n, c⟩) h
 obtain ⟨A', n', c'⟩ := r
 obtain rfl : n' = b.length := RdL.at1 (s := ⟨A', n', c'⟩) h'
 obtain ⟨i0, hi0, hz0, hz1, hz2⟩ := info_parts entE_info
 have h0 := Lib.hid (fun W (hW : Below w.heap.size w W) => ((ent_rd h).below hW).more hW.size)
 have q1 : Below w.heap.size w (w.alloc (.cells #[] 116)) := (Below.refl _ _).alloc (Nat.le_refl _) _
 by_cases h8 : 80 < a.length + b.length
 ·have hI : (80 : Int) < (a.length : Int) + (b.length : Int) := by omega
  have H := Lib.hid (show mergedE a b = a from if_pos h8)
  go_enter Try.func70, Try.ntmps70
  go_wp2_with (at_builtin; refine wpList_push_all _ entE (by decide) rfl (.tmp 7) (.tmp 8) rfl Try.underlying77 hi0 hz0 hz1 hz2 rfl (base := w.heap.size) (v := .slice (some ⟨w.heap.size, 0, none⟩) 0 0) (l := []) rfl (Ow.empty entE 116 w rfl) rfl (h0.out _ q1) (by simp) (by omega) (by decide) q1.size ?_; intro v1 w1 o1 g1 _; rw [List.nil_append] at o1; have d1 : Below w.heap.size w w1 := q1.grown g1 q1.size (fun g hg => Nat.le_of_eq (Option.some.inj hg)))
  obtain ⟨s9, F9, rfl, o9, n9⟩ := entry_ow o1
  go_ret
  exact ⟨s9, F9, rfl, by rw [H.out]; exact o9, n9, d1⟩
 have hI : ¬ (80 : Int) < (a.length : Int) + (b.length : Int) := by omega
 have H := Lib.hid (show mergedE a b = b.foldl putE a from if_neg h8)
 go_enter Try.func70, Try.ntmps70
 go_wp2_with (at_builtin; refine wpList_push_all _ entE (by decide) rfl (.tmp 7) (.tmp 8) rfl Try.underlying77 hi0 hz0 hz1 hz2 rfl (base := w.heap.size) (v := .slice (some ⟨w.heap.size, 0, none⟩) 0 0) (l := []) rfl (Ow.empty entE 116 w rfl) rfl (h0.out _ q1) (by simp) (by omega) (by decide) q1.size ?_; intro v1 w1 o1 g1 _; rw [List.nil_append] at o1; have d1 : Below w.heap.size w w1 := q1.grown g1 q1.size (fun g hg => Nat.le_of_eq (Option.some.inj hg)))
 obtain ⟨s9, F9, rfl, o9, n9⟩ := entry_ow o1
 go_loopw [5, 6] (fun x i wr => ∃ (k : Nat) (t : Sl) (F : List Nat), k ≤ b.length ∧ x = .slice t.a t.n t.c ∧ i = .int .i64 k ∧ Hid (OwL entryD wr F t.v ((b.take k).foldl putE a) ∧ (∀ x ∈ F, w.heap.size ≤ x)) ∧ Below w.heap.size w wr) (fun _ i _ => b.length - (intOf i).toNat)
 case atStart => exact ⟨0, s9, F9, Nat.zero_le _, rfl, rfl, ⟨o9, n9⟩, d1⟩
 case round =>
  clear o9 n9 d1 o1 g1
  obtain ⟨k, t, F, hk, rfl, rfl, hO, hb⟩ := hrel
  by_cases hlt : k < b.length
  ·have hltI : (k : Int) < (b.length : Int) := by omega
   obtain ⟨b1, o, _, rfl, hbb, _, c0, c1, c2, c3⟩ := (h'.below hb).entry hlt
   have hs := hb.size
   have hbw : b1 < wr.heap.size := by omega
   have HT := Lib.hid (fold_take putE a b k hlt)
   have hlen : ((b.take k).foldl putE a).length ≤ 2000000 := by rw [foldl_putE_len]; simp; omega
   have CP := Lib.hid (specPutEntry_own ((b.take k).foldl putE a) t b[k] wr hlen hO.out.1.rd)
   generalize (b.take k).foldl putE a = L at *
   go_wp2_with (go_at_call 88; refine CP.out.mono ?_; rintro e w2 ⟨t2, F2, rfl, o2, n2, b2⟩)
   exact ⟨⟨k + 1, t2, F2, by omega, rfl, by go_num, ⟨by rw [HT.out]; exact o2, fun x hx => Nat.le_trans hs (n2 x hx)⟩, bnext hb b2⟩, by simp [intOf]; omega⟩
  ·have hltI : ¬ (k : Int) < (b.length : Int) := by omega
   have HO := hO.out.1
   rw [List.take_of_length_le (by omega)] at HO
   go_wp2
   go_ret
   exact ⟨t, F, rfl, by rw [H.out]; exact HO, hO.out.2, hb⟩
end Go.Proofs.Ytonlnjdempbfoaa
end
section
namespace Go.Proofs.Ytonlnjdempbfoaa
open Go.RowKit
set_option maxRecDepth 100000
set_option maxHeartbeats 2000000
set_option linter.unusedVariables false
set_option linter.unusedSimpArgs false
def layN (y : Yard) (was r : Run) (n : Nat) : Yard := (newly was r n).foldl (fun y t => layT y r t) y
theorem layN_yes {y : Yard} {was r : Run} {n : Nat} (h1 : (taskAt r n).state = 2) (h2 : ¬ (taskAt was n).state = 2) : layN y was r (n + 1) = layT (layN y was r n) r n := by
 unfold layN
 rw [newly_succ, if_pos ⟨h1, h2⟩, List.foldl_append]
 rfl
theorem layN_no {y : Yard} {was r : Run} {n : Nat} (h : ¬ ((taskAt r n).state = 2 ∧ ¬ (taskAt was n).state = 2)) : layN y was r (n + 1) = layN y was r n := by
 unfold layN
 rw [newly_succ, if_neg h, List.append_nil]
theorem newly_len (was r : Run) (n : Nat) : (newly was r n).length ≤ n := by
 unfold newly
 exact Nat.le_trans (List.length_filter_le _ _) (by simp)
theorem fold_lay_len (r : Run) (M : Nat) : ∀ (l : List Nat) (y : Yard), (∀ s ∈ y.shelf, s.length ≤ M) → ∀ s ∈ (l.foldl (fun y t => layT y r t) y).shelf, s.length ≤ M + l.length
 | [], y, h => fun s hs => by simpa using h s hs
 | t :: l, y, h => fun s hs => by
  have h1 : ∀ s ∈ (layT y r t).shelf, s.length ≤ M + 1 := by
   intro s hs
   unfold layT at hs
   rcases List.mem_or_eq_of_mem_set hs with h2 | h2
   ·exact Nat.le_succ_of_le (h s h2)
   ·subst h2
    rw [putE_len, List.getD_eq_getElem?_getD]
    cases q : y.shelf[shelfNo r.id]? with
    | none => simp
    | some z => have := h z (List.mem_of_getElem? q); simp; omega
  have := fold_lay_len r (M + 1) l (layT y r t) h1 s hs
  rw [List.length_cons]
  omega
structure LayF (y : Yard) (r : Run) (M n : Nat) (z : Yard) : Prop where
 now : z.now = y.now
 runs : z.runs = y.runs
 len : z.shelf.length = y.shelf.length
 seq : y.seq ≤ z.seq ∧ z.seq ≤ y.seq + n
 all : ∀ s ∈ z.shelf, s.length ≤ M + n
theorem layN_f {y : Yard} {was r : Run} {M : Nat} (hM : ∀ s ∈ y.shelf, s.length ≤ M) (n : Nat) : LayF y r M n (layN y was r n) := by
 obtain ⟨h1, h2, h3, h4⟩ := fold_lay r (newly was r n) y
 have h5 := newly_len was r n
 exact ⟨h1, h2, h3, by unfold layN; rw [h4]; omega, fun s hs => Nat.le_trans (fold_lay_len r M (newly was r n) y hM s hs) (by omega)⟩
/-- a cell of a block that was not there at first is written -/
theorem Chg.high {F : List Nat} {a b : World} (h : Chg F a b) {g : Nat} (hg : a.heap.size ≤ g) (o : Nat) (u : Value) : Chg F a (b.setCell ⟨g, o, none⟩ u) :=
 ⟨h.os, h.tape, h.output, by simp [World.setCell]; exact h.size, fun i hi hn => (Below.heap_setCell b ⟨g, o, none⟩ u i (by show i ≠ g; omega)).trans (h.block i hi hn)⟩
theorem Chg.drew {F : List Nat} {a b : World} (h : Chg F a b) : Chg F a b.drew := ⟨h.os, h.tape, h.output, h.size, h.block⟩
/-- a yard with more on one of its shelves, its row of shelves in the block g -/
def LayPost (z : Yard) (g o cs n : Nat) (R : Sl) (Fs : List Nat) (w : World) (e : Ending) (w' : World) : Prop :=
 ∃ F', e = .returned (yardW z (⟨some ⟨g, o, none⟩, n, cs⟩, R)) ∧ OwL (Dt.list entryD) w' F' (.slice (some ⟨g, o, none⟩) n cs) z.shelf ∧ (∀ x ∈ F', x ∈ Fs ∨ w.heap.size ≤ x) ∧ Chg [g] w w'
theorem OwL.free0 {α : Type} {d : Dt α} {w : World} {F : List Nat} {b o n c : Nat} {l : List α} (h : OwL d w F (.slice (some ⟨b, o, none⟩) n c) l) (hp : 0 < l.length) : ∀ j, w.frozen? ⟨b, j, none⟩ = false := by
 obtain ⟨rs, H, G, hm, hh, ho, rfl, hn⟩ := h
 have hjr : 0 < rs.length := by rw [← hm, List.length_map] at hp; exact hp
 obtain ⟨b', o', hA, rfl, hbl, hf⟩ := hh.at_ hjr
 simp only [Option.some.injEq, Addr.mk.injEq, and_true] at hA
 obtain ⟨rfl, rfl⟩ := hA
 exact hf
theorem lay_res {b : Nat} {w : World} {u0 u1 u2 u3 : Value} (X : DBox b [u0, u1, u2, u3] w) {v0 v1 v2 v3 v4 v5 : Value} {rest : List Value} :
  (results Try.f66 (v0 :: v1 :: v2 :: v3 :: v4 :: v5 :: .pointer (some ⟨b, 0, none⟩) :: rest).toArray).run Try.prog w = .ok (.agg #[u0, u1, u2, u3]) w := by
 have c0 := X.cell 0 _ rfl
 have c1 := X.cell 1 _ rfl
 have c2 := X.cell 2 _ rfl
 have c3 := X.cell 3 _ rfl
 simp [results, Try.results66, go_sem, c0, c1, c2, c3]
theorem specLay_own (y : Yard) (g o cs : Nat) (R : Sl) (was : Run) (sw : Sl × Sl) (r : Run) (sr : Sl × Sl) (w : World) (Fs : List Nat) (h4 : y.shelf.length = 4) (hM : ∀ s ∈ y.shelf, s.length ≤ 1000000) (hq : 0 ≤ y.seq ∧ y.seq ≤ 2000000000) (hT : r.tasks.length ≤ 1000) (hT2 : was.tasks.length ≤ 1000)
  (hs : OwL (Dt.list entryD) w Fs (.slice (some ⟨g, o, none⟩) y.shelf.length cs) y.shelf)
  (HR : Hid (∀ W, Chg [g] w W → RdL taskD W W.heap.size (.slice sr.2.a sr.2.n sr.2.c) r.tasks)) (HW : Hid (∀ W, Chg [g] w W → RdL taskD W W.heap.size (.slice sw.2.a sw.2.n sw.2.c) was.tasks)) :
  Calls Try.prog 66 #[yardW y (⟨some ⟨g, o, none⟩, y.shelf.length, cs⟩, R), runW was sw, runW r sr] w (LayPost (layY y was r) g o cs y.shelf.length R Fs w) := by
 have hgF : g < w.heap.size := by
  obtain ⟨b, o', s, hA, hb, _⟩ := hs.rd.entryS (k := 0) (by omega)
  simp only [Option.some.injEq, Addr.mk.injEq, and_true] at hA
  omega
 have hFs := Lib.hid hs.lt
 have hk4 : shelfNo r.id < y.shelf.length := by rw [h4]; exact shelfNo_lt _
 obtain ⟨⟨ea, en, ec⟩, ⟨ta, tn, tc⟩⟩ := sr
 obtain ⟨⟨ea', en', ec'⟩, ⟨ta', tn', tc'⟩⟩ := sw
 have htn : tn = r.tasks.length := RdL.at1 (s := ⟨ta, tn, tc⟩) (HR.out w (Chg.refl _ _))
 have htn' : tn' = was.tasks.length := RdL.at1 (s := ⟨ta', tn', tc'⟩) (HW.out w (Chg.refl _ _))
 subst htn htn'
 replace h4 := Lib.hid h4
 have Y := (((DBox.new 61 [.int .i64 y.now, .int .i64 y.seq, .slice (some ⟨g, o, none⟩) y.shelf.length cs, .slice R.a R.n R.c] w (b := w.heap.size) rfl).below ((Below.refl _ _).alloc (Nat.le_refl _) (.cells #[.int .i64 was.id, .int .i64 was.plan.prio, .int .i64 was.plan.most, .int .i64 was.plan.wait, .int .i64 was.plan.tasks, .slice ea' en' ec', .int .i64 was.state, .slice ta' was.tasks.length tc'] 98))).below ((Below.refl _ _).alloc (Nat.le_refl _) (.cells #[.int .i64 r.id, .int .i64 r.plan.prio, .int .i64 r.plan.most, .int .i64 r.plan.wait, .int .i64 r.plan.tasks, .slice ea en ec, .int .i64 r.state, .slice ta r.tasks.length tc] 98))).below ((Below.refl _ _).alloc (Nat.le_refl _) (.cells #[.int .i64 0, .int .i64 0, .slice none 0 0, .slice none 0 0] 61))
 have WB := ((DBox.new 98 [.int .i64 was.id, .int .i64 was.plan.prio, .int .i64 was.plan.most, .int .i64 was.plan.wait, .int .i64 was.plan.tasks, .slice ea' en' ec', .int .i64 was.state, .slice ta' was.tasks.length tc'] (w.alloc (.cells #[.int .i64 y.now, .int .i64 y.seq, .slice (some ⟨g, o, none⟩) y.shelf.length cs, .slice R.a R.n R.c] 61)) (b := w.heap.size + 1) (by simp)).below ((Below.refl _ _).alloc (Nat.le_refl _) (.cells #[.int .i64 r.id, .int .i64 r.plan.prio, .int .i64 r.plan.most, .int .i64 r.plan.wait, .int .i64 r.plan.tasks, .slice ea en ec, .int .i64 r.state, .slice ta r.tasks.length tc] 98))).below ((Below.refl _ _).alloc (Nat.le_refl _) (.cells #[.int .i64 0, .int .i64 0, .slice none 0 0, .slice none 0 0] 61))
 have RB := (DBox.new 98 [.int .i64 r.id, .int .i64 r.plan.prio, .int .i64 r.plan.most, .int .i64 r.plan.wait, .int .i64 r.plan.tasks, .slice ea en ec, .int .i64 r.state, .slice ta r.tasks.length tc] ((w.alloc (.cells #[.int .i64 y.now, .int .i64 y.seq, .slice (some ⟨g, o, none⟩) y.shelf.length cs, .slice R.a R.n R.c] 61)).alloc (.cells #[.int .i64 was.id, .int .i64 was.plan.prio, .int .i64 was.plan.most, .int .i64 was.plan.wait, .int .i64 was.plan.tasks, .slice ea' en' ec', .int .i64 was.state, .slice ta' was.tasks.length tc'] 98)) (b := w.heap.size + 1 + 1) (by simp)).below ((Below.refl _ _).alloc (Nat.le_refl _) (.cells #[.int .i64 0, .int .i64 0, .slice none 0 0, .slice none 0 0] 61))
 have RES := DBox.new 61 [.int .i64 0, .int .i64 0, .slice none 0 0, .slice none 0 0] (((w.alloc (.cells #[.int .i64 y.now, .int .i64 y.seq, .slice (some ⟨g, o, none⟩) y.shelf.length cs, .slice R.a R.n R.c] 61)).alloc (.cells #[.int .i64 was.id, .int .i64 was.plan.prio, .int .i64 was.plan.most, .int .i64 was.plan.wait, .int .i64 was.plan.tasks, .slice ea' en' ec', .int .i64 was.state, .slice ta' was.tasks.length tc'] 98)).alloc (.cells #[.int .i64 r.id, .int .i64 r.plan.prio, .int .i64 r.plan.most, .int .i64 r.plan.wait, .int .i64 r.plan.tasks, .slice ea en ec, .int .i64 r.state, .slice ta r.tasks.length tc] 98)) (b := w.heap.size + 1 + 1 + 1) (by simp)
 have B0 : Below w.heap.size w ((((w.alloc (.cells #[.int .i64 y.now, .int .i64 y.seq, .slice (some ⟨g, o, none⟩) y.shelf.length cs, .slice R.a R.n R.c] 61)).alloc (.cells #[.int .i64 was.id, .int .i64 was.plan.prio, .int .i64 was.plan.most, .int .i64 was.plan.wait, .int .i64 was.plan.tasks, .slice ea' en' ec', .int .i64 was.state, .slice ta' was.tasks.length tc'] 98)).alloc (.cells #[.int .i64 r.id, .int .i64 r.plan.prio, .int .i64 r.plan.most, .int .i64 r.plan.wait, .int .i64 r.plan.tasks, .slice ea en ec, .int .i64 r.state, .slice ta r.tasks.length tc] 98)).alloc (.cells #[.int .i64 0, .int .i64 0, .slice none 0 0, .slice none 0 0] 61)) := by repeat (first | exact Below.refl _ _ | refine Below.alloc ?_ (by simp <;> omega) _)
 go_enter Try.func66, Try.ntmps66
 go_wp2_with (go_at_call 87; refine (specShelfOf_any r.id _).mono ?_; rintro e w1 ⟨rfl, b1⟩)
 replace Y := Y.below b1
 replace WB := WB.below b1
 replace RB := RB.below b1
 replace RES := RES.below b1
 replace B0 := bnext B0 b1
 clear b1
 generalize yardW y (⟨some ⟨g, o, none⟩, y.shelf.length, cs⟩, R) = yv
 generalize runW was (⟨ea', en', ec'⟩, ⟨ta', was.tasks.length, tc'⟩) = wv
 generalize runW r (⟨ea, en, ec⟩, ⟨ta, r.tasks.length, tc⟩) = rv
 have C0 := Chg.of_below [g] B0
 have hO0 := hs.below B0
 go_loopw [8] (fun i wr => ∃ (n : Nat) (F : List Nat), n ≤ r.tasks.length ∧ i = .int .i64 n ∧ Hid (OwL (Dt.list entryD) wr F (.slice (some ⟨g, o, none⟩) y.shelf.length cs) (layN y was r n).shelf ∧ (∀ x ∈ F, x ∈ Fs ∨ w.heap.size + 4 ≤ x)) ∧ DBox w.heap.size [.int .i64 y.now, .int .i64 (layN y was r n).seq, .slice (some ⟨g, o, none⟩) y.shelf.length cs, .slice R.a R.n R.c] wr ∧ DBox (w.heap.size + 1) [.int .i64 was.id, .int .i64 was.plan.prio, .int .i64 was.plan.most, .int .i64 was.plan.wait, .int .i64 was.plan.tasks, .slice ea' en' ec', .int .i64 was.state, .slice ta' was.tasks.length tc'] wr ∧ DBox (w.heap.size + 1 + 1) [.int .i64 r.id, .int .i64 r.plan.prio, .int .i64 r.plan.most, .int .i64 r.plan.wait, .int .i64 r.plan.tasks, .slice ea en ec, .int .i64 r.state, .slice ta r.tasks.length tc] wr ∧ DBox (w.heap.size + 1 + 1 + 1) [.int .i64 0, .int .i64 0, .slice none 0 0, .slice none 0 0] wr ∧ Chg [g] w wr) (fun i _ => r.tasks.length - (intOf i).toNat)
 case atStart => exact ⟨0, Fs, Nat.zero_le _, rfl, ⟨hO0, fun x hx => .inl hx⟩, Y, WB, RB, RES, C0⟩
 case round =>
  clear Y WB RB RES C0 hO0 B0
  obtain ⟨n, F, hn, rfl, hO, Y, WB, RB, RES, hb⟩ := hrel
  have hf := layN_f (was := was) (r := r) hM n
  obtain ⟨Y_0, Y_1, Y_2, Y_3, Y_l⟩ := Y.g4
  obtain ⟨WB_0, WB_1, WB_2, WB_3, WB_4, WB_5, WB_6, WB_7, WB_l⟩ := WB.g8
  obtain ⟨RB_0, RB_1, RB_2, RB_3, RB_4, RB_5, RB_6, RB_7, RB_l⟩ := RB.g8
  obtain ⟨RES_0, RES_1, RES_2, RES_3, RES_l⟩ := RES.g4
  by_cases hlt : n < r.tasks.length
  case neg =>
   have hltI : ¬ (n : Int) < (r.tasks.length : Int) := by omega
   obtain rfl : n = r.tasks.length := by omega
   have HE : Hid (layN y was r r.tasks.length = layY y was r) := rfl
   have rf := RES.free
   go_wp2
   have R4 := DBox.row4 RES rfl (.int .i64 y.now) (.int .i64 (layN y was r r.tasks.length).seq) (.slice (some ⟨g, o, none⟩) y.shelf.length cs) (.slice R.a R.n R.c)
   refine bodyPost_ret (lay_res R4) rfl ⟨F, ?_, ?_, ?_, ?_⟩
   ·rw [← HE.out, ← hf.now]
   ·rw [← HE.out]
    have hn3 : w.heap.size + 1 + 1 + 1 ∉ F := fun hx => by rcases hO.out.2 _ hx with h | h; (have := hFs.out _ h; omega); omega
    exact (((hO.out.1.set (a := ⟨_, _, none⟩) hn3 _).set (a := ⟨_, _, none⟩) hn3 _).set (a := ⟨_, _, none⟩) hn3 _).set (a := ⟨_, _, none⟩) hn3 _
   ·exact fun x hx => (hO.out.2 x hx).imp id (fun h => by omega)
   ·exact (((hb.high (by omega) _ _).high (by omega) _ _).high (by omega) _ _).high (by omega) _ _
  have hltI : (n : Int) < (r.tasks.length : Int) := by omega
  have hn0 : (0 : Int) ≤ (n : Int) := by omega
  obtain ⟨b1, o1, _, rfl, hbb, _, c0, -, -, -⟩ := (HR.out wr hb).task hlt
  have ht := Lib.hid (taskAt_get hlt)
  by_cases q1 : r.tasks[n].state = 2
  case neg =>
   have q2 : (r.tasks[n].state != 2) = true := by simp [q1]
   have hstep := Lib.hid (layN_no (y := y) (was := was) (r := r) (n := n) (fun h => by rw [ht.out] at h; exact q1 h.1))
   clear q1
   go_wp2
   exact ⟨⟨n + 1, F, by omega, by go_num, by rw [hstep.out]; exact hO, by rw [hstep.out]; exact Y, WB, RB, RES, hb⟩, by simp [intOf]; omega⟩
  have q2 : (r.tasks[n].state != 2) = false := by simp [q1]
  have hr2 := Lib.hid (show (taskAt r n).state = 2 by rw [ht.out]; exact q1)
  clear q1
  by_cases hlw : n < was.tasks.length
  ·have hlwI : (n : Int) < (was.tasks.length : Int) := by omega
   obtain ⟨b2, o2, _, rfl, hbb2, _, d0, -, -, -⟩ := (HW.out wr hb).task hlw
   have ht2 := Lib.hid (taskAt_get hlw)
   by_cases q3 : was.tasks[n].state = 2
   ·have q4 : (was.tasks[n].state == 2) = true := by simp [q3]
    have hstep := Lib.hid (layN_no (y := y) (was := was) (r := r) (n := n) (fun h => by rw [ht2.out] at h; exact h.2 q3))
    clear q3
    go_wp2
    exact ⟨⟨n + 1, F, by omega, by go_num, by rw [hstep.out]; exact hO, by rw [hstep.out]; exact Y, WB, RB, RES, hb⟩, by simp [intOf]; omega⟩
   ·have q4 : (was.tasks[n].state == 2) = false := by simp [q3]
    have hstep := Lib.hid (layN_yes (y := y) hr2.out (show ¬ (taskAt was n).state = 2 by rw [ht2.out]; exact q3))
    clear q3
    have hkz : shelfNo r.id < (layN y was r n).shelf.length := by rw [hf.len]; exact hk4
    obtain ⟨b9, o9, sk, hA9, hbb9, hrk, ck⟩ := hO.out.1.rd.entryS hkz
    simp only [Option.some.injEq, Addr.mk.injEq, and_true] at hA9
    obtain ⟨rfl, rfl⟩ := hA9
    have hkI : ((shelfNo r.id : Nat) : Int) < (y.shelf.length : Int) := by omega
    have hk0 : (0 : Int) ≤ ((shelfNo r.id : Nat) : Int) := by omega
    have hzl : (layN y was r n).shelf[shelfNo r.id].length ≤ 2000000 := by have := hf.all _ (List.getElem_mem hkz); omega
    have hgd := Lib.hid (show (layN y was r n).shelf.getD (shelfNo r.id) [] = (layN y was r n).shelf[shelfNo r.id] by rw [List.getD_eq_getElem?_getD, List.getElem?_eq_getElem hkz]; rfl)
    have hfr := hO.out.1.free0 (by omega)
    have CP := Lib.hid (specPutEntry_own (layN y was r n).shelf[shelfNo r.id] sk ⟨r.plan.prio, (layN y was r n).seq, r.id, n⟩ wr.drew hzl (hrk.below (Below.refl _ _).drew))
    go_wp2
    refine wp_region_last (fun w' => w'.cell? ⟨w.heap.size, 1, none⟩ = some (.int .i64 (layN y was r n).seq) ∧ w'.cell? ⟨w.heap.size, 2, none⟩ = some (.slice (some ⟨g, o, none⟩) y.shelf.length cs) ∧ w'.cell? ⟨w.heap.size + 1 + 1, 0, none⟩ = some (.int .i64 r.id) ∧ w'.cell? ⟨w.heap.size + 1 + 1, 1, none⟩ = some (.int .i64 r.plan.prio) ∧ w'.cell? ⟨g, o + shelfNo r.id, none⟩ = some (.slice sk.a sk.n sk.c)) 19 (by kernel_rfl) ?_ (fun hHeld => ?_)
    ·exact ⟨Y_1, Y_2, RB_0, RB_1, ck⟩
    refine aT 0 hHeld ?_
    try simp only [pS]
    refine aT 1 hHeld ?_
    try simp only [pS]
    refine aT 2 hHeld ?_
    try simp only [pS]
    refine aT 3 hHeld ?_
    try simp only [pS]
    refine aT 4 hHeld ?_
    try simp only [pS]
    refine aT 5 hHeld ?_
    try simp only [pS]
    refine aT 6 hHeld ?_
    try simp only [pS]
    refine aT 7 hHeld ?_
    try simp only [pS]
    refine aT 8 hHeld ?_
    try simp only [pS]
    refine aT 9 hHeld ?_
    try simp only [pS]
    refine aT 10 hHeld ?_
    try simp only [pS]
    refine aT 11 hHeld ?_
    try simp only [pS]
    refine aT 12 hHeld ?_
    try simp only [pS]
    refine aT 13 hHeld ?_
    try simp only [pS]
    refine aT 14 hHeld ?_
    try simp only [pS]
    refine aT 15 hHeld ?_
    try simp only [pS]
    refine aT 16 hHeld ?_
    try simp only [pS]
    refine oT 17 (fun K hK => ?_)
    (go_simp; refine CP.out.mono ?_; rintro e w2 ⟨t2, F2, rfl, o2, n2, b2⟩; have hgs : w2.cell? ⟨g, o + shelfNo r.id, none⟩ = some (.slice sk.a sk.n sk.c) := (b2.cell (p := ⟨_, _, none⟩) (by show g < wr.heap.size; have := hb.size; omega)).trans ck; have hgf : w2.frozen? ⟨g, o + shelfNo r.id, none⟩ = false := (b2.frozen (p := ⟨_, _, none⟩) (by show g < wr.heap.size; have := hb.size; omega)).trans (hfr _))
    refine hK.out _ _ (fun _ => ?_) ?_
    ·exact ⟨(b2.cell (p := ⟨_, _, none⟩) (by show w.heap.size < wr.heap.size; omega)).trans Y_1, (b2.cell (p := ⟨_, _, none⟩) (by show w.heap.size < wr.heap.size; omega)).trans Y_2, (b2.cell (p := ⟨_, _, none⟩) (by show w.heap.size + 1 + 1 < wr.heap.size; omega)).trans RB_0, (b2.cell (p := ⟨_, _, none⟩) (by show w.heap.size + 1 + 1 < wr.heap.size; omega)).trans RB_1, (b2.cell (p := ⟨_, _, none⟩) (by show g < wr.heap.size; have := hb.size; omega)).trans ck⟩
    clear hK K
    try simp only [pS]
    refine oT 18 (fun K hK => ?_)
    go_simp
    refine hK.out _ _ (fun _ => ?_) ?_
    ·exact ⟨(b2.cell (p := ⟨_, _, none⟩) (by show w.heap.size < wr.heap.size; omega)).trans Y_1, (b2.cell (p := ⟨_, _, none⟩) (by show w.heap.size < wr.heap.size; omega)).trans Y_2, (b2.cell (p := ⟨_, _, none⟩) (by show w.heap.size + 1 + 1 < wr.heap.size; omega)).trans RB_0, (b2.cell (p := ⟨_, _, none⟩) (by show w.heap.size + 1 + 1 < wr.heap.size; omega)).trans RB_1, (b2.cell (p := ⟨_, _, none⟩) (by show g < wr.heap.size; have := hb.size; omega)).trans ck⟩
    clear hK K
    try simp only [pS]
    refine oT 19 (fun K hK => ?_)
    go_simp
    refine hK.out _ _ (fun hne => absurd rfl hne) ?_
    clear hK K
    try simp only [pS]
    refine wpAnyL_done (by kernel_rfl) ?_ _
    have b2' : Below wr.heap.size wr w2 := bnext (Below.refl _ _).drew b2
    obtain ⟨F', p1, p2, p3, p4⟩ := OwL.swap (hO.out.1.below b2') hkz (y := putE (layN y was r n).shelf[shelfNo r.id] ⟨r.plan.prio, (layN y was r n).seq, r.id, n⟩) (s := t2) (Fy := F2) o2 (fun x hx hxF => by have h1 := n2 x hx; have h2 := hO.out.1.lt x hxF; have h3 : wr.drew.heap.size = wr.heap.size := rfl; omega)
    have hw3 : wSeq w2 g (o + shelfNo r.id * (Dt.list entryD).enc.sz) ((Dt.list entryD).enc.cells (putE (layN y was r n).shelf[shelfNo r.id] ⟨r.plan.prio, (layN y was r n).seq, r.id, n⟩, t2)) = w2.setCell ⟨g, o + shelfNo r.id, none⟩ (.slice t2.a t2.n t2.c) := by
     rw [show (Dt.list entryD).enc.sz = 1 from rfl, Nat.mul_one]; rfl
    rw [hw3] at p1
    have B3 : Chg [g] w (w2.setCell ⟨g, o + shelfNo r.id, none⟩ (.slice t2.a t2.n t2.c)) := (hb.trans (Chg.of_below [g] b2')).trans (Chg.setCell w2 g _ _)
    have hsz := RES_l
    clear Y_0 Y_1 Y_2 Y_3 Y_l
    clear WB_0 WB_1 WB_2 WB_3 WB_4 WB_5 WB_6 WB_7 WB_l
    clear RB_0 RB_1 RB_2 RB_3 RB_4 RB_5 RB_6 RB_7 RB_l
    clear RES_0 RES_1 RES_2 RES_3 RES_l
    replace Y := (Y.below b2').setOther (a := ⟨g, o + shelfNo r.id, none⟩) (by show w.heap.size ≠ g; omega) (.slice t2.a t2.n t2.c)
    replace WB := (WB.below b2').setOther (a := ⟨g, o + shelfNo r.id, none⟩) (by show w.heap.size + 1 ≠ g; omega) (.slice t2.a t2.n t2.c)
    replace RB := (RB.below b2').setOther (a := ⟨g, o + shelfNo r.id, none⟩) (by show w.heap.size + 1 + 1 ≠ g; omega) (.slice t2.a t2.n t2.c)
    replace RES := (RES.below b2').setOther (a := ⟨g, o + shelfNo r.id, none⟩) (by show w.heap.size + 1 + 1 + 1 ≠ g; omega) (.slice t2.a t2.n t2.c)
    generalize w2.setCell ⟨g, o + shelfNo r.id, none⟩ (.slice t2.a t2.n t2.c) = w3 at *
    have hl1 := hf.seq
    have y1 := Y.cell 1 _ rfl
    have yf := Y.free
    have yl := Y.lt
    have hhs : w.heap.size ∉ F' := fun hx => by rcases p2 _ hx with h | h; (rcases hO.out.2 _ h with h | h; (have := hFs.out _ h; omega); omega); (have := n2 _ h; have h3 : wr.drew.heap.size = wr.heap.size := rfl; omega)
    clear hHeld
    go_wp2
    exact ⟨⟨n + 1, F', by omega, by go_num, ⟨by rw [hstep.out]; unfold layT; rw [hgd.out]; exact p1.set (a := ⟨w.heap.size, 1, none⟩) hhs _, fun x hx => by rcases p2 x hx with h | h; exact hO.out.2 x h; right; have := n2 _ h; have h3 : wr.drew.heap.size = wr.heap.size := rfl; omega⟩, by rw [hstep.out]; exact Y.set 1 (by simp) _, WB.setOther (by show w.heap.size + 1 ≠ w.heap.size; omega) _, RB.setOther (by show w.heap.size + 1 + 1 ≠ w.heap.size; omega) _, RES.setOther (by show w.heap.size + 1 + 1 + 1 ≠ w.heap.size; omega) _, B3.high (Nat.le_refl _) _ _⟩, by simp [intOf]; omega⟩
  ·have hlwI : ¬ (n : Int) < (was.tasks.length : Int) := by omega
   have hstep := Lib.hid (layN_yes (y := y) hr2.out (show ¬ (taskAt was n).state = 2 by unfold taskAt; rw [List.getD_eq_getElem?_getD, List.getElem?_eq_none (by omega)]; simp))
   have hkz : shelfNo r.id < (layN y was r n).shelf.length := by rw [hf.len]; exact hk4
   obtain ⟨b9, o9, sk, hA9, hbb9, hrk, ck⟩ := hO.out.1.rd.entryS hkz
   simp only [Option.some.injEq, Addr.mk.injEq, and_true] at hA9
   obtain ⟨rfl, rfl⟩ := hA9
   have hkI : ((shelfNo r.id : Nat) : Int) < (y.shelf.length : Int) := by omega
   have hk0 : (0 : Int) ≤ ((shelfNo r.id : Nat) : Int) := by omega
   have hzl : (layN y was r n).shelf[shelfNo r.id].length ≤ 2000000 := by have := hf.all _ (List.getElem_mem hkz); omega
   have hgd := Lib.hid (show (layN y was r n).shelf.getD (shelfNo r.id) [] = (layN y was r n).shelf[shelfNo r.id] by rw [List.getD_eq_getElem?_getD, List.getElem?_eq_getElem hkz]; rfl)
   have hfr := hO.out.1.free0 (by omega)
   have CP := Lib.hid (specPutEntry_own (layN y was r n).shelf[shelfNo r.id] sk ⟨r.plan.prio, (layN y was r n).seq, r.id, n⟩ wr.drew hzl (hrk.below (Below.refl _ _).drew))
   go_wp2
   refine wp_region_last (fun w' => w'.cell? ⟨w.heap.size, 1, none⟩ = some (.int .i64 (layN y was r n).seq) ∧ w'.cell? ⟨w.heap.size, 2, none⟩ = some (.slice (some ⟨g, o, none⟩) y.shelf.length cs) ∧ w'.cell? ⟨w.heap.size + 1 + 1, 0, none⟩ = some (.int .i64 r.id) ∧ w'.cell? ⟨w.heap.size + 1 + 1, 1, none⟩ = some (.int .i64 r.plan.prio) ∧ w'.cell? ⟨g, o + shelfNo r.id, none⟩ = some (.slice sk.a sk.n sk.c)) 19 (by kernel_rfl) ?_ (fun hHeld => ?_)
   ·exact ⟨Y_1, Y_2, RB_0, RB_1, ck⟩
   refine aT 0 hHeld ?_
   try simp only [pS]
   refine aT 1 hHeld ?_
   try simp only [pS]
   refine aT 2 hHeld ?_
   try simp only [pS]
   refine aT 3 hHeld ?_
   try simp only [pS]
   refine aT 4 hHeld ?_
   try simp only [pS]
   refine aT 5 hHeld ?_
   try simp only [pS]
   refine aT 6 hHeld ?_
   try simp only [pS]
   refine aT 7 hHeld ?_
   try simp only [pS]
   refine aT 8 hHeld ?_
   try simp only [pS]
   refine aT 9 hHeld ?_
   try simp only [pS]
   refine aT 10 hHeld ?_
   try simp only [pS]
   refine aT 11 hHeld ?_
   try simp only [pS]
   refine aT 12 hHeld ?_
   try simp only [pS]
   refine aT 13 hHeld ?_
   try simp only [pS]
   refine aT 14 hHeld ?_
   try simp only [pS]
   refine aT 15 hHeld ?_
   try simp only [pS]
   refine aT 16 hHeld ?_
   try simp only [pS]
   refine oT 17 (fun K hK => ?_)
   (go_simp; refine CP.out.mono ?_; rintro e w2 ⟨t2, F2, rfl, o2, n2, b2⟩; have hgs : w2.cell? ⟨g, o + shelfNo r.id, none⟩ = some (.slice sk.a sk.n sk.c) := (b2.cell (p := ⟨_, _, none⟩) (by show g < wr.heap.size; have := hb.size; omega)).trans ck; have hgf : w2.frozen? ⟨g, o + shelfNo r.id, none⟩ = false := (b2.frozen (p := ⟨_, _, none⟩) (by show g < wr.heap.size; have := hb.size; omega)).trans (hfr _))
   refine hK.out _ _ (fun _ => ?_) ?_
   ·exact ⟨(b2.cell (p := ⟨_, _, none⟩) (by show w.heap.size < wr.heap.size; omega)).trans Y_1, (b2.cell (p := ⟨_, _, none⟩) (by show w.heap.size < wr.heap.size; omega)).trans Y_2, (b2.cell (p := ⟨_, _, none⟩) (by show w.heap.size + 1 + 1 < wr.heap.size; omega)).trans RB_0, (b2.cell (p := ⟨_, _, none⟩) (by show w.heap.size + 1 + 1 < wr.heap.size; omega)).trans RB_1, (b2.cell (p := ⟨_, _, none⟩) (by show g < wr.heap.size; have := hb.size; omega)).trans ck⟩
   clear hK K
   try simp only [pS]
   refine oT 18 (fun K hK => ?_)
   go_simp
   refine hK.out _ _ (fun _ => ?_) ?_
   ·exact ⟨(b2.cell (p := ⟨_, _, none⟩) (by show w.heap.size < wr.heap.size; omega)).trans Y_1, (b2.cell (p := ⟨_, _, none⟩) (by show w.heap.size < wr.heap.size; omega)).trans Y_2, (b2.cell (p := ⟨_, _, none⟩) (by show w.heap.size + 1 + 1 < wr.heap.size; omega)).trans RB_0, (b2.cell (p := ⟨_, _, none⟩) (by show w.heap.size + 1 + 1 < wr.heap.size; omega)).trans RB_1, (b2.cell (p := ⟨_, _, none⟩) (by show g < wr.heap.size; have := hb.size; omega)).trans ck⟩
   clear hK K
   try simp only [pS]
   refine oT 19 (fun K hK => ?_)
   go_simp
   refine hK.out _ _ (fun hne => absurd rfl hne) ?_
   clear hK K
   try simp only [pS]
   refine wpAnyL_done (by kernel_rfl) ?_ _
   have b2' : Below wr.heap.size wr w2 := bnext (Below.refl _ _).drew b2
   obtain ⟨F', p1, p2, p3, p4⟩ := OwL.swap (hO.out.1.below b2') hkz (y := putE (layN y was r n).shelf[shelfNo r.id] ⟨r.plan.prio, (layN y was r n).seq, r.id, n⟩) (s := t2) (Fy := F2) o2 (fun x hx hxF => by have h1 := n2 x hx; have h2 := hO.out.1.lt x hxF; have h3 : wr.drew.heap.size = wr.heap.size := rfl; omega)
   have hw3 : wSeq w2 g (o + shelfNo r.id * (Dt.list entryD).enc.sz) ((Dt.list entryD).enc.cells (putE (layN y was r n).shelf[shelfNo r.id] ⟨r.plan.prio, (layN y was r n).seq, r.id, n⟩, t2)) = w2.setCell ⟨g, o + shelfNo r.id, none⟩ (.slice t2.a t2.n t2.c) := by
    rw [show (Dt.list entryD).enc.sz = 1 from rfl, Nat.mul_one]; rfl
   rw [hw3] at p1
   have B3 : Chg [g] w (w2.setCell ⟨g, o + shelfNo r.id, none⟩ (.slice t2.a t2.n t2.c)) := (hb.trans (Chg.of_below [g] b2')).trans (Chg.setCell w2 g _ _)
   have hsz := RES_l
   clear Y_0 Y_1 Y_2 Y_3 Y_l
   clear WB_0 WB_1 WB_2 WB_3 WB_4 WB_5 WB_6 WB_7 WB_l
   clear RB_0 RB_1 RB_2 RB_3 RB_4 RB_5 RB_6 RB_7 RB_l
   clear RES_0 RES_1 RES_2 RES_3 RES_l
   replace Y := (Y.below b2').setOther (a := ⟨g, o + shelfNo r.id, none⟩) (by show w.heap.size ≠ g; omega) (.slice t2.a t2.n t2.c)
   replace WB := (WB.below b2').setOther (a := ⟨g, o + shelfNo r.id, none⟩) (by show w.heap.size + 1 ≠ g; omega) (.slice t2.a t2.n t2.c)
   replace RB := (RB.below b2').setOther (a := ⟨g, o + shelfNo r.id, none⟩) (by show w.heap.size + 1 + 1 ≠ g; omega) (.slice t2.a t2.n t2.c)
   replace RES := (RES.below b2').setOther (a := ⟨g, o + shelfNo r.id, none⟩) (by show w.heap.size + 1 + 1 + 1 ≠ g; omega) (.slice t2.a t2.n t2.c)
   generalize w2.setCell ⟨g, o + shelfNo r.id, none⟩ (.slice t2.a t2.n t2.c) = w3 at *
   have hl1 := hf.seq
   have y1 := Y.cell 1 _ rfl
   have yf := Y.free
   have yl := Y.lt
   have hhs : w.heap.size ∉ F' := fun hx => by rcases p2 _ hx with h | h; (rcases hO.out.2 _ h with h | h; (have := hFs.out _ h; omega); omega); (have := n2 _ h; have h3 : wr.drew.heap.size = wr.heap.size := rfl; omega)
   clear hHeld
   go_wp2
   exact ⟨⟨n + 1, F', by omega, by go_num, ⟨by rw [hstep.out]; unfold layT; rw [hgd.out]; exact p1.set (a := ⟨w.heap.size, 1, none⟩) hhs _, fun x hx => by rcases p2 x hx with h | h; exact hO.out.2 x h; right; have := n2 _ h; have h3 : wr.drew.heap.size = wr.heap.size := rfl; omega⟩, by rw [hstep.out]; exact Y.set 1 (by simp) _, WB.setOther (by show w.heap.size + 1 ≠ w.heap.size; omega) _, RB.setOther (by show w.heap.size + 1 + 1 ≠ w.heap.size; omega) _, RES.setOther (by show w.heap.size + 1 + 1 + 1 ≠ w.heap.size; omega) _, B3.high (Nat.le_refl _) _ _⟩, by simp [intOf]; omega⟩
end Go.Proofs.Ytonlnjdempbfoaa
end
section
namespace Go.Proofs.Ytonlnjdempbfoaa
open Go.RowKit
set_option maxRecDepth 100000
set_option maxHeartbeats 2000000
set_option linter.unusedVariables false
/-! a drawn plan is right -/
structure Drawn (T : Int) (n : Nat) (es : List Edge) : Prop where
 len : es.length ≤ n
 nodup : es.Nodup
 up : ∀ e ∈ es, 0 ≤ e.fr ∧ e.fr < e.to ∧ e.to < T
theorem Drawn.add {T : Int} {n : Nat} {es : List Edge} (h : Drawn T n es) {e : Edge} (he : 0 ≤ e.fr ∧ e.fr < e.to ∧ e.to < T) : Drawn T (n + 1) (addE es e) := by
 unfold addE
 split
 ·exact ⟨by have := h.len; omega, h.nodup, h.up⟩
 ·rename_i hn
  refine ⟨by have := h.len; simp; omega, nodup_snoc.2 ⟨h.nodup, hn⟩, fun x hx => ?_⟩
  rcases List.mem_append.1 hx with hx | hx
  ·exact h.up x hx
  ·rw [List.mem_singleton.1 hx]; exact he
theorem planGo_drawn (code : List UInt8) (T : Int) : ∀ (f i : Nat) (es : List Edge) (c : Cur) (n : Nat), Drawn T n es → Drawn T (n + f) (planGo code T f i es c).1
 | 0, i, es, c, n, h => h
 | f + 1, i, es, c, n, h => by
  rw [planGo]
  split
  ·rename_i hg
   have h1 := curBelow_bd code (n := T - 1) (curBelow code 9 c).2 (by omega)
   have h2 : 1 ≤ newTo code T c ∧ newTo code T c < T := by unfold newTo; omega
   have h3 := curBelow_bd code (n := newTo code T c) (curBelow code (T - 1) (curBelow code 9 c).2).2 (by omega)
   have := planGo_drawn code T f (i + 1) _ (newC code T c) (n + 1) (h.add (e := newE code T c) (by unfold newE; simp only; omega))
   rw [show n + (f + 1) = n + 1 + f by omega]
   exact this
  ·exact ⟨by have := h.len; simp only; omega, h.nodup, h.up⟩
theorem reach_lt_of {es : List (Nat × Nat)} (h : ∀ e ∈ es, e.1 < e.2) {a b : Nat} (hr : Pg.Reach es a b) : a < b := by
 obtain ⟨l, hne, hw⟩ := hr
 induction hw with
 | nil a => exact absurd rfl hne
 | @cons a c b l h1 h2 ih =>
  have h3 := h _ h1
  by_cases hl : l = []
  ·subst hl
   cases h2
   exact h3
  ·have := ih hl
   simp only at h3
   omega
theorem curPlan_ok (code : List UInt8) (c : Cur) : planFault (curPlan code c).1 = 0 := by
 have b1 := curBelow_bd code (n := 4) c (by omega)
 have b2 := curBelow_bd code (n := 3) (curBelow code 4 c).2 (by omega)
 have b3 := curBelow_bd code (n := 4) (curBelow code 3 (curBelow code 4 c).2).2 (by omega)
 have b4 := curBelow_bd code (n := 6) (curBelow code 4 (curBelow code 3 (curBelow code 4 c).2).2).2 (by omega)
 unfold curPlan
 simp only
 generalize curBelow code 4 c = r1 at *
 generalize curBelow code 3 r1.2 = r2 at *
 generalize curBelow code 4 r2.2 = r3 at *
 generalize curBelow code 6 r3.2 = r4 at *
 generalize curOnce code 10 r4.2 = r5 at *
 have hT : 1 ≤ planT r5.1 r4.1 ∧ planT r5.1 r4.1 ≤ 12 := by unfold planT; split <;> omega
 generalize planT r5.1 r4.1 = T at *
 have h := planGo_drawn code T 10 0 [] r5.2 0 ⟨by simp, by simp, by simp⟩
 generalize (planGo code T 10 0 [] r5.2).1 = es at *
 refine planFault_zero.2 ⟨?_, fun e he => ?_, h.nodup, ?_⟩
 ·have := h.len
  simp only [manyOk, Bool.and_eq_true, decide_eq_true_eq, inB_iff]
  omega
 ·have := h.up e he
  simp only [edgeIn, Bool.and_eq_true, inB_iff]
  omega
 ·rintro ⟨t, ht, hr⟩
  have : t < t := reach_lt_of (fun e he => by
   simp only [esOf, esL, List.mem_map] at he
   obtain ⟨x, hx, rfl⟩ := he
   have := h.up x hx
   simp only
   omega) hr
  omega
/-! drawn weights -/
/-! DrawPlans, DrawWork -/
end Go.Proofs.Ytonlnjdempbfoaa
end
section
namespace Go.Proofs.Ytonlnjdempbfoaa
open Go.RowKit
set_option maxRecDepth 100000
set_option maxHeartbeats 1000000
set_option linter.unusedVariables false
theorem Way.mono {es es' : List (Nat × Nat)} (hs : ∀ e ∈ es, e ∈ es') {a b : Nat} {l : List Nat} (h : Pg.Way es a l b) : Pg.Way es' a l b := by
 induction h with
 | nil a => exact .nil a
 | cons h1 _ ih => exact .cons (hs _ h1) ih
theorem Reach.mono {es es' : List (Nat × Nat)} (hs : ∀ e ∈ es, e ∈ es') {a b : Nat} (h : Pg.Reach es a b) : Pg.Reach es' a b := by
 obtain ⟨l, hl, hw⟩ := h
 exact ⟨l, hl, Way.mono hs hw⟩
/-! turned round -/
/-! ones -/
/-! reduced -/
/-! one plan beside or behind another one -/
end Go.Proofs.Ytonlnjdempbfoaa
end
section
namespace Go.Proofs.Ytonlnjdempbfoaa
open Go.RowKit
set_option maxRecDepth 100000
set_option maxHeartbeats 2000000
set_option linter.unusedVariables false
set_option linter.unusedSimpArgs false
/-- one element of a slice of one's own -/
theorem OwL.elem {α : Type} {d : Dt α} {w : World} {F : List Nat} {b o n c : Nat} {l : List α} (h : OwL d w F (.slice (some ⟨b, o, none⟩) n c) l) {j : Nat} (hj : j < l.length) :
  ∃ (s : d.S) (Fx : List Nat), d.ow w Fx l[j] s ∧ (∀ x ∈ Fx, x ∈ F) ∧ b ∉ Fx ∧ b ∈ F ∧ (∀ i, w.frozen? ⟨b, i, none⟩ = false) ∧ (∀ i u, (d.enc.cells (l[j], s))[i]? = some u → w.cell? ⟨b, o + j * d.enc.sz + i, none⟩ = some u) := by
 obtain ⟨rs, H, G, hm, hh, ho, rfl, hn⟩ := h
 subst hm
 have hjr : j < rs.length := by rw [List.length_map] at hj; exact hj
 obtain ⟨b', o', hA, rfl, hbl, hf⟩ := hh.at_ (by omega)
 simp only [Option.some.injEq, Addr.mk.injEq, and_true] at hA
 obtain ⟨rfl, rfl⟩ := hA
 obtain ⟨F1, F2, rfl, h1, h2⟩ := ho.split j (by omega)
 rw [List.drop_eq_getElem_cons hjr] at h2
 obtain ⟨Fx, F3, rfl, h3, h4⟩ := h2.head
 have hbn : b ∉ F1 ++ (Fx ++ F3) := by
  have := hn
  simp only [List.singleton_append, List.nodup_cons] at this
  exact this.1
 have e : (rs.map (·.1))[j]'(by rw [List.length_map]; exact hjr) = rs[j].1 := by rw [List.getElem_map]
 refine ⟨rs[j].2, Fx, by rw [e]; exact h3, fun x hx => by simp [hx], fun hx => hbn (by simp [hx]), by simp, hf, fun i u hu => ?_⟩
 rw [e] at hu
 obtain ⟨A', c', hv, _, hA⟩ := hh.rd
 simp only [Value.slice.injEq] at hv
 obtain ⟨rfl, _, _⟩ := hv
 obtain ⟨b2, o2, hA2, _, hc⟩ := hA (by omega)
 simp only [Option.some.injEq, Addr.mk.injEq, and_true] at hA2
 obtain ⟨rfl, rfl⟩ := hA2
 exact hc j hjr i u hu
theorem turn_res {b : Nat} {w : World} {u0 u1 u2 u3 : Value} (X : DBox b [u0, u1, u2, u3] w) {v0 v1 v2 v3 v4 v5 : Value} {rest : List Value} :
  (results Try.f74 (v0 :: v1 :: v2 :: v3 :: v4 :: v5 :: .pointer (some ⟨b, 0, none⟩) :: rest).toArray).run Try.prog w = .ok (.agg #[u0, u1, u2, u3]) w := by
 have c0 := X.cell 0 _ rfl
 have c1 := X.cell 1 _ rfl
 have c2 := X.cell 2 _ rfl
 have c3 := X.cell 3 _ rfl
 simp [results, Try.results74, go_sem, c0, c1, c2, c3]
/-- a yard of one's own that a call has turned in place -/
def TurnPost (z : Yard) (F Fr : List Nat) (w : World) (e : Ending) (w' : World) : Prop :=
 ∃ (s' : Sl × Sl) (F' : List Nat), e = .returned (yardW z s') ∧ yardD.ow w' F' z s' ∧ (∀ x ∈ F', x ∈ F ∨ x ∈ Fr ∨ w.heap.size ≤ x) ∧ Chg F w w'
theorem specTurn_own (y : Yard) (s : Sl × Sl) (k : Nat) (r : Run) (sr : Sl × Sl) (w : World) (F Fr : List Nat) (h4 : y.shelf.length = 4) (hM : ∀ s ∈ y.shelf, s.length ≤ 1000000) (hq : 0 ≤ y.seq ∧ y.seq ≤ 2000000000) (hk : k < y.runs.length) (hT : r.tasks.length ≤ 1000) (hT2 : y.runs[k].tasks.length ≤ 1000)
  (hy : yardD.ow w F y s) (hr : runD.ow w Fr r sr) (hd : ∀ x ∈ Fr, x ∉ F) :
  Calls Try.prog 74 #[yardW y s, .int .i64 k, runW r sr] w (TurnPost (turnY y k r) F Fr w) := by
 obtain ⟨F1, F2, rfl, hn, hs, hrn⟩ := hy
 obtain ⟨⟨sa, sn, sc⟩, ⟨ra, rn, rc⟩⟩ := s
 replace hs : OwL (Dt.list entryD) w F1 (.slice sa sn sc) y.shelf := hs
 replace hrn : OwL runD w F2 (.slice ra rn rc) y.runs := hrn
 obtain rfl : sn = y.shelf.length := RdL.at1 (s := ⟨sa, sn, sc⟩) hs.rd
 obtain rfl : rn = y.runs.length := RdL.at1 (s := ⟨ra, rn, rc⟩) hrn.rd
 have h40 : 0 < y.shelf.length := by omega
 replace h4 := Lib.hid h4
 obtain ⟨g, o, _, rfl, hgw, _, _⟩ := hs.rd.entryS (k := 0) h40
 obtain ⟨gr, o2, _, rfl, hgrw, _⟩ := hrn.rd.run hk
 obtain ⟨sw, Fx, hx, hxF, hgx, hgrF, hgf, hcx⟩ := hrn.elem hk
 obtain ⟨_, _, _, _, _, hgF, hgfr, _⟩ := hs.elem (j := 0) h40
 have c0 : w.cell? ⟨gr, o2 + k * 8, none⟩ = some (.int .i64 y.runs[k].id) := hcx 0 _ rfl
 have c1 : w.cell? ⟨gr, o2 + k * 8 + 1, none⟩ = some (.int .i64 y.runs[k].plan.prio) := hcx 1 _ rfl
 have c2 : w.cell? ⟨gr, o2 + k * 8 + 2, none⟩ = some (.int .i64 y.runs[k].plan.most) := hcx 2 _ rfl
 have c3 : w.cell? ⟨gr, o2 + k * 8 + 3, none⟩ = some (.int .i64 y.runs[k].plan.wait) := hcx 3 _ rfl
 have c4 : w.cell? ⟨gr, o2 + k * 8 + 4, none⟩ = some (.int .i64 y.runs[k].plan.tasks) := hcx 4 _ rfl
 have c5 : w.cell? ⟨gr, o2 + k * 8 + 5, none⟩ = some (.slice sw.1.a sw.1.n sw.1.c) := hcx 5 _ rfl
 have c6 : w.cell? ⟨gr, o2 + k * 8 + 6, none⟩ = some (.int .i64 y.runs[k].state) := hcx 6 _ rfl
 have c7 : w.cell? ⟨gr, o2 + k * 8 + 7, none⟩ = some (.slice sw.2.a sw.2.n sw.2.c) := hcx 7 _ rfl
 have hkI : (k : Int) < (y.runs.length : Int) := by omega
 have hk0 : (0 : Int) ≤ (k : Int) := by omega
 have Y := ((DBox.new 61 [.int .i64 y.now, .int .i64 y.seq, .slice (some ⟨g, o, none⟩) y.shelf.length sc, .slice (some ⟨gr, o2, none⟩) y.runs.length rc] w (b := w.heap.size) rfl).below ((Below.refl _ _).alloc (Nat.le_refl _) (.cells #[.int .i64 r.id, .int .i64 r.plan.prio, .int .i64 r.plan.most, .int .i64 r.plan.wait, .int .i64 r.plan.tasks, .slice sr.1.a sr.1.n sr.1.c, .int .i64 r.state, .slice sr.2.a sr.2.n sr.2.c] 98))).below ((Below.refl _ _).alloc (Nat.le_refl _) (.cells #[.int .i64 0, .int .i64 0, .slice none 0 0, .slice none 0 0] 61))
 have RB := (DBox.new 98 [.int .i64 r.id, .int .i64 r.plan.prio, .int .i64 r.plan.most, .int .i64 r.plan.wait, .int .i64 r.plan.tasks, .slice sr.1.a sr.1.n sr.1.c, .int .i64 r.state, .slice sr.2.a sr.2.n sr.2.c] (w.alloc (.cells #[.int .i64 y.now, .int .i64 y.seq, .slice (some ⟨g, o, none⟩) y.shelf.length sc, .slice (some ⟨gr, o2, none⟩) y.runs.length rc] 61)) (b := w.heap.size + 1) (by simp)).below ((Below.refl _ _).alloc (Nat.le_refl _) (.cells #[.int .i64 0, .int .i64 0, .slice none 0 0, .slice none 0 0] 61))
 have RES := DBox.new 61 [.int .i64 0, .int .i64 0, .slice none 0 0, .slice none 0 0] ((w.alloc (.cells #[.int .i64 y.now, .int .i64 y.seq, .slice (some ⟨g, o, none⟩) y.shelf.length sc, .slice (some ⟨gr, o2, none⟩) y.runs.length rc] 61)).alloc (.cells #[.int .i64 r.id, .int .i64 r.plan.prio, .int .i64 r.plan.most, .int .i64 r.plan.wait, .int .i64 r.plan.tasks, .slice sr.1.a sr.1.n sr.1.c, .int .i64 r.state, .slice sr.2.a sr.2.n sr.2.c] 98)) (b := w.heap.size + 1 + 1) (by simp)
 have B0 : Below w.heap.size w (((w.alloc (.cells #[.int .i64 y.now, .int .i64 y.seq, .slice (some ⟨g, o, none⟩) y.shelf.length sc, .slice (some ⟨gr, o2, none⟩) y.runs.length rc] 61)).alloc (.cells #[.int .i64 r.id, .int .i64 r.plan.prio, .int .i64 r.plan.most, .int .i64 r.plan.wait, .int .i64 r.plan.tasks, .slice sr.1.a sr.1.n sr.1.c, .int .i64 r.state, .slice sr.2.a sr.2.n sr.2.c] 98)).alloc (.cells #[.int .i64 0, .int .i64 0, .slice none 0 0, .slice none 0 0] 61)) := by repeat (first | exact Below.refl _ _ | refine Below.alloc ?_ (by simp <;> omega) _)
 go_enter Try.func74, Try.ntmps74
 go_upto_region 1 with fail
 generalize (((w.alloc (.cells #[.int .i64 y.now, .int .i64 y.seq, .slice (some ⟨g, o, none⟩) y.shelf.length sc, .slice (some ⟨gr, o2, none⟩) y.runs.length rc] 61)).alloc (.cells #[.int .i64 r.id, .int .i64 r.plan.prio, .int .i64 r.plan.most, .int .i64 r.plan.wait, .int .i64 r.plan.tasks, .slice sr.1.a sr.1.n sr.1.c, .int .i64 r.state, .slice sr.2.a sr.2.n sr.2.c] 98)).alloc (.cells #[.int .i64 0, .int .i64 0, .slice none 0 0, .slice none 0 0] 61)) = W at *
 obtain ⟨Y_0, Y_1, Y_2, Y_3, Y_l⟩ := Y.g4
 obtain ⟨RB_0, RB_1, RB_2, RB_3, RB_4, RB_5, RB_6, RB_7, RB_l⟩ := RB.g8
 obtain ⟨RES_0, RES_1, RES_2, RES_3, RES_l⟩ := RES.g4
 replace c0 := (B0.cell (p := ⟨gr, o2 + k * 8, none⟩) hgrw).trans c0
 replace c1 := (B0.cell (p := ⟨gr, o2 + k * 8 + 1, none⟩) hgrw).trans c1
 replace c2 := (B0.cell (p := ⟨gr, o2 + k * 8 + 2, none⟩) hgrw).trans c2
 replace c3 := (B0.cell (p := ⟨gr, o2 + k * 8 + 3, none⟩) hgrw).trans c3
 replace c4 := (B0.cell (p := ⟨gr, o2 + k * 8 + 4, none⟩) hgrw).trans c4
 replace c5 := (B0.cell (p := ⟨gr, o2 + k * 8 + 5, none⟩) hgrw).trans c5
 replace c6 := (B0.cell (p := ⟨gr, o2 + k * 8 + 6, none⟩) hgrw).trans c6
 replace c7 := (B0.cell (p := ⟨gr, o2 + k * 8 + 7, none⟩) hgrw).trans c7
 have hfW := fun i => (B0.frozen (p := ⟨gr, i, none⟩) hgrw).trans (hgf i)
 have hsW := B0.size
 have hgW : gr < W.heap.size := by omega
 go_upto_region 2 with fail
 have b1 : Below W.heap.size W (W.alloc (.cells #[.int .i64 y.runs[k].id, .int .i64 y.runs[k].plan.prio, .int .i64 y.runs[k].plan.most, .int .i64 y.runs[k].plan.wait, .int .i64 y.runs[k].plan.tasks, .slice sw.1.a sw.1.n sw.1.c, .int .i64 y.runs[k].state, .slice sw.2.a sw.2.n sw.2.c] 98)) := (Below.refl _ _).alloc (Nat.le_refl _) _
 have WB := DBox.new 98 [.int .i64 y.runs[k].id, .int .i64 y.runs[k].plan.prio, .int .i64 y.runs[k].plan.most, .int .i64 y.runs[k].plan.wait, .int .i64 y.runs[k].plan.tasks, .slice sw.1.a sw.1.n sw.1.c, .int .i64 y.runs[k].state, .slice sw.2.a sw.2.n sw.2.c] W (b := W.heap.size) rfl
 clear Y_0 Y_1 Y_2 Y_3 Y_l
 clear RB_0 RB_1 RB_2 RB_3 RB_4 RB_5 RB_6 RB_7 RB_l
 clear RES_0 RES_1 RES_2 RES_3 RES_l
 replace Y := Y.below b1
 replace RB := RB.below b1
 replace RES := RES.below b1
 have B1 := bnext B0 b1
 replace c0 := (b1.cell (p := ⟨gr, o2 + k * 8, none⟩) hgW).trans c0
 replace c1 := (b1.cell (p := ⟨gr, o2 + k * 8 + 1, none⟩) hgW).trans c1
 replace c2 := (b1.cell (p := ⟨gr, o2 + k * 8 + 2, none⟩) hgW).trans c2
 replace c3 := (b1.cell (p := ⟨gr, o2 + k * 8 + 3, none⟩) hgW).trans c3
 replace c4 := (b1.cell (p := ⟨gr, o2 + k * 8 + 4, none⟩) hgW).trans c4
 replace c5 := (b1.cell (p := ⟨gr, o2 + k * 8 + 5, none⟩) hgW).trans c5
 replace c6 := (b1.cell (p := ⟨gr, o2 + k * 8 + 6, none⟩) hgW).trans c6
 replace c7 := (b1.cell (p := ⟨gr, o2 + k * 8 + 7, none⟩) hgW).trans c7
 replace hfW := fun i => (b1.frozen (p := ⟨gr, i, none⟩) hgW).trans (hfW i)
 obtain ⟨hwb, hwbE⟩ : ∃ x, x = W.heap.size := ⟨_, rfl⟩
 rw [← hwbE] at WB ⊢
 have hwb1 := Nat.le_of_eq hwbE
 have hwb2 := Nat.le_of_eq hwbE.symm
 clear hwbE
 generalize W.alloc (.cells #[.int .i64 y.runs[k].id, .int .i64 y.runs[k].plan.prio, .int .i64 y.runs[k].plan.most, .int .i64 y.runs[k].plan.wait, .int .i64 y.runs[k].plan.tasks, .slice sw.1.a sw.1.n sw.1.c, .int .i64 y.runs[k].state, .slice sw.2.a sw.2.n sw.2.c] 98) = W2 at *
 obtain ⟨Y_0, Y_1, Y_2, Y_3, Y_l⟩ := Y.g4
 obtain ⟨RB_0, RB_1, RB_2, RB_3, RB_4, RB_5, RB_6, RB_7, RB_l⟩ := RB.g8
 obtain ⟨RES_0, RES_1, RES_2, RES_3, RES_l⟩ := RES.g4
 obtain ⟨WB_0, WB_1, WB_2, WB_3, WB_4, WB_5, WB_6, WB_7, WB_l⟩ := WB.g8
 have hrn2 := hrn.below B1
 have hr2 := runD.ow_below hr B1
 have hgr2 : gr ∉ Fr := fun h => hd _ h (List.mem_append_right _ hgrF)
 have hg2 : g ∉ Fr := fun h => hd _ h (List.mem_append_left _ hgF)
 have hdis : ∀ x ∈ F1, x ∉ F2 := fun x h1 h2 => (List.nodup_append.1 hn).2.2 x h1 x h2 rfl
 obtain ⟨F2', p1, p2, p3, p4⟩ := OwL.swap hrn2 hk (y := r) (s := sr) hr2 (fun x hx hx2 => hd x hx (List.mem_append_right _ hx2))
 have hw3 : wSeq W2 gr (o2 + k * runD.enc.sz) (runD.enc.cells (r, sr)) = ((((((((W2.setCell ⟨gr, o2 + k * 8, none⟩ (.int .i64 r.id)).setCell ⟨gr, o2 + k * 8 + 1, none⟩ (.int .i64 r.plan.prio)).setCell ⟨gr, o2 + k * 8 + 2, none⟩ (.int .i64 r.plan.most)).setCell ⟨gr, o2 + k * 8 + 3, none⟩ (.int .i64 r.plan.wait)).setCell ⟨gr, o2 + k * 8 + 4, none⟩ (.int .i64 r.plan.tasks)).setCell ⟨gr, o2 + k * 8 + 5, none⟩ (.slice sr.1.a sr.1.n sr.1.c)).setCell ⟨gr, o2 + k * 8 + 6, none⟩ (.int .i64 r.state)).setCell ⟨gr, o2 + k * 8 + 7, none⟩ (.slice sr.2.a sr.2.n sr.2.c)) := rfl
 have hC : Chg [gr] W2 ((((((((W2.setCell ⟨gr, o2 + k * 8, none⟩ (.int .i64 r.id)).setCell ⟨gr, o2 + k * 8 + 1, none⟩ (.int .i64 r.plan.prio)).setCell ⟨gr, o2 + k * 8 + 2, none⟩ (.int .i64 r.plan.most)).setCell ⟨gr, o2 + k * 8 + 3, none⟩ (.int .i64 r.plan.wait)).setCell ⟨gr, o2 + k * 8 + 4, none⟩ (.int .i64 r.plan.tasks)).setCell ⟨gr, o2 + k * 8 + 5, none⟩ (.slice sr.1.a sr.1.n sr.1.c)).setCell ⟨gr, o2 + k * 8 + 6, none⟩ (.int .i64 r.state)).setCell ⟨gr, o2 + k * 8 + 7, none⟩ (.slice sr.2.a sr.2.n sr.2.c)) := by rw [← hw3]; exact wSeq_chg _ _ _ _
 rw [hw3] at p1
 clear hw3
 have hgr1 : gr ∉ F1 := fun h => hdis _ h hgrF
 have hgx2 : g ∉ Fx := fun h => hdis _ hgF (hxF _ h)
 have hs3 := (hs.below B1).chg hC (fun x hx h => by simp only [List.mem_singleton] at h; subst h; exact hgr1 hx)
 have hx3 := runD.ow_chg (runD.ow_below hx B1) hC (fun x hx h => by simp only [List.mem_singleton] at h; subst h; exact hgx hx)
 have hr3 := runD.ow_chg hr2 hC (fun x hx h => by simp only [List.mem_singleton] at h; subst h; exact hgr2 hx)
 have hYl := RES_l
 have hsz2 := B1.size
 have hszb := b1.size
 go_upto_region 3 with fail
 clear Y_0 Y_1 Y_2 Y_3 Y_l
 clear RB_0 RB_1 RB_2 RB_3 RB_4 RB_5 RB_6 RB_7 RB_l
 clear RES_0 RES_1 RES_2 RES_3 RES_l
 clear WB_0 WB_1 WB_2 WB_3 WB_4 WB_5 WB_6 WB_7 WB_l
 replace Y := Y.chg hC (by simp only [List.mem_singleton]; omega)
 replace RB := RB.chg hC (by simp only [List.mem_singleton]; omega)
 replace RES := RES.chg hC (by simp only [List.mem_singleton]; omega)
 replace WB := WB.chg hC (by simp only [List.mem_singleton]; omega)
 have hsz3 := hC.size
 generalize ((((((((W2.setCell ⟨gr, o2 + k * 8, none⟩ (.int .i64 r.id)).setCell ⟨gr, o2 + k * 8 + 1, none⟩ (.int .i64 r.plan.prio)).setCell ⟨gr, o2 + k * 8 + 2, none⟩ (.int .i64 r.plan.most)).setCell ⟨gr, o2 + k * 8 + 3, none⟩ (.int .i64 r.plan.wait)).setCell ⟨gr, o2 + k * 8 + 4, none⟩ (.int .i64 r.plan.tasks)).setCell ⟨gr, o2 + k * 8 + 5, none⟩ (.slice sr.1.a sr.1.n sr.1.c)).setCell ⟨gr, o2 + k * 8 + 6, none⟩ (.int .i64 r.state)).setCell ⟨gr, o2 + k * 8 + 7, none⟩ (.slice sr.2.a sr.2.n sr.2.c)) = W3 at *
 obtain ⟨Y_0, Y_1, Y_2, Y_3, Y_l⟩ := Y.g4
 obtain ⟨RB_0, RB_1, RB_2, RB_3, RB_4, RB_5, RB_6, RB_7, RB_l⟩ := RB.g8
 obtain ⟨RES_0, RES_1, RES_2, RES_3, RES_l⟩ := RES.g4
 obtain ⟨WB_0, WB_1, WB_2, WB_3, WB_4, WB_5, WB_6, WB_7, WB_l⟩ := WB.g8
 clear c0 c1 c2 c3 c4 c5 c6 c7 hfW
 go_wp2_with fail
 refine (specLay_own ⟨y.now, y.seq, y.shelf, y.runs.set k r⟩ g o sc ⟨some ⟨gr, o2, none⟩, y.runs.length, rc⟩ y.runs[k] sw r sr W3 F1 h4.out hM hq hT hT2 hs3 (Lib.hid fun W hW => (runD.ow_rd (runD.ow_chg hr3 hW (fun x hx h => by simp only [List.mem_singleton] at h; subst h; exact hg2 hx))).2) (Lib.hid fun W hW => (runD.ow_rd (runD.ow_chg hx3 hW (fun x hx h => by simp only [List.mem_singleton] at h; subst h; exact hgx2 hx))).2)).mono ?_
 rintro e W4 ⟨F1', rfl, q1, q2, q3⟩
 have HE := Lib.hid (show turnY y k r = layY ⟨y.now, y.seq, y.shelf, y.runs.set k r⟩ y.runs[k] r by unfold turnY; rw [List.getD_eq_getElem?_getD, List.getElem?_eq_getElem hk]; rfl)
 have hfr := Lib.hid (show (layY ⟨y.now, y.seq, y.shelf, y.runs.set k r⟩ y.runs[k] r).runs = y.runs.set k r from (layN_f (y := ⟨y.now, y.seq, y.shelf, y.runs.set k r⟩) (was := y.runs[k]) (r := r) hM r.tasks.length).runs)
 dsimp only at q1
 generalize layY ⟨y.now, y.seq, y.shelf, y.runs.set k r⟩ y.runs[k] r = Z at *
 have hsz4 := q3.size
 clear Y_0 Y_1 Y_2 Y_3 Y_l
 clear RB_0 RB_1 RB_2 RB_3 RB_4 RB_5 RB_6 RB_7 RB_l
 clear RES_0 RES_1 RES_2 RES_3 RES_l
 clear WB_0 WB_1 WB_2 WB_3 WB_4 WB_5 WB_6 WB_7 WB_l
 replace RES := RES.chg q3 (by simp only [List.mem_singleton]; omega)
 obtain ⟨RES_0, RES_1, RES_2, RES_3, RES_l⟩ := RES.g4
 have rf := RES.free
 have hg1' : ∀ x ∈ F1', x ∈ F1 ∨ W3.heap.size ≤ x := q2
 have hlt1 : ∀ x ∈ F1, x < w.heap.size := hs.lt
 have hlt2 : ∀ x ∈ F2, x < w.heap.size := hrn.lt
 have hltr : ∀ x ∈ Fr, x < w.heap.size := runD.ow_lt hr
 have hn1 : w.heap.size + 1 + 1 ∉ F1' := fun h => by
  rcases q2 _ h with h | h
  ·have := hlt1 _ h; omega
  ·omega
 have hn2 : w.heap.size + 1 + 1 ∉ F2' := fun h => by
  rcases p2 _ h with h | h
  ·have := hlt2 _ h; omega
  ·have := hltr _ h; omega
 have p5 := p1.chg q3 (fun x hx h => by
  simp only [List.mem_singleton] at h
  subst h
  rcases p2 _ hx with h | h
  ·exact hdis _ hgF h
  ·exact hg2 h)
 have hnd : (F1' ++ F2').Nodup := by
  rw [List.nodup_append]
  refine ⟨q1.nodup, p1.nodup, fun a ha c hc e => ?_⟩
  subst e
  rcases q2 _ ha with h | h <;> rcases p2 _ hc with h' | h'
  ·exact hdis _ h h'
  ·exact hd _ h' (List.mem_append_left _ h)
  ·have := hlt2 _ h'; omega
  ·have := hltr _ h'; omega
 have hcw : Chg (F1 ++ F2) w W4 := (((Chg.of_below (F1 ++ F2) B1).trans (hC.mono (fun x hx => by simp only [List.mem_singleton] at hx; subst hx; exact List.mem_append_right _ hgrF))).trans (q3.mono (fun x hx => by simp only [List.mem_singleton] at hx; subst hx; exact List.mem_append_left _ hgF)))
 go_wp2
 refine bodyPost_ret (turn_res (DBox.row4 RES rfl _ _ _ _)) rfl ⟨(⟨some ⟨g, o, none⟩, y.shelf.length, sc⟩, ⟨some ⟨gr, o2, none⟩, y.runs.length, rc⟩), F1' ++ F2', by rw [HE.out], ⟨F1', F2', rfl, hnd, ?_, ?_⟩, ?_, ?_⟩
 ·rw [HE.out]
  show OwL (Dt.list entryD) _ F1' (.slice (some ⟨g, o, none⟩) y.shelf.length sc) Z.shelf
  exact (((q1.set (a := ⟨_, _, none⟩) hn1 _).set (a := ⟨_, _, none⟩) hn1 _).set (a := ⟨_, _, none⟩) hn1 _).set (a := ⟨_, _, none⟩) hn1 _
 ·rw [HE.out]
  show OwL runD _ F2' (.slice (some ⟨gr, o2, none⟩) y.runs.length rc) Z.runs
  rw [hfr.out]
  exact (((p5.set (a := ⟨_, _, none⟩) hn2 _).set (a := ⟨_, _, none⟩) hn2 _).set (a := ⟨_, _, none⟩) hn2 _).set (a := ⟨_, _, none⟩) hn2 _
 ·intro x hx
  rcases List.mem_append.1 hx with hx | hx
  ·rcases q2 _ hx with h | h
   ·exact .inl (List.mem_append_left _ h)
   ·right; right; omega
  ·rcases p2 _ hx with h | h
   ·exact .inl (List.mem_append_right _ h)
   ·exact .inr (.inl h)
 ·exact (((hcw.high (by omega) _ _).high (by omega) _ _).high (by omega) _ _).high (by omega) _ _
end Go.Proofs.Ytonlnjdempbfoaa
end
section
namespace Go.Proofs.Ytonlnjdempbfoaa
open Go.RowKit
set_option maxRecDepth 100000
set_option maxHeartbeats 2000000
set_option linter.unusedVariables false
theorem big_any (v : Value) (code : List UInt8) (w : World) (hm : code.length ≤ 9223372036854775807) (h : Rd byteE w w.heap.size v code) : Calls Try.prog 4 #[v] w fun e w' => e = .returned (.bool (decide ((1048576 : Int) < (code.length : Int)))) ∧ w = w' := by
 obtain ⟨A, c, rfl, -⟩ := id h
 go_enter Try.func4, Try.ntmps4
 go_wp2
 go_ret
 exact ⟨rfl, rfl⟩
theorem sameEdges_same (v v' : Value) (l : List Edge) (w : World) (hl : l.length ≤ 2000000) (h : Rd edgeE w w.heap.size v l) (h' : Rd edgeE w w.heap.size v' l) :
  Calls Try.prog 56 #[v, v'] w fun e w' => e = .returned (.bool true) ∧ Below w.heap.size w w' := by
 obtain ⟨A, c, rfl, -⟩ := id h
 obtain ⟨A', c', rfl, -⟩ := id h'
 go_enter Try.func56, Try.ntmps56
 go_wp2
 go_loopw [5] (fun i wr => ∃ k : Nat, k ≤ l.length ∧ i = .int .i64 k ∧ Below w.heap.size w wr) (fun i _ => l.length - (intOf i).toNat)
 case atStart => exact ⟨0, Nat.zero_le _, rfl, Below.refl _ _⟩
 case round =>
  obtain ⟨k, hk, rfl, hb⟩ := hrel
  by_cases hlt : k < l.length
  ·obtain ⟨b, o, rfl, hbb, c0, c1⟩ := (h.below hb).edge hlt
   obtain ⟨b', o', rfl, hbb', d0, d1⟩ := (h'.below hb).edge hlt
   have i1 : (k : Int) < (l.length : Int) := by omega
   go_wp2
   go_quiet (fail)
   go_wp2
   exact ⟨⟨k + 1, by omega, by go_num, bdrewN hb _⟩, by simp [intOf]; omega⟩
  ·have i1 : ¬ (k : Int) < (l.length : Int) := by omega
   go_wp2
   go_ret
   exact ⟨rfl, hb⟩
theorem samePlan_same (p : Plan) (ve vf : Value) (w : World) (hl : p.edges.length ≤ 2000000) (h : Rd edgeE w w.heap.size ve p.edges) (h' : Rd edgeE w w.heap.size vf p.edges) :
  Calls Try.prog 39 #[planV p ve, planV p vf] w fun e w' => e = .returned (.bool true) ∧ Below w.heap.size w w' := by
 obtain ⟨D, E, hb⟩ := twoBox_at 35 p ve p vf w
 unfold twoBox planBox at D E hb
 obtain ⟨c0, c1, c2, c3, c4, cs⟩ := D.cells
 obtain ⟨d0, d1, d2, d3, d4, ds⟩ := E.cells
 unfold planV
 go_enter Try.func39, Try.ntmps39
 go_wp2_with fail
 refine (sameEdges_same ve vf p.edges _ hl ((h.below hb).more hb.size) ((h'.below hb).more hb.size)).mono ?_
 rintro e w1 ⟨rfl, b1⟩
 go_wp2
 go_ret
 exact ⟨rfl, bnext hb b1⟩
end Go.Proofs.Ytonlnjdempbfoaa
end
section
namespace Go.Proofs.Ytonlnjdempbfoaa
open Go.RowKit
set_option maxRecDepth 100000
set_option maxHeartbeats 2000000
set_option linter.unusedVariables false
set_option linter.unusedSimpArgs false
theorem task_nil {w : World} {F : List Nat} {rs : List (Task × taskD.S)} (h : Ows taskD w F rs) : F = [] := by
 induction h with
 | nil => rfl
 | cons h1 _ ih => rw [show _ = [] from h1, ih]; rfl
theorem task_hw {w : World} {F : List Nat} {v : Value} {l : List Task} (h : OwL taskD w F v l) : Hw tskE w F v l := by
 have hr := task_rd h.rd
 obtain ⟨rs, H, G, hm, hh, ho, rfl, hn⟩ := h
 have hG := task_nil ho
 subst hG
 obtain ⟨h1, h2, h3⟩ := hh
 refine ⟨hr, ?_, fun g hg => h3 g (by simpa using hg)⟩
 rw [List.append_nil, h2, ← hm, List.length_map]
theorem task_owl {w : World} {F : List Nat} {v : Value} {l : List Task} (h1 : Hw tskE w F v l) : OwL taskD w F v l := by
 obtain ⟨⟨A, c, hv, hc, hA⟩, hF, hf⟩ := id h1
 subst hv
 refine ⟨l.map fun x => (x, ()), F, [], by rw [List.map_map]; exact List.map_id _, ⟨⟨A, c, by rw [List.length_map], by rw [List.length_map]; exact hc, fun hl => ?_⟩, by rw [List.length_map]; exact hF, hf⟩, task_ows w l, (List.append_nil _).symm, h1.nodup⟩
 rw [List.length_map] at hl
 obtain ⟨b, o, h3, h4, h5⟩ := hA hl
 refine ⟨b, o, h3, h4, fun k hk j u hu => ?_⟩
 rw [List.getElem_map] at hu
 exact h5 k (by rw [List.length_map] at hk; exact hk) j u hu
/-- cells of one task of a slice of one's own are written -/
theorem Hw.part {α : Type} {e : Enc α} {w : World} {F : List Nat} {b o n c : Nat} {l : List α} (h : Hw e w F (.slice (some ⟨b, o, none⟩) n c) l) {j : Nat} (hj : j < l.length) (y : α) (off : Nat) (us : List Value) (hoff : off + us.length ≤ e.sz)
  (hin : ∀ i (hi : i < us.length), (e.cells y)[off + i]? = some us[i]) (hout : ∀ i, i < e.sz → (i < off ∨ off + us.length ≤ i) → (e.cells y)[i]? = (e.cells l[j])[i]?) :
  Hw e (wSeq w b (o + j * e.sz + off) us) F (.slice (some ⟨b, o, none⟩) n c) (l.set j y) := by
 refine ⟨?_, by rw [List.length_set]; exact h.2.1, fun g hg i => by rw [wSeq_frozen]; exact h.2.2 g hg i⟩
 have := Rd.part h.rd j hj y off us hoff hin hout
 rw [wSeq_size]
 exact this
theorem Hw.block {α : Type} {e : Enc α} {w : World} {F : List Nat} {b o n c : Nat} {l : List α} (h : Hw e w F (.slice (some ⟨b, o, none⟩) n c) l) (hp : 0 < l.length) : F = [b] ∧ b < w.heap.size ∧ (∀ i, w.frozen? ⟨b, i, none⟩ = false) := by
 obtain ⟨b', o', hA, hF, hb, hf⟩ := h.at_ hp
 simp only [Option.some.injEq, Addr.mk.injEq, and_true] at hA
 obtain ⟨rfl, rfl⟩ := hA
 exact ⟨hF, hb, hf⟩
theorem Rd.tsk {w : World} {B : Nat} {A : Option Addr} {n c : Nat} {l : List Task} (h : Rd tskE w B (.slice A n c) l) {k : Nat} (hk : k < l.length) :
  ∃ b o, A = some ⟨b, o, none⟩ ∧ b < B ∧ w.cell? ⟨b, o + k * 4, none⟩ = some (.int .i64 l[k].state) ∧ w.cell? ⟨b, o + k * 4 + 1, none⟩ = some (.int .i64 l[k].need) ∧ w.cell? ⟨b, o + k * 4 + 2, none⟩ = some (.int .i64 l[k].try_) ∧ w.cell? ⟨b, o + k * 4 + 3, none⟩ = some (.int .i64 l[k].until_) := by
 obtain ⟨A', c', hv, _, hA⟩ := h
 simp only [Value.slice.injEq] at hv
 obtain ⟨rfl, _, _⟩ := hv
 obtain ⟨b, o, hA', hb, hc⟩ := hA (by omega)
 exact ⟨b, o, hA', hb, hc k hk 0 _ rfl, hc k hk 1 _ rfl, hc k hk 2 _ rfl, hc k hk 3 _ rfl⟩
/-- all four cells of a task are written -/
theorem Hw.task4 {w : World} {F : List Nat} {b o n c : Nat} {l : List Task} (h : Hw tskE w F (.slice (some ⟨b, o, none⟩) n c) l) {j : Nat} (hj : j < l.length) (y : Task) :
  Hw tskE ((((w.setCell ⟨b, o + j * 4, none⟩ (.int .i64 y.state)).setCell ⟨b, o + j * 4 + 1, none⟩ (.int .i64 y.need)).setCell ⟨b, o + j * 4 + 2, none⟩ (.int .i64 y.try_)).setCell ⟨b, o + j * 4 + 3, none⟩ (.int .i64 y.until_)) F (.slice (some ⟨b, o, none⟩) n c) (l.set j y) :=
 h.part hj y 0 [.int .i64 y.state, .int .i64 y.need, .int .i64 y.try_, .int .i64 y.until_] (Nat.le_refl _) (fun i hi => by rw [Nat.zero_add]; exact List.getElem?_eq_getElem hi) (fun i hi ho => by simp at ho; have : i < 4 := hi; omega)
/-- the state of a task is written -/
theorem Hw.taskState {w : World} {F : List Nat} {b o n c : Nat} {l : List Task} (h : Hw tskE w F (.slice (some ⟨b, o, none⟩) n c) l) {j : Nat} (hj : j < l.length) (st : Int) :
  Hw tskE (w.setCell ⟨b, o + j * 4, none⟩ (.int .i64 st)) F (.slice (some ⟨b, o, none⟩) n c) (l.set j ⟨st, l[j].need, l[j].try_, l[j].until_⟩) :=
 h.part hj ⟨st, l[j].need, l[j].try_, l[j].until_⟩ 0 [.int .i64 st] (show 0 + 1 ≤ 4 by omega) (fun i hi => by simp at hi; subst hi; rfl) (fun i hi ho => by
  have : i < 4 := hi
  rcases (show i = 1 ∨ i = 2 ∨ i = 3 by simp at ho; omega) with rfl | rfl | rfl <;> rfl)
/-- the deadline of a task is written -/
theorem Hw.taskUntil {w : World} {F : List Nat} {b o n c : Nat} {l : List Task} (h : Hw tskE w F (.slice (some ⟨b, o, none⟩) n c) l) {j : Nat} (hj : j < l.length) (u : Int) :
  Hw tskE (w.setCell ⟨b, o + j * 4 + 3, none⟩ (.int .i64 u)) F (.slice (some ⟨b, o, none⟩) n c) (l.set j ⟨l[j].state, l[j].need, l[j].try_, u⟩) :=
 h.part hj ⟨l[j].state, l[j].need, l[j].try_, u⟩ 3 [.int .i64 u] (show 3 + 1 ≤ 4 by omega) (fun i hi => by simp at hi; subst hi; rfl) (fun i hi ho => by
  have : i < 4 := hi
  rcases (show i = 0 ∨ i = 1 ∨ i = 2 by simp at ho; omega) with rfl | rfl | rfl <;> rfl)
theorem DBox.row8 {b : Nat} {cs : List Value} {w : World} (h : DBox b cs w) (hn : cs.length = 8) (u0 u1 u2 u3 u4 u5 u6 u7 : Value) :
  DBox b [u0, u1, u2, u3, u4, u5, u6, u7] ((((((((w.setCell ⟨b, 0, none⟩ u0).setCell ⟨b, 1, none⟩ u1).setCell ⟨b, 2, none⟩ u2).setCell ⟨b, 3, none⟩ u3).setCell ⟨b, 4, none⟩ u4).setCell ⟨b, 5, none⟩ u5).setCell ⟨b, 6, none⟩ u6).setCell ⟨b, 7, none⟩ u7) := by
 obtain ⟨c0, c1, c2, c3, c4, c5, c6, c7, rfl⟩ : ∃ c0 c1 c2 c3 c4 c5 c6 c7, cs = [c0, c1, c2, c3, c4, c5, c6, c7] := by
  match cs, hn with
  | [c0, c1, c2, c3, c4, c5, c6, c7], _ => exact ⟨c0, c1, c2, c3, c4, c5, c6, c7, rfl⟩
 exact (((((((h.set 0 (by simp) u0).set 1 (by simp) u1).set 2 (by simp) u2).set 3 (by simp) u3).set 4 (by simp) u4).set 5 (by simp) u5).set 6 (by simp) u6).set 7 (by simp) u7
theorem leave_res {b : Nat} {w : World} {u0 u1 u2 u3 u4 u5 u6 u7 : Value} (X : DBox b [u0, u1, u2, u3, u4, u5, u6, u7] w) {v0 v1 v2 v3 : Value} {rest : List Value} :
  (results Try.f94 (v0 :: v1 :: v2 :: v3 :: .pointer (some ⟨b, 0, none⟩) :: rest).toArray).run Try.prog w = .ok (.agg #[u0, u1, u2, u3, u4, u5, u6, u7]) w := by
 have c0 := X.cell 0 _ rfl
 have c1 := X.cell 1 _ rfl
 have c2 := X.cell 2 _ rfl
 have c3 := X.cell 3 _ rfl
 have c4 := X.cell 4 _ rfl
 have c5 := X.cell 5 _ rfl
 have c6 := X.cell 6 _ rfl
 have c7 := X.cell 7 _ rfl
 simp [results, Try.results94, go_sem, c0, c1, c2, c3, c4, c5, c6, c7]
theorem map_set_at {l : List Task} {k : Nat} (hk : k < l.length) (f : Task → Task) : ((l.take k).map f ++ l.drop k).set k (f l[k]) = (l.take (k + 1)).map f ++ l.drop (k + 1) := by
 rw [List.drop_eq_getElem_cons hk, List.set_append_right _ _ (by simp; omega)]
 rw [show k - ((l.take k).map f).length = 0 by simp; omega, List.set_cons_zero, List.take_succ_eq_append_getElem hk, List.map_append, List.append_assoc]
 rfl
/-- what is left of a run's tasks -/
def LeavePost (r : Run) (st : Int) (E : Sl) (b o c : Nat) (F : List Nat) (w : World) (e : Ending) (w' : World) : Prop :=
 e = .returned (runW (leaveR r st) (E, ⟨some ⟨b, o, none⟩, r.tasks.length, c⟩)) ∧ Hw tskE w' F (.slice (some ⟨b, o, none⟩) r.tasks.length c) (leaveR r st).tasks ∧ Chg [b] w w'
theorem specLeave_own (r : Run) (E : Sl) (st : Int) (b o c : Nat) (F : List Nat) (w : World) (hl : r.tasks.length ≤ 2000000) (hp : 0 < r.tasks.length) (h : Hw tskE w F (.slice (some ⟨b, o, none⟩) r.tasks.length c) r.tasks) :
  Calls Try.prog 94 #[runW r (E, ⟨some ⟨b, o, none⟩, r.tasks.length, c⟩), .int .i64 st] w (LeavePost r st E b o c F w) := by
 obtain ⟨rfl, hbw, hbf⟩ := h.block hp
 have X := (DBox.new 98 [.int .i64 r.id, .int .i64 r.plan.prio, .int .i64 r.plan.most, .int .i64 r.plan.wait, .int .i64 r.plan.tasks, .slice E.a E.n E.c, .int .i64 r.state, .slice (some ⟨b, o, none⟩) r.tasks.length c] w (b := w.heap.size) rfl).below ((Below.refl _ _).alloc (Nat.le_refl _) (.cells #[.int .i64 0, .int .i64 0, .int .i64 0, .int .i64 0, .int .i64 0, .slice none 0 0, .int .i64 0, .slice none 0 0] 98))
 have RES := DBox.new 98 [.int .i64 0, .int .i64 0, .int .i64 0, .int .i64 0, .int .i64 0, .slice none 0 0, .int .i64 0, .slice none 0 0] (w.alloc (.cells #[.int .i64 r.id, .int .i64 r.plan.prio, .int .i64 r.plan.most, .int .i64 r.plan.wait, .int .i64 r.plan.tasks, .slice E.a E.n E.c, .int .i64 r.state, .slice (some ⟨b, o, none⟩) r.tasks.length c] 98)) (b := w.heap.size + 1) (by simp)
 have B0 : Below w.heap.size w ((w.alloc (.cells #[.int .i64 r.id, .int .i64 r.plan.prio, .int .i64 r.plan.most, .int .i64 r.plan.wait, .int .i64 r.plan.tasks, .slice E.a E.n E.c, .int .i64 r.state, .slice (some ⟨b, o, none⟩) r.tasks.length c] 98)).alloc (.cells #[.int .i64 0, .int .i64 0, .int .i64 0, .int .i64 0, .int .i64 0, .slice none 0 0, .int .i64 0, .slice none 0 0] 98)) := by repeat (first | exact Below.refl _ _ | refine Below.alloc ?_ (by simp <;> omega) _)
 go_enter Try.func94, Try.ntmps94
 go_wp2
 have C0 := Chg.of_below [b] B0
 have h0 := h.below B0
 generalize runW r (E, ⟨some ⟨b, o, none⟩, r.tasks.length, c⟩) = rv
 generalize ((w.alloc (.cells #[.int .i64 r.id, .int .i64 r.plan.prio, .int .i64 r.plan.most, .int .i64 r.plan.wait, .int .i64 r.plan.tasks, .slice E.a E.n E.c, .int .i64 r.state, .slice (some ⟨b, o, none⟩) r.tasks.length c] 98)).alloc (.cells #[.int .i64 0, .int .i64 0, .int .i64 0, .int .i64 0, .int .i64 0, .slice none 0 0, .int .i64 0, .slice none 0 0] 98)) = W at *
 go_loopw [5] (fun i wr => ∃ k : Nat, k ≤ r.tasks.length ∧ i = .int .i64 k ∧ Hid (Hw tskE wr [b] (.slice (some ⟨b, o, none⟩) r.tasks.length c) ((r.tasks.take k).map leaveX ++ r.tasks.drop k)) ∧ DBox w.heap.size [.int .i64 r.id, .int .i64 r.plan.prio, .int .i64 r.plan.most, .int .i64 r.plan.wait, .int .i64 r.plan.tasks, .slice E.a E.n E.c, .int .i64 r.state, .slice (some ⟨b, o, none⟩) r.tasks.length c] wr ∧ DBox (w.heap.size + 1) [.int .i64 0, .int .i64 0, .int .i64 0, .int .i64 0, .int .i64 0, .slice none 0 0, .int .i64 0, .slice none 0 0] wr ∧ Chg [b] w wr) (fun i _ => r.tasks.length - (intOf i).toNat)
 case atStart => exact ⟨0, Nat.zero_le _, rfl, by simpa using Lib.hid h0, X, RES, C0⟩
 case round =>
  clear X RES C0 h0 B0
  obtain ⟨k, hk, rfl, hO, X, RES, hb⟩ := hrel
  obtain ⟨X_0, X_1, X_2, X_3, X_4, X_5, X_6, X_7, X_l⟩ := X.g8
  obtain ⟨RES_0, RES_1, RES_2, RES_3, RES_4, RES_5, RES_6, RES_7, RES_l⟩ := RES.g8
  by_cases hlt : k < r.tasks.length
  case neg =>
   have hltI : ¬ (k : Int) < (r.tasks.length : Int) := by omega
   have HO := hO.out
   rw [List.take_of_length_le (by omega), List.drop_eq_nil_of_le (by omega), List.append_nil] at HO
   have xf := X.free
   have rf := RES.free
   go_wp2
   have R4 := DBox.row8 (RES.setOther (a := ⟨w.heap.size, 6, none⟩) (by show w.heap.size + 1 ≠ w.heap.size; omega) (.int .i64 st)) rfl (.int .i64 r.id) (.int .i64 r.plan.prio) (.int .i64 r.plan.most) (.int .i64 r.plan.wait) (.int .i64 r.plan.tasks) (.slice E.a E.n E.c) (.int .i64 st) (.slice (some ⟨b, o, none⟩) r.tasks.length c)
   have hnb : ∀ x ∈ [b], x ∉ [w.heap.size, w.heap.size + 1] := fun x hx h2 => by
    simp only [List.mem_singleton] at hx
    simp only [List.mem_cons, List.not_mem_nil, or_false] at h2
    omega
   refine bodyPost_ret (leave_res R4) rfl ⟨rfl, ?_, ?_⟩
   ·show Hw tskE _ [b] _ (r.tasks.map leaveX)
    have e1 : w.heap.size ∉ [b] := by simp only [List.mem_singleton]; omega
    have e2 : w.heap.size + 1 ∉ [b] := by simp only [List.mem_singleton]; omega
    exact ((((((((HO.set (a := ⟨_, _, none⟩) e1 _).set (a := ⟨_, _, none⟩) e2 _).set (a := ⟨_, _, none⟩) e2 _).set (a := ⟨_, _, none⟩) e2 _).set (a := ⟨_, _, none⟩) e2 _).set (a := ⟨_, _, none⟩) e2 _).set (a := ⟨_, _, none⟩) e2 _).set (a := ⟨_, _, none⟩) e2 _).set (a := ⟨_, _, none⟩) e2 _
   ·exact ((((((((hb.high (Nat.le_refl _) _ _).high (by omega) _ _).high (by omega) _ _).high (by omega) _ _).high (by omega) _ _).high (by omega) _ _).high (by omega) _ _).high (by omega) _ _).high (by omega) _ _
  have hltI : (k : Int) < (r.tasks.length : Int) := by omega
  have hk0 : (0 : Int) ≤ (k : Int) := by omega
  have hkM : k < ((r.tasks.take k).map leaveX ++ r.tasks.drop k).length := by simp; omega
  have hMk := Lib.hid (show ((r.tasks.take k).map leaveX ++ r.tasks.drop k)[k] = r.tasks[k] by
   rw [List.getElem_append_right (by simp; omega)]
   simp [Nat.min_eq_left (Nat.le_of_lt hlt)])
  obtain ⟨b1, o1, hA1, hbb1, c0, c1, c2, c3⟩ := hO.out.rd.tsk hkM
  simp only [Option.some.injEq, Addr.mk.injEq, and_true] at hA1
  obtain ⟨rfl, rfl⟩ := hA1
  rw [hMk.out] at c0 c1 c2 c3
  have hlM := Lib.hid (show ((r.tasks.take k).map leaveX ++ r.tasks.drop k).length = r.tasks.length by simp; omega)
  by_cases s4 : r.tasks[k].state = 4
  ·have q4 : (r.tasks[k].state != 4) = false := by simp [s4]
   have hy := Lib.hid (show leaveX r.tasks[k] = ⟨r.tasks[k].state, r.tasks[k].need, r.tasks[k].try_, r.tasks[k].until_⟩ by unfold leaveX; rw [if_neg (by simp [s4])])
   clear s4
   go_upto_region 8 with fail
   have XB : DBox wr.heap.size [.int .i64 r.tasks[k].state, .int .i64 r.tasks[k].need, .int .i64 r.tasks[k].try_, .int .i64 r.tasks[k].until_] (wr.alloc (.cells #[.int .i64 r.tasks[k].state, .int .i64 r.tasks[k].need, .int .i64 r.tasks[k].try_, .int .i64 r.tasks[k].until_] 100)) := DBox.new 100 [.int .i64 r.tasks[k].state, .int .i64 r.tasks[k].need, .int .i64 r.tasks[k].try_, .int .i64 r.tasks[k].until_] wr rfl
   have bw : Chg [b] wr (wr.alloc (.cells #[.int .i64 r.tasks[k].state, .int .i64 r.tasks[k].need, .int .i64 r.tasks[k].try_, .int .i64 r.tasks[k].until_] 100)) := Chg.of_below _ ((Below.refl _ _).alloc (Nat.le_refl _) _)
   have bb : Below wr.heap.size wr (wr.alloc (.cells #[.int .i64 r.tasks[k].state, .int .i64 r.tasks[k].need, .int .i64 r.tasks[k].try_, .int .i64 r.tasks[k].until_] 100)) := by repeat (first | (with_reducible exact Below.refl _ _) | refine Below.setCell ?_ (by simp <;> omega) _ | refine Below.alloc ?_ (by simp <;> omega) _)
   have HO := hO.out.below bb
   replace X := X.below bb
   replace RES := RES.below bb
   clear bb
   have hbz := bw.size
   generalize (wr.alloc (.cells #[.int .i64 r.tasks[k].state, .int .i64 r.tasks[k].need, .int .i64 r.tasks[k].try_, .int .i64 r.tasks[k].until_] 100)) = W1 at *
   clear X_0 X_1 X_2 X_3 X_4 X_5 X_6 X_7 X_l
   clear RES_0 RES_1 RES_2 RES_3 RES_4 RES_5 RES_6 RES_7 RES_l
   obtain ⟨X_0, X_1, X_2, X_3, X_4, X_5, X_6, X_7, X_l⟩ := X.g8
   have z0 := XB.cell 0 _ rfl
   have z1 := XB.cell 1 _ rfl
   have z2 := XB.cell 2 _ rfl
   have z3 := XB.cell 3 _ rfl
   have zl := XB.lt
   obtain ⟨b2, o2, hA2, hbb2, d0, d1, d2, d3⟩ := HO.rd.tsk hkM
   simp only [Option.some.injEq, Addr.mk.injEq, and_true] at hA2
   obtain ⟨rfl, rfl⟩ := hA2
   have hfz := (HO.block (by omega)).2.2
   have Y4 : Hw tskE ((((W1.setCell ⟨b, o + k * 4, none⟩ (.int .i64 r.tasks[k].state)).setCell ⟨b, o + k * 4 + 1, none⟩ (.int .i64 r.tasks[k].need)).setCell ⟨b, o + k * 4 + 2, none⟩ (.int .i64 r.tasks[k].try_)).setCell ⟨b, o + k * 4 + 3, none⟩ (.int .i64 r.tasks[k].until_)) [b] (.slice (some ⟨b, o, none⟩) r.tasks.length c) _ := HO.task4 hkM ⟨r.tasks[k].state, r.tasks[k].need, r.tasks[k].try_, r.tasks[k].until_⟩
   have B4 : Chg [b] w ((((W1.setCell ⟨b, o + k * 4, none⟩ (.int .i64 r.tasks[k].state)).setCell ⟨b, o + k * 4 + 1, none⟩ (.int .i64 r.tasks[k].need)).setCell ⟨b, o + k * 4 + 2, none⟩ (.int .i64 r.tasks[k].try_)).setCell ⟨b, o + k * 4 + 3, none⟩ (.int .i64 r.tasks[k].until_)) := (((((hb.trans bw).trans (Chg.setCell _ b _ _)).trans (Chg.setCell _ b _ _)).trans (Chg.setCell _ b _ _)).trans (Chg.setCell _ b _ _))
   have e1 : w.heap.size ≠ b := by omega
   have e2 : w.heap.size + 1 ≠ b := by omega
   have X4 : DBox w.heap.size _ ((((W1.setCell ⟨b, o + k * 4, none⟩ (.int .i64 r.tasks[k].state)).setCell ⟨b, o + k * 4 + 1, none⟩ (.int .i64 r.tasks[k].need)).setCell ⟨b, o + k * 4 + 2, none⟩ (.int .i64 r.tasks[k].try_)).setCell ⟨b, o + k * 4 + 3, none⟩ (.int .i64 r.tasks[k].until_)) := (((X.setOther (a := ⟨b, _, none⟩) e1 _).setOther (a := ⟨b, _, none⟩) e1 _).setOther (a := ⟨b, _, none⟩) e1 _).setOther (a := ⟨b, _, none⟩) e1 _
   have R4 : DBox (w.heap.size + 1) _ ((((W1.setCell ⟨b, o + k * 4, none⟩ (.int .i64 r.tasks[k].state)).setCell ⟨b, o + k * 4 + 1, none⟩ (.int .i64 r.tasks[k].need)).setCell ⟨b, o + k * 4 + 2, none⟩ (.int .i64 r.tasks[k].try_)).setCell ⟨b, o + k * 4 + 3, none⟩ (.int .i64 r.tasks[k].until_)) := (((RES.setOther (a := ⟨b, _, none⟩) e2 _).setOther (a := ⟨b, _, none⟩) e2 _).setOther (a := ⟨b, _, none⟩) e2 _).setOther (a := ⟨b, _, none⟩) e2 _
   have hstep := Lib.hid (show ((r.tasks.take k).map leaveX ++ r.tasks.drop k).set k ⟨r.tasks[k].state, r.tasks[k].need, r.tasks[k].try_, r.tasks[k].until_⟩ = (r.tasks.take (k + 1)).map leaveX ++ r.tasks.drop (k + 1) by rw [← map_set_at hlt leaveX, hy.out])
   clear d0 d1 d2 d3
   have g0 := Lib.hid Y4
   clear Y4
   obtain ⟨b3, o3, hA3, hbb3, d0, d1, d2, d3⟩ := HO.rd.tsk hkM
   simp only [Option.some.injEq, Addr.mk.injEq, and_true] at hA3
   obtain ⟨rfl, rfl⟩ := hA3
   go_wp2
   exact ⟨⟨k + 1, by omega, by go_num, by rw [← hstep.out]; exact g0, X4, R4, B4⟩, by simp [intOf]; omega⟩
  by_cases s5 : r.tasks[k].state = 5
  ·have q4 : (r.tasks[k].state != 4) = true := by simp [s4]
   have q5 : (r.tasks[k].state != 5) = false := by simp [s5]
   have hy := Lib.hid (show leaveX r.tasks[k] = ⟨r.tasks[k].state, r.tasks[k].need, r.tasks[k].try_, r.tasks[k].until_⟩ by unfold leaveX; rw [if_neg (by simp [s5])])
   clear s4 s5
   go_upto_region 8 with fail
   have XB : DBox wr.heap.size [.int .i64 r.tasks[k].state, .int .i64 r.tasks[k].need, .int .i64 r.tasks[k].try_, .int .i64 r.tasks[k].until_] (wr.alloc (.cells #[.int .i64 r.tasks[k].state, .int .i64 r.tasks[k].need, .int .i64 r.tasks[k].try_, .int .i64 r.tasks[k].until_] 100)) := DBox.new 100 [.int .i64 r.tasks[k].state, .int .i64 r.tasks[k].need, .int .i64 r.tasks[k].try_, .int .i64 r.tasks[k].until_] wr rfl
   have bw : Chg [b] wr (wr.alloc (.cells #[.int .i64 r.tasks[k].state, .int .i64 r.tasks[k].need, .int .i64 r.tasks[k].try_, .int .i64 r.tasks[k].until_] 100)) := Chg.of_below _ ((Below.refl _ _).alloc (Nat.le_refl _) _)
   have bb : Below wr.heap.size wr (wr.alloc (.cells #[.int .i64 r.tasks[k].state, .int .i64 r.tasks[k].need, .int .i64 r.tasks[k].try_, .int .i64 r.tasks[k].until_] 100)) := by repeat (first | (with_reducible exact Below.refl _ _) | refine Below.setCell ?_ (by simp <;> omega) _ | refine Below.alloc ?_ (by simp <;> omega) _)
   have HO := hO.out.below bb
   replace X := X.below bb
   replace RES := RES.below bb
   clear bb
   have hbz := bw.size
   generalize (wr.alloc (.cells #[.int .i64 r.tasks[k].state, .int .i64 r.tasks[k].need, .int .i64 r.tasks[k].try_, .int .i64 r.tasks[k].until_] 100)) = W1 at *
   clear X_0 X_1 X_2 X_3 X_4 X_5 X_6 X_7 X_l
   clear RES_0 RES_1 RES_2 RES_3 RES_4 RES_5 RES_6 RES_7 RES_l
   obtain ⟨X_0, X_1, X_2, X_3, X_4, X_5, X_6, X_7, X_l⟩ := X.g8
   have z0 := XB.cell 0 _ rfl
   have z1 := XB.cell 1 _ rfl
   have z2 := XB.cell 2 _ rfl
   have z3 := XB.cell 3 _ rfl
   have zl := XB.lt
   obtain ⟨b2, o2, hA2, hbb2, d0, d1, d2, d3⟩ := HO.rd.tsk hkM
   simp only [Option.some.injEq, Addr.mk.injEq, and_true] at hA2
   obtain ⟨rfl, rfl⟩ := hA2
   have hfz := (HO.block (by omega)).2.2
   have Y4 : Hw tskE ((((W1.setCell ⟨b, o + k * 4, none⟩ (.int .i64 r.tasks[k].state)).setCell ⟨b, o + k * 4 + 1, none⟩ (.int .i64 r.tasks[k].need)).setCell ⟨b, o + k * 4 + 2, none⟩ (.int .i64 r.tasks[k].try_)).setCell ⟨b, o + k * 4 + 3, none⟩ (.int .i64 r.tasks[k].until_)) [b] (.slice (some ⟨b, o, none⟩) r.tasks.length c) _ := HO.task4 hkM ⟨r.tasks[k].state, r.tasks[k].need, r.tasks[k].try_, r.tasks[k].until_⟩
   have B4 : Chg [b] w ((((W1.setCell ⟨b, o + k * 4, none⟩ (.int .i64 r.tasks[k].state)).setCell ⟨b, o + k * 4 + 1, none⟩ (.int .i64 r.tasks[k].need)).setCell ⟨b, o + k * 4 + 2, none⟩ (.int .i64 r.tasks[k].try_)).setCell ⟨b, o + k * 4 + 3, none⟩ (.int .i64 r.tasks[k].until_)) := (((((hb.trans bw).trans (Chg.setCell _ b _ _)).trans (Chg.setCell _ b _ _)).trans (Chg.setCell _ b _ _)).trans (Chg.setCell _ b _ _))
   have e1 : w.heap.size ≠ b := by omega
   have e2 : w.heap.size + 1 ≠ b := by omega
   have X4 : DBox w.heap.size _ ((((W1.setCell ⟨b, o + k * 4, none⟩ (.int .i64 r.tasks[k].state)).setCell ⟨b, o + k * 4 + 1, none⟩ (.int .i64 r.tasks[k].need)).setCell ⟨b, o + k * 4 + 2, none⟩ (.int .i64 r.tasks[k].try_)).setCell ⟨b, o + k * 4 + 3, none⟩ (.int .i64 r.tasks[k].until_)) := (((X.setOther (a := ⟨b, _, none⟩) e1 _).setOther (a := ⟨b, _, none⟩) e1 _).setOther (a := ⟨b, _, none⟩) e1 _).setOther (a := ⟨b, _, none⟩) e1 _
   have R4 : DBox (w.heap.size + 1) _ ((((W1.setCell ⟨b, o + k * 4, none⟩ (.int .i64 r.tasks[k].state)).setCell ⟨b, o + k * 4 + 1, none⟩ (.int .i64 r.tasks[k].need)).setCell ⟨b, o + k * 4 + 2, none⟩ (.int .i64 r.tasks[k].try_)).setCell ⟨b, o + k * 4 + 3, none⟩ (.int .i64 r.tasks[k].until_)) := (((RES.setOther (a := ⟨b, _, none⟩) e2 _).setOther (a := ⟨b, _, none⟩) e2 _).setOther (a := ⟨b, _, none⟩) e2 _).setOther (a := ⟨b, _, none⟩) e2 _
   have hstep := Lib.hid (show ((r.tasks.take k).map leaveX ++ r.tasks.drop k).set k ⟨r.tasks[k].state, r.tasks[k].need, r.tasks[k].try_, r.tasks[k].until_⟩ = (r.tasks.take (k + 1)).map leaveX ++ r.tasks.drop (k + 1) by rw [← map_set_at hlt leaveX, hy.out])
   clear d0 d1 d2 d3
   have g0 := Lib.hid Y4
   clear Y4
   obtain ⟨b3, o3, hA3, hbb3, d0, d1, d2, d3⟩ := HO.rd.tsk hkM
   simp only [Option.some.injEq, Addr.mk.injEq, and_true] at hA3
   obtain ⟨rfl, rfl⟩ := hA3
   go_wp2
   exact ⟨⟨k + 1, by omega, by go_num, by rw [← hstep.out]; exact g0, X4, R4, B4⟩, by simp [intOf]; omega⟩
  have q4 : (r.tasks[k].state != 4) = true := by simp [s4]
  have q5 : (r.tasks[k].state != 5) = true := by simp [s5]
  have hy := Lib.hid (show leaveX r.tasks[k] = ⟨6, r.tasks[k].need, r.tasks[k].try_, 0⟩ by unfold leaveX; rw [if_pos ⟨s4, s5⟩])
  clear s4 s5
  go_upto_region 8 with fail
  have XB : DBox wr.heap.size [.int .i64 6, .int .i64 r.tasks[k].need, .int .i64 r.tasks[k].try_, .int .i64 0] (wr.alloc (.cells #[.int .i64 6, .int .i64 r.tasks[k].need, .int .i64 r.tasks[k].try_, .int .i64 0] 100)) := DBox.new 100 [.int .i64 6, .int .i64 r.tasks[k].need, .int .i64 r.tasks[k].try_, .int .i64 0] wr rfl
  have bw : Chg [b] wr (wr.alloc (.cells #[.int .i64 6, .int .i64 r.tasks[k].need, .int .i64 r.tasks[k].try_, .int .i64 0] 100)) := Chg.of_below _ (by repeat (first | (with_reducible exact Below.refl _ _) | refine Below.setCell ?_ (by simp <;> omega) _ | refine Below.alloc ?_ (by simp <;> omega) _))
  have bb : Below wr.heap.size wr (wr.alloc (.cells #[.int .i64 6, .int .i64 r.tasks[k].need, .int .i64 r.tasks[k].try_, .int .i64 0] 100)) := by repeat (first | (with_reducible exact Below.refl _ _) | refine Below.setCell ?_ (by simp <;> omega) _ | refine Below.alloc ?_ (by simp <;> omega) _)
  have HO := hO.out.below bb
  replace X := X.below bb
  replace RES := RES.below bb
  clear bb
  have hbz := bw.size
  generalize (wr.alloc (.cells #[.int .i64 6, .int .i64 r.tasks[k].need, .int .i64 r.tasks[k].try_, .int .i64 0] 100)) = W1 at *
  clear X_0 X_1 X_2 X_3 X_4 X_5 X_6 X_7 X_l
  clear RES_0 RES_1 RES_2 RES_3 RES_4 RES_5 RES_6 RES_7 RES_l
  obtain ⟨X_0, X_1, X_2, X_3, X_4, X_5, X_6, X_7, X_l⟩ := X.g8
  have z0 := XB.cell 0 _ rfl
  have z1 := XB.cell 1 _ rfl
  have z2 := XB.cell 2 _ rfl
  have z3 := XB.cell 3 _ rfl
  have zl := XB.lt
  obtain ⟨b2, o2, hA2, hbb2, d0, d1, d2, d3⟩ := HO.rd.tsk hkM
  simp only [Option.some.injEq, Addr.mk.injEq, and_true] at hA2
  obtain ⟨rfl, rfl⟩ := hA2
  have hfz := (HO.block (by omega)).2.2
  have Y4 : Hw tskE ((((W1.setCell ⟨b, o + k * 4, none⟩ (.int .i64 6)).setCell ⟨b, o + k * 4 + 1, none⟩ (.int .i64 r.tasks[k].need)).setCell ⟨b, o + k * 4 + 2, none⟩ (.int .i64 r.tasks[k].try_)).setCell ⟨b, o + k * 4 + 3, none⟩ (.int .i64 0)) [b] (.slice (some ⟨b, o, none⟩) r.tasks.length c) _ := HO.task4 hkM ⟨6, r.tasks[k].need, r.tasks[k].try_, 0⟩
  have B4 : Chg [b] w ((((W1.setCell ⟨b, o + k * 4, none⟩ (.int .i64 6)).setCell ⟨b, o + k * 4 + 1, none⟩ (.int .i64 r.tasks[k].need)).setCell ⟨b, o + k * 4 + 2, none⟩ (.int .i64 r.tasks[k].try_)).setCell ⟨b, o + k * 4 + 3, none⟩ (.int .i64 0)) := (((((hb.trans bw).trans (Chg.setCell _ b _ _)).trans (Chg.setCell _ b _ _)).trans (Chg.setCell _ b _ _)).trans (Chg.setCell _ b _ _))
  have e1 : w.heap.size ≠ b := by omega
  have e2 : w.heap.size + 1 ≠ b := by omega
  have X4 : DBox w.heap.size _ ((((W1.setCell ⟨b, o + k * 4, none⟩ (.int .i64 6)).setCell ⟨b, o + k * 4 + 1, none⟩ (.int .i64 r.tasks[k].need)).setCell ⟨b, o + k * 4 + 2, none⟩ (.int .i64 r.tasks[k].try_)).setCell ⟨b, o + k * 4 + 3, none⟩ (.int .i64 0)) := (((X.setOther (a := ⟨b, _, none⟩) e1 _).setOther (a := ⟨b, _, none⟩) e1 _).setOther (a := ⟨b, _, none⟩) e1 _).setOther (a := ⟨b, _, none⟩) e1 _
  have R4 : DBox (w.heap.size + 1) _ ((((W1.setCell ⟨b, o + k * 4, none⟩ (.int .i64 6)).setCell ⟨b, o + k * 4 + 1, none⟩ (.int .i64 r.tasks[k].need)).setCell ⟨b, o + k * 4 + 2, none⟩ (.int .i64 r.tasks[k].try_)).setCell ⟨b, o + k * 4 + 3, none⟩ (.int .i64 0)) := (((RES.setOther (a := ⟨b, _, none⟩) e2 _).setOther (a := ⟨b, _, none⟩) e2 _).setOther (a := ⟨b, _, none⟩) e2 _).setOther (a := ⟨b, _, none⟩) e2 _
  have hstep := Lib.hid (show ((r.tasks.take k).map leaveX ++ r.tasks.drop k).set k ⟨6, r.tasks[k].need, r.tasks[k].try_, 0⟩ = (r.tasks.take (k + 1)).map leaveX ++ r.tasks.drop (k + 1) by rw [← map_set_at hlt leaveX, hy.out])
  clear d0 d1 d2 d3
  have g0 := Lib.hid Y4
  clear Y4
  obtain ⟨b3, o3, hA3, hbb3, d0, d1, d2, d3⟩ := HO.rd.tsk hkM
  simp only [Option.some.injEq, Addr.mk.injEq, and_true] at hA3
  obtain ⟨rfl, rfl⟩ := hA3
  go_wp2
  exact ⟨⟨k + 1, by omega, by go_num, by rw [← hstep.out]; exact g0, X4, R4, B4⟩, by simp [intOf]; omega⟩
end Go.Proofs.Ytonlnjdempbfoaa
end
section
namespace Go.Proofs.Ytonlnjdempbfoaa
open Go.RowKit
set_option maxRecDepth 100000
set_option maxHeartbeats 2000000
set_option linter.unusedVariables false
set_option linter.unusedSimpArgs false
theorem l09Started_res {b : Nat} {w : World} {u0 u1 u2 u3 u4 u5 u6 u7 : Value} (X : DBox b [u0, u1, u2, u3, u4, u5, u6, u7] w) {v0 v1 v2 v3 v4 v5 : Value} {rest : List Value} :
  (results Try.f72 (v0 :: v1 :: v2 :: v3 :: v4 :: v5 :: .pointer (some ⟨b, 0, none⟩) :: rest).toArray).run Try.prog w = .ok (.agg #[u0, u1, u2, u3, u4, u5, u6, u7]) w := by
 have c0 := X.cell 0 _ rfl
 have c1 := X.cell 1 _ rfl
 have c2 := X.cell 2 _ rfl
 have c3 := X.cell 3 _ rfl
 have c4 := X.cell 4 _ rfl
 have c5 := X.cell 5 _ rfl
 have c6 := X.cell 6 _ rfl
 have c7 := X.cell 7 _ rfl
 simp [results, Try.results72, go_sem, c0, c1, c2, c3, c4, c5, c6, c7]
theorem modT_eq {l : List Task} {t : Nat} (h : t < l.length) (f : Task → Task) : modT l t f = l.set t (f l[t]) := by
 unfold modT
 rw [List.getD_eq_getElem?_getD, List.getElem?_eq_getElem h]
 rfl
theorem specStarted_own (r : Run) (s : Sl × Sl) (t : Nat) (now : Int) (w : World) (hl : cntRun r ≤ 2000000) (ht : t < r.tasks.length) (hq : -1000000 ≤ r.tasks[t].try_ ∧ r.tasks[t].try_ ≤ 2000000000) (hnow : 0 ≤ now ∧ now ≤ 2000000000) (hwait : 0 ≤ r.plan.wait ∧ r.plan.wait ≤ 2000000000) (h : runD.rd w w.heap.size r s) :
  Calls Try.prog 72 #[runW r s, .int .i64 t, .int .i64 now] w (OwnPost runD runW (startR r t now) w) := by
 have CP := Lib.hid (fun W (hW : Below w.heap.size w W) => specCopyRun_own r s W hl (runD.rd_more (runD.rd_below h hW) hW.size))
 obtain ⟨⟨A1, n1, c1⟩, ⟨A2, n2, c2⟩⟩ := s
 obtain rfl : n2 = r.tasks.length := RdL.at1 (s := ⟨A2, n2, c2⟩) h.2
 clear h hl
 have htI : (t : Int) < (r.tasks.length : Int) := by omega
 have ht0 : (0 : Int) ≤ (t : Int) := by omega
 have X := (DBox.new 98 [.int .i64 r.id, .int .i64 r.plan.prio, .int .i64 r.plan.most, .int .i64 r.plan.wait, .int .i64 r.plan.tasks, .slice A1 n1 c1, .int .i64 r.state, .slice A2 r.tasks.length c2] w (b := w.heap.size) rfl).below ((Below.refl _ _).alloc (Nat.le_refl _) (.cells #[.int .i64 0, .int .i64 0, .int .i64 0, .int .i64 0, .int .i64 0, .slice none 0 0, .int .i64 0, .slice none 0 0] 98))
 have RES := DBox.new 98 [.int .i64 0, .int .i64 0, .int .i64 0, .int .i64 0, .int .i64 0, .slice none 0 0, .int .i64 0, .slice none 0 0] (w.alloc (.cells #[.int .i64 r.id, .int .i64 r.plan.prio, .int .i64 r.plan.most, .int .i64 r.plan.wait, .int .i64 r.plan.tasks, .slice A1 n1 c1, .int .i64 r.state, .slice A2 r.tasks.length c2] 98)) (b := w.heap.size + 1) (by simp)
 have B0 : Below w.heap.size w ((w.alloc (.cells #[.int .i64 r.id, .int .i64 r.plan.prio, .int .i64 r.plan.most, .int .i64 r.plan.wait, .int .i64 r.plan.tasks, .slice A1 n1 c1, .int .i64 r.state, .slice A2 r.tasks.length c2] 98)).alloc (.cells #[.int .i64 0, .int .i64 0, .int .i64 0, .int .i64 0, .int .i64 0, .slice none 0 0, .int .i64 0, .slice none 0 0] 98)) := by repeat (first | exact Below.refl _ _ | refine Below.alloc ?_ (by simp <;> omega) _)
 go_enter Try.func72, Try.ntmps72
 go_wp2_with fail
 refine (CP.out _ B0).mono ?_
 rintro e w1 ⟨⟨⟨A3, n3, c3⟩, ⟨A4, n4, c4⟩⟩, F, rfl, o1, nF, b1⟩
 obtain ⟨F1, F2, rfl, hnd, op, ot⟩ := o1
 replace ot : OwL taskD w1 F2 (.slice A4 n4 c4) r.tasks := ot
 obtain rfl : n4 = r.tasks.length := RdL.at1 (s := ⟨A4, n4, c4⟩) ot.rd
 have oh := task_hw ot
 clear ot CP
 obtain ⟨b, o, rfl, hbb, d0, d1, d2, d3⟩ := oh.rd.tsk ht
 have hBw := B0.size
 have hb2 := oh.block (by omega)
 obtain ⟨rfl, hbw, hbf⟩ := hb2
 have hbn := nF b (by simp)
 have hXl := X.lt
 have hRl := RES.lt
 replace B0 := bnext B0 b1
 replace X := X.below b1
 replace RES := RES.below b1
 clear b1
 -- the copy's own variable
 go_upto_region 2 with fail
 have OB := DBox.new 98 [.int .i64 r.id, .int .i64 r.plan.prio, .int .i64 r.plan.most, .int .i64 r.plan.wait, .int .i64 r.plan.tasks, .slice A3 n3 c3, .int .i64 r.state, .slice (some ⟨b, o, none⟩) r.tasks.length c4] w1 (b := w1.heap.size) rfl
 have b2 : Below w1.heap.size w1 (w1.alloc (.cells #[.int .i64 r.id, .int .i64 r.plan.prio, .int .i64 r.plan.most, .int .i64 r.plan.wait, .int .i64 r.plan.tasks, .slice A3 n3 c3, .int .i64 r.state, .slice (some ⟨b, o, none⟩) r.tasks.length c4] 98)) := (Below.refl _ _).alloc (Nat.le_refl _) _
 have B2 := bnext B0 b2
 replace X := X.below b2
 replace RES := RES.below b2
 replace oh := oh.below b2
 have op2 := planD.ow_below op b2
 have hs2 := b2.size
 have ow1 := OB.lt
 clear op d0 d1 d2 d3
 generalize w1.alloc (.cells #[.int .i64 r.id, .int .i64 r.plan.prio, .int .i64 r.plan.most, .int .i64 r.plan.wait, .int .i64 r.plan.tasks, .slice A3 n3 c3, .int .i64 r.state, .slice (some ⟨b, o, none⟩) r.tasks.length c4] 98) = w2 at *
 obtain ⟨X_0, X_1, X_2, X_3, X_4, X_5, X_6, X_7, X_l⟩ := X.g8
 obtain ⟨OB_0, OB_1, OB_2, OB_3, OB_4, OB_5, OB_6, OB_7, OB_l⟩ := OB.g8
 obtain ⟨b', o', hA', hbb', d0, d1, d2, d3⟩ := oh.rd.tsk ht
 simp only [Option.some.injEq, Addr.mk.injEq, and_true] at hA'
 obtain ⟨rfl, rfl⟩ := hA'
 go_upto_region 6 with fail
 have XB := DBox.new 100 [.int .i64 3, .int .i64 r.tasks[t].need, .int .i64 (r.tasks[t].try_ + 1), .int .i64 (now + r.plan.wait)] w2 (b := w2.heap.size) rfl
 have b3 : Below w2.heap.size w2 (w2.alloc (.cells #[.int .i64 3, .int .i64 r.tasks[t].need, .int .i64 (r.tasks[t].try_ + 1), .int .i64 (now + r.plan.wait)] 100)) := (Below.refl _ _).alloc (Nat.le_refl _) _
 have B3 := bnext B2 b3
 clear X_0 X_1 X_2 X_3 X_4 X_5 X_6 X_7 X_l
 clear OB_0 OB_1 OB_2 OB_3 OB_4 OB_5 OB_6 OB_7 OB_l
 clear d0 d1 d2 d3 hbb'
 replace OB := OB.below b3
 replace RES := RES.below b3
 replace oh := oh.below b3
 have op3 := planD.ow_below op2 b3
 have hs3 := b3.size
 have ow2 := XB.lt
 clear op2 X
 generalize w2.alloc (.cells #[.int .i64 3, .int .i64 r.tasks[t].need, .int .i64 (r.tasks[t].try_ + 1), .int .i64 (now + r.plan.wait)] 100) = w3 at *
 obtain ⟨OB_0, OB_1, OB_2, OB_3, OB_4, OB_5, OB_6, OB_7, OB_l⟩ := OB.g8
 obtain ⟨XB_0, XB_1, XB_2, XB_3, XB_l⟩ := XB.g4
 obtain ⟨b', o', hA', hbb', d0, d1, d2, d3⟩ := oh.rd.tsk ht
 simp only [Option.some.injEq, Addr.mk.injEq, and_true] at hA'
 obtain ⟨rfl, rfl⟩ := hA'
 have hff := (oh.block (by omega)).2.2
 go_upto_region 7 with fail
 have hbF1 : b ∉ F1 := fun hx => (List.nodup_append.1 hnd).2.2 b hx b (by simp) rfl
 have oh4 : Hw tskE ((((w3.setCell ⟨b, o + t * 4, none⟩ (.int .i64 3)).setCell ⟨b, o + t * 4 + 1, none⟩ (.int .i64 r.tasks[t].need)).setCell ⟨b, o + t * 4 + 2, none⟩ (.int .i64 (r.tasks[t].try_ + 1))).setCell ⟨b, o + t * 4 + 3, none⟩ (.int .i64 (now + r.plan.wait))) [b] (.slice (some ⟨b, o, none⟩) r.tasks.length c4) _ := oh.task4 ht ⟨3, r.tasks[t].need, r.tasks[t].try_ + 1, now + r.plan.wait⟩
 have hC : Chg [b] w3 ((((w3.setCell ⟨b, o + t * 4, none⟩ (.int .i64 3)).setCell ⟨b, o + t * 4 + 1, none⟩ (.int .i64 r.tasks[t].need)).setCell ⟨b, o + t * 4 + 2, none⟩ (.int .i64 (r.tasks[t].try_ + 1))).setCell ⟨b, o + t * 4 + 3, none⟩ (.int .i64 (now + r.plan.wait))) := (((Chg.setCell w3 b _ _).trans (Chg.setCell _ b _ _)).trans (Chg.setCell _ b _ _)).trans (Chg.setCell _ b _ _)
 have op4 := planD.ow_chg op3 hC (fun x hx h => by simp only [List.mem_singleton] at h; subst h; exact hbF1 hx)
 have B4 : Below w.heap.size w ((((w3.setCell ⟨b, o + t * 4, none⟩ (.int .i64 3)).setCell ⟨b, o + t * 4 + 1, none⟩ (.int .i64 r.tasks[t].need)).setCell ⟨b, o + t * 4 + 2, none⟩ (.int .i64 (r.tasks[t].try_ + 1))).setCell ⟨b, o + t * 4 + 3, none⟩ (.int .i64 (now + r.plan.wait))) := by
  have hbw2 : w.heap.size ≤ b := by omega
  repeat (first | (with_reducible exact B3) | refine Below.setCell ?_ (by simp <;> omega) _)
 clear OB_0 OB_1 OB_2 OB_3 OB_4 OB_5 OB_6 OB_7 OB_l
 clear XB_0 XB_1 XB_2 XB_3 XB_l
 clear d0 d1 d2 d3 hbb' hff XB
 replace OB := OB.chg hC (by simp only [List.mem_singleton]; omega)
 replace RES := RES.chg hC (by simp only [List.mem_singleton]; omega)
 have hs4 := hC.size
 clear hC oh op3
 generalize ((((w3.setCell ⟨b, o + t * 4, none⟩ (.int .i64 3)).setCell ⟨b, o + t * 4 + 1, none⟩ (.int .i64 r.tasks[t].need)).setCell ⟨b, o + t * 4 + 2, none⟩ (.int .i64 (r.tasks[t].try_ + 1))).setCell ⟨b, o + t * 4 + 3, none⟩ (.int .i64 (now + r.plan.wait))) = w4 at *
 obtain ⟨OB_0, OB_1, OB_2, OB_3, OB_4, OB_5, OB_6, OB_7, OB_l⟩ := OB.g8
 obtain ⟨RES_0, RES_1, RES_2, RES_3, RES_4, RES_5, RES_6, RES_7, RES_l⟩ := RES.g8
 have rf := RES.free
 go_wp2
 refine bodyPost_ret (l09Started_res (DBox.row8 RES rfl _ _ _ _ _ _ _ _)) rfl ⟨(⟨A3, n3, c3⟩, ⟨some ⟨b, o, none⟩, r.tasks.length, c4⟩), F1 ++ [b], rfl, ⟨F1, [b], rfl, hnd, ?_, ?_⟩, ?_, ?_⟩
 ·have e2 : w.heap.size + 1 ∉ F1 := fun hx => by have := nF _ (List.mem_append_left _ hx); omega
  show planD.ow _ F1 r.plan _
  exact (by (repeat (refine Dt.ow_set planD ?_ e2 _)); exact op4)
 ·have e1 : w.heap.size + 1 ∉ [b] := by simp only [List.mem_singleton]; omega
  show OwL taskD _ [b] _ (modT r.tasks t fun x => ⟨3, x.need, x.try_ + 1, now + r.plan.wait⟩)
  rw [modT_eq ht]
  exact task_owl ((((((((oh4.set (a := ⟨w.heap.size + 1, _, none⟩) e1 _).set (a := ⟨w.heap.size + 1, _, none⟩) e1 _).set (a := ⟨w.heap.size + 1, _, none⟩) e1 _).set (a := ⟨w.heap.size + 1, _, none⟩) e1 _).set (a := ⟨w.heap.size + 1, _, none⟩) e1 _).set (a := ⟨w.heap.size + 1, _, none⟩) e1 _).set (a := ⟨w.heap.size + 1, _, none⟩) e1 _).set (a := ⟨w.heap.size + 1, _, none⟩) e1 _)
 ·intro x hx
  have := nF x hx
  omega
 ·repeat (first | (with_reducible exact B4) | refine Below.setCell ?_ (by simp <;> omega) _)
end Go.Proofs.Ytonlnjdempbfoaa
end
section
namespace Go.Proofs.Ytonlnjdempbfoaa
open Go.RowKit
set_option maxRecDepth 100000
set_option maxHeartbeats 2000000
set_option linter.unusedVariables false
set_option linter.unusedSimpArgs false
/-- a run is right, and a task of it runs -/
def runsP (r : Run) (t : Int) : Prop := runP r ∧ (0 ≤ t ∧ t < r.tasks.length) ∧ (taskAt r t.toNat).state = 3
theorem specRuns_any (r : Run) (s : Sl × Sl) (t : Int) (w : World) (hl : cntRun r ≤ 2000000) (h : runD.rd w w.heap.size r s) :
  Calls Try.prog 91 #[runW r s, .int .i64 t] w fun e w' => e = .returned (.bool (tf (runsP r t))) ∧ Below w.heap.size w w' := by
 have CR := Lib.hid (fun W (hW : Below w.heap.size w W) => specRunOk_any r s W hl (runD.rd_more (runD.rd_below h hW) hW.size))
 have h2 := Lib.hid (fun W (hW : Below w.heap.size w W) => (task_rd h.2).below hW)
 have hlen : r.tasks.length ≤ 2000000 := Nat.le_trans (cntL_len cntTask _) (by unfold cntRun at hl; omega)
 obtain ⟨⟨A1, n1, c1⟩, ⟨A2, n2, c2⟩⟩ := s
 obtain rfl : n2 = r.tasks.length := RdL.at1 (s := ⟨A2, n2, c2⟩) h.2
 clear h hl
 have X := DBox.new 98 [.int .i64 r.id, .int .i64 r.plan.prio, .int .i64 r.plan.most, .int .i64 r.plan.wait, .int .i64 r.plan.tasks, .slice A1 n1 c1, .int .i64 r.state, .slice A2 r.tasks.length c2] w (b := w.heap.size) rfl
 have B0 : Below w.heap.size w (w.alloc (.cells #[.int .i64 r.id, .int .i64 r.plan.prio, .int .i64 r.plan.most, .int .i64 r.plan.wait, .int .i64 r.plan.tasks, .slice A1 n1 c1, .int .i64 r.state, .slice A2 r.tasks.length c2] 98)) := by repeat (first | exact Below.refl _ _ | refine Below.alloc ?_ (by simp <;> omega) _)
 cases p0 : tf (runP r)
 case false =>
  have H := Lib.hid (show tf (runsP r t) = false from tf_false (fun hh => by rw [tf_true hh.1] at p0; cases p0))
  go_enter Try.func91, Try.ntmps91
  go_wp2_with (go_at_call 80; refine (CR.out _ B0).mono ?_; rintro e w1 ⟨rfl, b1⟩; rw [p0])
  go_ret
  exact ⟨ret_bool H.out.symm, bnext B0 b1⟩
 cases p1 : inB t 0 ((r.tasks.length : Int) - 1)
 case false =>
  have H := Lib.hid (show tf (runsP r t) = false from tf_false (fun hh => by have := hh.2.1; simp [inB] at p1; omega))
  go_enter Try.func91, Try.ntmps91
  go_wp2_with fail
  refine (CR.out _ B0).mono ?_
  rintro e w1 ⟨rfl, b1⟩
  rw [p0]
  replace X := X.below b1
  obtain ⟨X_0, X_1, X_2, X_3, X_4, X_5, X_6, X_7, X_l⟩ := X.g8
  go_wp2_with (go_at_call 30; refine (l01In_any _ _ _ _).mono ?_; rintro e w9 ⟨rfl, rfl⟩; rw [p1])
  go_ret
  exact ⟨ret_bool H.out.symm, bnext B0 b1⟩
 have p2 := inB_iff.1 p1
 obtain ⟨u, rfl⟩ := Int.eq_ofNat_of_zero_le p2.1
 have hu : u < r.tasks.length := by omega
 have huI : ((u : Nat) : Int) < (r.tasks.length : Int) := by omega
 have hu0 : (0 : Int) ≤ ((u : Nat) : Int) := by omega
 obtain ⟨b, o, rfl, hbb, -⟩ := (h2.out w (Below.refl _ _)).tsk hu
 have H := Lib.hid (show tf (runsP r (u : Int)) = (r.tasks[u].state == 3) by
  by_cases h3 : r.tasks[u].state = 3
  ·rw [tf_true (show runsP r (u : Int) from ⟨tf_iff.1 p0, ⟨by omega, by omega⟩, by rw [Int.toNat_natCast, taskAt_get hu]; exact h3⟩)]; simp [h3]
  ·rw [tf_false (fun hh => h3 (by have := hh.2.2; rw [Int.toNat_natCast, taskAt_get hu] at this; exact this))]; simp [h3])
 clear p2
 go_enter Try.func91, Try.ntmps91
 go_wp2_with fail
 refine (CR.out _ B0).mono ?_
 rintro e w1 ⟨rfl, b1⟩
 rw [p0]
 replace X := X.below b1
 obtain ⟨X_0, X_1, X_2, X_3, X_4, X_5, X_6, X_7, X_l⟩ := X.g8
 have B1 := bnext B0 b1
 obtain ⟨b', o', hA', -, d0, -, -, -⟩ := (h2.out w1 B1).tsk hu
 simp only [Option.some.injEq, Addr.mk.injEq, and_true] at hA'
 obtain ⟨rfl, rfl⟩ := hA'
 go_wp2_with (go_at_call 30; refine (l01In_any _ _ _ _).mono ?_; rintro e w9 ⟨rfl, rfl⟩; rw [p1])
 go_ret
 exact ⟨ret_bool H.out.symm, B1⟩
end Go.Proofs.Ytonlnjdempbfoaa
end
section
namespace Go.Proofs.Ytonlnjdempbfoaa
open Go.RowKit
set_option maxRecDepth 100000
set_option maxHeartbeats 2000000
set_option linter.unusedVariables false
set_option linter.unusedSimpArgs false
theorem RunFails_res {b : Nat} {w : World} {u0 u1 u2 u3 u4 u5 u6 u7 : Value} (X : DBox b [u0, u1, u2, u3, u4, u5, u6, u7] w) {v0 v1 v2 v3 : Value} {rest : List Value} :
  (results Try.f76 (v0 :: v1 :: v2 :: v3 :: .pointer (some ⟨b, 0, none⟩) :: rest).toArray).run Try.prog w = .ok (.agg #[u0, u1, u2, u3, u4, u5, u6, u7]) w := by
 have c0 := X.cell 0 _ rfl
 have c1 := X.cell 1 _ rfl
 have c2 := X.cell 2 _ rfl
 have c3 := X.cell 3 _ rfl
 have c4 := X.cell 4 _ rfl
 have c5 := X.cell 5 _ rfl
 have c6 := X.cell 6 _ rfl
 have c7 := X.cell 7 _ rfl
 simp [results, Try.results76, go_sem, c0, c1, c2, c3, c4, c5, c6, c7]
theorem Hw.taskSt' {w : World} {F : List Nat} {b o n c : Nat} {l : List Task} {j : Nat} {y : Task} (h : Hw tskE w F (.slice (some ⟨b, o, none⟩) n c) (l.set j y)) (hj : j < l.length) (st : Int) :
  Hw tskE (w.setCell ⟨b, o + j * 4, none⟩ (.int .i64 st)) F (.slice (some ⟨b, o, none⟩) n c) (l.set j ⟨st, y.need, y.try_, y.until_⟩) := by
 have := h.taskState (j := j) (by rw [List.length_set]; exact hj) st
 rw [List.getElem_set_self, List.set_set] at this
 exact this
theorem specFails_own (r : Run) (s : Sl × Sl) (u : Nat) (w : World) (hl : cntRun r ≤ 2000000) (hR : runsP r u) (h : runD.rd w w.heap.size r s) :
  Calls Try.prog 76 #[runW r s, .int .i64 u] w (OwnPost runD runW (failsR r u) w) := by
 have CP := Lib.hid (fun W (hW : Below w.heap.size w W) => specCopyRun_own r s W hl (runD.rd_more (runD.rd_below h hW) hW.size))
 have CR := Lib.hid (fun W (hW : Below w.heap.size w W) => specRuns_any r s u W hl (runD.rd_more (runD.rd_below h hW) hW.size))
 rw [tf_true hR] at CR
 have ht : u < r.tasks.length := by have := hR.2.1.2; omega
 have hlen : r.tasks.length ≤ 2000000 := Nat.le_trans (cntL_len cntTask _) (by unfold cntRun at hl; omega)
 have htk := Lib.hid (taskAt_get ht)
 obtain ⟨⟨A1, n1, c1⟩, ⟨A2, n2, c2⟩⟩ := s
 obtain rfl : n2 = r.tasks.length := RdL.at1 (s := ⟨A2, n2, c2⟩) h.2
 clear h hl hR
 have htI : (u : Int) < (r.tasks.length : Int) := by omega
 have ht0 : (0 : Int) ≤ (u : Int) := by omega
 have X := (DBox.new 98 [.int .i64 r.id, .int .i64 r.plan.prio, .int .i64 r.plan.most, .int .i64 r.plan.wait, .int .i64 r.plan.tasks, .slice A1 n1 c1, .int .i64 r.state, .slice A2 r.tasks.length c2] w (b := w.heap.size) rfl).below ((Below.refl _ _).alloc (Nat.le_refl _) (.cells #[.int .i64 0, .int .i64 0, .int .i64 0, .int .i64 0, .int .i64 0, .slice none 0 0, .int .i64 0, .slice none 0 0] 98))
 have RES := DBox.new 98 [.int .i64 0, .int .i64 0, .int .i64 0, .int .i64 0, .int .i64 0, .slice none 0 0, .int .i64 0, .slice none 0 0] (w.alloc (.cells #[.int .i64 r.id, .int .i64 r.plan.prio, .int .i64 r.plan.most, .int .i64 r.plan.wait, .int .i64 r.plan.tasks, .slice A1 n1 c1, .int .i64 r.state, .slice A2 r.tasks.length c2] 98)) (b := w.heap.size + 1) (by simp)
 have B0 : Below w.heap.size w ((w.alloc (.cells #[.int .i64 r.id, .int .i64 r.plan.prio, .int .i64 r.plan.most, .int .i64 r.plan.wait, .int .i64 r.plan.tasks, .slice A1 n1 c1, .int .i64 r.state, .slice A2 r.tasks.length c2] 98)).alloc (.cells #[.int .i64 0, .int .i64 0, .int .i64 0, .int .i64 0, .int .i64 0, .slice none 0 0, .int .i64 0, .slice none 0 0] 98)) := by repeat (first | exact Below.refl _ _ | refine Below.alloc ?_ (by simp <;> omega) _)
 go_enter Try.func76, Try.ntmps76
 go_wp2_with fail
 refine (CP.out _ B0).mono ?_
 rintro e w1 ⟨⟨⟨A3, n3, c3⟩, ⟨A4, n4, c4⟩⟩, F, rfl, o1, nF, b1⟩
 obtain ⟨F1, F2, rfl, hnd, op, ot⟩ := o1
 replace ot : OwL taskD w1 F2 (.slice A4 n4 c4) r.tasks := ot
 obtain rfl : n4 = r.tasks.length := RdL.at1 (s := ⟨A4, n4, c4⟩) ot.rd
 have oh := task_hw ot
 clear ot CP
 obtain ⟨b, o, rfl, hbb, d0, d1, d2, d3⟩ := oh.rd.tsk ht
 clear d0 d1 d2 d3
 have hBw := B0.size
 obtain ⟨rfl, hbw, hbf⟩ := oh.block (by omega)
 have hbn := nF b (by simp)
 have hXl := X.lt
 have hRl := RES.lt
 replace B0 := bnext B0 b1
 replace X := X.below b1
 replace RES := RES.below b1
 clear b1
 go_upto_region 2 with fail
 have OB := DBox.new 98 [.int .i64 r.id, .int .i64 r.plan.prio, .int .i64 r.plan.most, .int .i64 r.plan.wait, .int .i64 r.plan.tasks, .slice A3 n3 c3, .int .i64 r.state, .slice (some ⟨b, o, none⟩) r.tasks.length c4] w1 (b := w1.heap.size) rfl
 have b2 : Below w1.heap.size w1 (w1.alloc (.cells #[.int .i64 r.id, .int .i64 r.plan.prio, .int .i64 r.plan.most, .int .i64 r.plan.wait, .int .i64 r.plan.tasks, .slice A3 n3 c3, .int .i64 r.state, .slice (some ⟨b, o, none⟩) r.tasks.length c4] 98)) := (Below.refl _ _).alloc (Nat.le_refl _) _
 have B2 := bnext B0 b2
 replace X := X.below b2
 replace RES := RES.below b2
 replace oh := oh.below b2
 have op2 := planD.ow_below op b2
 have hs2 := b2.size
 have ow1 := OB.lt
 clear op
 generalize w1.alloc (.cells #[.int .i64 r.id, .int .i64 r.plan.prio, .int .i64 r.plan.most, .int .i64 r.plan.wait, .int .i64 r.plan.tasks, .slice A3 n3 c3, .int .i64 r.state, .slice (some ⟨b, o, none⟩) r.tasks.length c4] 98) = w2 at *
 obtain ⟨X_0, X_1, X_2, X_3, X_4, X_5, X_6, X_7, X_l⟩ := X.g8
 go_wp2_with fail
 refine (CR.out _ B2).mono ?_
 rintro e w3 ⟨rfl, b3⟩
 have B3 := bnext B2 b3
 clear X_0 X_1 X_2 X_3 X_4 X_5 X_6 X_7 X_l
 replace X := X.below b3
 replace RES := RES.below b3
 replace OB := OB.below b3
 replace oh := oh.below b3
 have op3 := planD.ow_below op2 b3
 have hs3 := b3.size
 clear op2 CR b3
 obtain ⟨X_0, X_1, X_2, X_3, X_4, X_5, X_6, X_7, X_l⟩ := X.g8
 obtain ⟨OB_0, OB_1, OB_2, OB_3, OB_4, OB_5, OB_6, OB_7, OB_l⟩ := OB.g8
 obtain ⟨b', o', hA', hbb', d0, d1, d2, d3⟩ := oh.rd.tsk ht
 simp only [Option.some.injEq, Addr.mk.injEq, and_true] at hA'
 obtain ⟨rfl, rfl⟩ := hA'
 have hff := (oh.block (by omega)).2.2
 have hbF1 : b ∉ F1 := fun hx => (List.nodup_append.1 hnd).2.2 b hx b (by simp) rfl
 go_upto_region 6 with fail
 have oh4 : Hw tskE ((w3.setCell ⟨b, o + u * 4 + 3, none⟩ (.int .i64 0)).setCell ⟨b, o + u * 4, none⟩ (.int .i64 2)) [b] (.slice (some ⟨b, o, none⟩) r.tasks.length c4) (r.tasks.set u ⟨2, r.tasks[u].need, r.tasks[u].try_, 0⟩) := (oh.taskUntil ht 0).taskSt' ht 2
 have hC : Chg [b] w3 ((w3.setCell ⟨b, o + u * 4 + 3, none⟩ (.int .i64 0)).setCell ⟨b, o + u * 4, none⟩ (.int .i64 2)) := (Chg.setCell w3 b _ _).trans (Chg.setCell _ b _ _)
 have op4 := planD.ow_chg op3 hC (fun x hx h => by simp only [List.mem_singleton] at h; subst h; exact hbF1 hx)
 have B4 : Below w.heap.size w ((w3.setCell ⟨b, o + u * 4 + 3, none⟩ (.int .i64 0)).setCell ⟨b, o + u * 4, none⟩ (.int .i64 2)) := by
  repeat (first | (with_reducible exact B3) | refine Below.setCell ?_ (by simp <;> omega) _)
 clear OB_0 OB_1 OB_2 OB_3 OB_4 OB_5 OB_6 OB_7 OB_l
 clear X_0 X_1 X_2 X_3 X_4 X_5 X_6 X_7 X_l
 clear d0 d1 d2 d3 hbb' hff
 replace OB := OB.chg hC (by simp only [List.mem_singleton]; omega)
 replace X := X.chg hC (by simp only [List.mem_singleton]; omega)
 replace RES := RES.chg hC (by simp only [List.mem_singleton]; omega)
 have hs4 := hC.size
 clear hC oh op3
 generalize ((w3.setCell ⟨b, o + u * 4 + 3, none⟩ (.int .i64 0)).setCell ⟨b, o + u * 4, none⟩ (.int .i64 2)) = w4 at *
 obtain ⟨OB_0, OB_1, OB_2, OB_3, OB_4, OB_5, OB_6, OB_7, OB_l⟩ := OB.g8
 obtain ⟨RES_0, RES_1, RES_2, RES_3, RES_4, RES_5, RES_6, RES_7, RES_l⟩ := RES.g8
 obtain ⟨X_0, X_1, X_2, X_3, X_4, X_5, X_6, X_7, X_l⟩ := X.g8
 have rf := RES.free
 have hu2 : u < (r.tasks.set u ⟨2, r.tasks[u].need, r.tasks[u].try_, 0⟩).length := by rw [List.length_set]; exact ht
 obtain ⟨b', o', hA', hbb', d0, d1, d2, d3⟩ := oh4.rd.tsk hu2
 simp only [Option.some.injEq, Addr.mk.injEq, and_true] at hA'
 obtain ⟨rfl, rfl⟩ := hA'
 rw [List.getElem_set_self] at d0 d1 d2 d3
 have hff := (oh4.block (by omega)).2.2
 by_cases q : r.tasks[u].try_ < r.plan.most
 ·have H := Lib.hid (show failsR r u = ⟨r.id, r.plan, r.state, r.tasks.set u ⟨2, r.tasks[u].need, r.tasks[u].try_, 0⟩⟩ by unfold failsR; rw [if_pos (by rw [htk.out]; exact q), modT_eq ht])
  have hlc := later_cell w4
  have hb4 : b < w4.heap.size := by omega
  refine wp_region_pure (by kernel_rfl) (by kernel_rfl) ?_
  repeat (go_big_quiet_step (fail))
  refine wpQuiet_nil ?_
  rintro w5 ⟨⟨_, b5⟩, rfl⟩
  clear hlc d0 d1 d2 d3 hbb' hff
  clear OB_0 OB_1 OB_2 OB_3 OB_4 OB_5 OB_6 OB_7 OB_l
  clear RES_0 RES_1 RES_2 RES_3 RES_4 RES_5 RES_6 RES_7 RES_l
  clear X_0 X_1 X_2 X_3 X_4 X_5 X_6 X_7 X_l
  replace OB := OB.below b5
  replace RES := RES.below b5
  clear X
  have oh5 := oh4.below b5
  have op5 := planD.ow_below op4 b5
  have B5 := bnext B4 b5
  have hs5 := b5.size
  clear rf
  obtain ⟨OB_0, OB_1, OB_2, OB_3, OB_4, OB_5, OB_6, OB_7, OB_l⟩ := OB.g8
  obtain ⟨RES_0, RES_1, RES_2, RES_3, RES_4, RES_5, RES_6, RES_7, RES_l⟩ := RES.g8
  have rf := RES.free
  go_wp2
  refine bodyPost_ret (RunFails_res (DBox.row8 RES rfl _ _ _ _ _ _ _ _)) rfl ⟨(⟨A3, n3, c3⟩, ⟨some ⟨b, o, none⟩, r.tasks.length, c4⟩), F1 ++ [b], by rw [H.out], ⟨F1, [b], rfl, hnd, ?_, ?_⟩, ?_, ?_⟩
  ·have e2 : w.heap.size + 1 ∉ F1 := fun hx => by have := nF _ (List.mem_append_left _ hx); omega
   rw [H.out]
   show planD.ow _ F1 r.plan _
   exact (by (repeat (refine Dt.ow_set planD ?_ e2 _)); exact op5)
  ·have e1 : w.heap.size + 1 ∉ [b] := by simp only [List.mem_singleton]; omega
   rw [H.out]
   show OwL taskD _ [b] _ (r.tasks.set u ⟨2, r.tasks[u].need, r.tasks[u].try_, 0⟩)
   exact task_owl ((((((((oh5.set (a := ⟨w.heap.size + 1, _, none⟩) e1 _).set (a := ⟨w.heap.size + 1, _, none⟩) e1 _).set (a := ⟨w.heap.size + 1, _, none⟩) e1 _).set (a := ⟨w.heap.size + 1, _, none⟩) e1 _).set (a := ⟨w.heap.size + 1, _, none⟩) e1 _).set (a := ⟨w.heap.size + 1, _, none⟩) e1 _).set (a := ⟨w.heap.size + 1, _, none⟩) e1 _).set (a := ⟨w.heap.size + 1, _, none⟩) e1 _)
  ·intro x hx
   have := nF x hx
   omega
  ·repeat (first | (with_reducible exact B5) | refine Below.setCell ?_ (by simp <;> omega) _)
 ·have H := Lib.hid (show failsR r u = leaveR ⟨r.id, r.plan, r.state, r.tasks.set u ⟨5, r.tasks[u].need, r.tasks[u].try_, 0⟩⟩ 3 by unfold failsR; rw [if_neg (by rw [htk.out]; exact q), modT_eq ht])
  have hlc := later_cell w4
  have hb4 : b < w4.heap.size := by omega
  refine wp_region_pure (by kernel_rfl) (by kernel_rfl) ?_
  repeat (go_big_quiet_step (fail))
  refine wpQuiet_nil ?_
  rintro w5 ⟨⟨_, b5⟩, rfl⟩
  clear hlc d0 d1 d2 d3 hbb' hff
  clear OB_0 OB_1 OB_2 OB_3 OB_4 OB_5 OB_6 OB_7 OB_l
  clear RES_0 RES_1 RES_2 RES_3 RES_4 RES_5 RES_6 RES_7 RES_l
  clear X_0 X_1 X_2 X_3 X_4 X_5 X_6 X_7 X_l
  replace OB := OB.below b5
  replace RES := RES.below b5
  clear X
  have oh5 := oh4.below b5
  have op5 := planD.ow_below op4 b5
  have B5 := bnext B4 b5
  have hs5 := b5.size
  clear rf
  obtain ⟨OB_0, OB_1, OB_2, OB_3, OB_4, OB_5, OB_6, OB_7, OB_l⟩ := OB.g8
  obtain ⟨b', o', hA', hbb', d0, d1, d2, d3⟩ := oh5.rd.tsk hu2
  simp only [Option.some.injEq, Addr.mk.injEq, and_true] at hA'
  obtain ⟨rfl, rfl⟩ := hA'
  have hff := (oh5.block (by omega)).2.2
  go_upto_region 9 with fail
  have oh6 := oh5.taskSt' ht 5
  have hC := Chg.setCell w5 b (o + u * 4) (.int .i64 5)
  have op6 := planD.ow_chg op5 hC (fun x hx h => by simp only [List.mem_singleton] at h; subst h; exact hbF1 hx)
  have B6 : Below w.heap.size w (w5.setCell ⟨b, o + u * 4, none⟩ (.int .i64 5)) := by
   repeat (first | (with_reducible exact B5) | refine Below.setCell ?_ (by simp <;> omega) _)
  clear OB_0 OB_1 OB_2 OB_3 OB_4 OB_5 OB_6 OB_7 OB_l
  clear d0 d1 d2 d3 hbb' hff
  replace OB := OB.chg hC (by simp only [List.mem_singleton]; omega)
  replace RES := RES.chg hC (by simp only [List.mem_singleton]; omega)
  have hs6 := hC.size
  generalize w5.setCell ⟨b, o + u * 4, none⟩ (.int .i64 5) = w6 at *
  obtain ⟨OB_0, OB_1, OB_2, OB_3, OB_4, OB_5, OB_6, OB_7, OB_l⟩ := OB.g8
  have hlen6 := Lib.hid (show (r.tasks.set u ⟨5, r.tasks[u].need, r.tasks[u].try_, 0⟩).length = r.tasks.length from List.length_set)
  have CL := Lib.hid (specLeave_own ⟨r.id, r.plan, r.state, r.tasks.set u ⟨5, r.tasks[u].need, r.tasks[u].try_, 0⟩⟩ ⟨A3, n3, c3⟩ 3 b o c4 [b] w6 (by show (r.tasks.set u _).length ≤ 2000000; rw [List.length_set]; omega) (by show 0 < (r.tasks.set u _).length; rw [List.length_set]; omega) (by show Hw tskE w6 [b] (.slice _ (r.tasks.set u _).length c4) _; rw [List.length_set]; exact oh6))
  unfold LeavePost at CL
  dsimp only at CL
  rw [hlen6.out] at CL
  go_wp2_with fail
  refine CL.out.mono ?_
  rintro e w7 ⟨rfl, oh7, c7⟩
  have op7 := planD.ow_chg op6 c7 (fun x hx h => by simp only [List.mem_singleton] at h; subst h; exact hbF1 hx)
  have B7 : Below w.heap.size w w7 := B6.trans (c7.below (by omega) (fun x hx => by simp only [List.mem_singleton] at hx; omega))
  clear OB_0 OB_1 OB_2 OB_3 OB_4 OB_5 OB_6 OB_7 OB_l
  replace RES := RES.chg c7 (by simp only [List.mem_singleton]; omega)
  obtain ⟨RES_0, RES_1, RES_2, RES_3, RES_4, RES_5, RES_6, RES_7, RES_l⟩ := RES.g8
  have rf := RES.free
  go_wp2
  refine bodyPost_ret (RunFails_res (DBox.row8 RES rfl _ _ _ _ _ _ _ _)) rfl ⟨(⟨A3, n3, c3⟩, ⟨some ⟨b, o, none⟩, r.tasks.length, c4⟩), F1 ++ [b], by rw [H.out], ⟨F1, [b], rfl, hnd, ?_, ?_⟩, ?_, ?_⟩
  ·have e2 : w.heap.size + 1 ∉ F1 := fun hx => by have := nF _ (List.mem_append_left _ hx); omega
   rw [H.out]
   show planD.ow _ F1 r.plan _
   exact (by (repeat (refine Dt.ow_set planD ?_ e2 _)); exact op7)
  ·have e1 : w.heap.size + 1 ∉ [b] := by simp only [List.mem_singleton]; omega
   rw [H.out]
   show OwL taskD _ [b] _ ((leaveR ⟨r.id, r.plan, r.state, r.tasks.set u ⟨5, r.tasks[u].need, r.tasks[u].try_, 0⟩⟩ 3).tasks)
   exact task_owl ((((((((oh7.set (a := ⟨w.heap.size + 1, _, none⟩) e1 _).set (a := ⟨w.heap.size + 1, _, none⟩) e1 _).set (a := ⟨w.heap.size + 1, _, none⟩) e1 _).set (a := ⟨w.heap.size + 1, _, none⟩) e1 _).set (a := ⟨w.heap.size + 1, _, none⟩) e1 _).set (a := ⟨w.heap.size + 1, _, none⟩) e1 _).set (a := ⟨w.heap.size + 1, _, none⟩) e1 _).set (a := ⟨w.heap.size + 1, _, none⟩) e1 _)
  ·intro x hx
   have := nF x hx
   omega
  ·repeat (first | (with_reducible exact B7) | refine Below.setCell ?_ (by simp <;> omega) _)
end Go.Proofs.Ytonlnjdempbfoaa
end
