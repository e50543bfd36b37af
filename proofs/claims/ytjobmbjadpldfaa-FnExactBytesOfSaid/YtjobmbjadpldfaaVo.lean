/-
  NotesText and BytesOf of both.
-/
import Derived.Test.YtjobmbjadpldfaaVn
namespace Go.Proofs.Ytjobmbjadpldfaa
open Go.RowKit
set_option maxRecDepth 100000
set_option maxHeartbeats 2000000
set_option linter.unusedVariables false
set_option linter.unusedSimpArgs false

theorem specNoteText_any (x : Note) (s : Sl) (w : World) (h : noteD.rd w w.heap.size x s) :
    Calls Try.prog 35 #[noteW x s] w (StrPost (noteText x) w) := by
  by_cases a0 : deedOk x.deed = true
  case pos =>
    by_cases a1 : inB x.seq 1 1000000000 = true
    case pos =>
      have hk : inB x.deed.kind 1 8 = true := by
        cases q : inB x.deed.kind 1 8
        · have : deedOk x.deed = false := by simp [deedOk, q]
          rw [this] at a0; cases a0
        · rfl
      have : x.deed.kind = 1 ∨ x.deed.kind = 2 ∨ x.deed.kind = 3 ∨ x.deed.kind = 4 ∨ x.deed.kind = 5 ∨ x.deed.kind = 6 ∨ x.deed.kind = 7 ∨ x.deed.kind = 8 := by
        simp [inB] at hk
        omega
      rcases this with e | e | e | e | e | e | e | e
      · exact specNote1 x s w e a0 a1 h
      · exact specNote2 x s w e a0 a1 h
      · exact specNote3 x s w e a0 a1 h
      · exact specNote4 x s w e a0 a1 h
      · exact specNote5 x s w e a0 a1 h
      · exact specNote6 x s w e a0 a1 h
      · exact specNote7 x s w e a0 a1 h
      · exact specNote8 x s w e a0 a1 h
    have a1 : inB x.seq 1 1000000000 = false := by simpa using a1
    have H := Lib.hid (show noteText x = [] by unfold noteText; rw [if_neg (by simp [a1])])
    have HR : Hid (∀ W, Below w.heap.size w W → deedD.rd W W.heap.size x.deed s) := fun W hW => noteD.rd_more (noteD.rd_below h hW) hW.size
    have CD := Lib.hid (fun W hW => specDeedOk_any x.deed s W (HR.out W hW))
    rw [a0] at CD
    clear HR h
    obtain ⟨A, n, c⟩ := s
    have X := (DBox.new 76 [.int .i64 x.seq, .int .i64 x.deed.kind, .int .i64 x.deed.run, .int .i64 x.deed.plan.prio, .int .i64 x.deed.plan.most, .int .i64 x.deed.plan.wait, .int .i64 x.deed.plan.tasks, .slice A n c, .int .i64 x.deed.task, .int .i64 x.deed.try_, .int .i64 x.deed.worker, .int .i64 x.deed.draw] w (b := w.heap.size) rfl).below ((Below.refl _ _).alloc (Nat.le_refl _) (.cells #[.int .i64 x.deed.kind, .int .i64 x.deed.run, .int .i64 x.deed.plan.prio, .int .i64 x.deed.plan.most, .int .i64 x.deed.plan.wait, .int .i64 x.deed.plan.tasks, .slice A n c, .int .i64 x.deed.task, .int .i64 x.deed.try_, .int .i64 x.deed.worker, .int .i64 x.deed.draw] 74))
    have Y := DBox.new 74 [.int .i64 x.deed.kind, .int .i64 x.deed.run, .int .i64 x.deed.plan.prio, .int .i64 x.deed.plan.most, .int .i64 x.deed.plan.wait, .int .i64 x.deed.plan.tasks, .slice A n c, .int .i64 x.deed.task, .int .i64 x.deed.try_, .int .i64 x.deed.worker, .int .i64 x.deed.draw] (w.alloc (.cells #[.int .i64 x.seq, .int .i64 x.deed.kind, .int .i64 x.deed.run, .int .i64 x.deed.plan.prio, .int .i64 x.deed.plan.most, .int .i64 x.deed.plan.wait, .int .i64 x.deed.plan.tasks, .slice A n c, .int .i64 x.deed.task, .int .i64 x.deed.try_, .int .i64 x.deed.worker, .int .i64 x.deed.draw] 76)) (b := w.heap.size + 1) (by simp)
    have B0 : Below w.heap.size w ((w.alloc (.cells #[.int .i64 x.seq, .int .i64 x.deed.kind, .int .i64 x.deed.run, .int .i64 x.deed.plan.prio, .int .i64 x.deed.plan.most, .int .i64 x.deed.plan.wait, .int .i64 x.deed.plan.tasks, .slice A n c, .int .i64 x.deed.task, .int .i64 x.deed.try_, .int .i64 x.deed.worker, .int .i64 x.deed.draw] 76)).alloc (.cells #[.int .i64 x.deed.kind, .int .i64 x.deed.run, .int .i64 x.deed.plan.prio, .int .i64 x.deed.plan.most, .int .i64 x.deed.plan.wait, .int .i64 x.deed.plan.tasks, .slice A n c, .int .i64 x.deed.task, .int .i64 x.deed.try_, .int .i64 x.deed.worker, .int .i64 x.deed.draw] 74)) := by repeat (first | exact Below.refl _ _ | refine Below.alloc ?_ (by simp <;> omega) _)
    go_enter Try.func35, Try.ntmps35
    go_wp2_with fail
    refine (CD.out _ B0).mono ?_
    rintro e w1 ⟨rfl, b1⟩
    replace B0 := bnext B0 b1
    replace X := X.below b1
    have X_0 := X.cell 0 _ rfl
    have X_1 := X.cell 1 _ rfl
    have X_2 := X.cell 2 _ rfl
    have X_3 := X.cell 3 _ rfl
    have X_4 := X.cell 4 _ rfl
    have X_5 := X.cell 5 _ rfl
    have X_6 := X.cell 6 _ rfl
    have X_7 := X.cell 7 _ rfl
    have X_8 := X.cell 8 _ rfl
    have X_9 := X.cell 9 _ rfl
    have X_10 := X.cell 10 _ rfl
    have X_11 := X.cell 11 _ rfl
    have X_l := X.lt
    clear b1 CD
    go_wp2_with (go_at_call 56; refine (l01In_any _ _ _ _).mono ?_; rintro e w9 ⟨rfl, rfl⟩; rw [a1])
    go_ret
    exact ⟨by rw [H.out]; rfl, B0⟩
  have a0 : deedOk x.deed = false := by simpa using a0
  have H := Lib.hid (show noteText x = [] by unfold noteText; rw [if_neg (by simp [a0])])
  have HR : Hid (∀ W, Below w.heap.size w W → deedD.rd W W.heap.size x.deed s) := fun W hW => noteD.rd_more (noteD.rd_below h hW) hW.size
  have CD := Lib.hid (fun W hW => specDeedOk_any x.deed s W (HR.out W hW))
  rw [a0] at CD
  clear HR h
  obtain ⟨A, n, c⟩ := s
  have X := (DBox.new 76 [.int .i64 x.seq, .int .i64 x.deed.kind, .int .i64 x.deed.run, .int .i64 x.deed.plan.prio, .int .i64 x.deed.plan.most, .int .i64 x.deed.plan.wait, .int .i64 x.deed.plan.tasks, .slice A n c, .int .i64 x.deed.task, .int .i64 x.deed.try_, .int .i64 x.deed.worker, .int .i64 x.deed.draw] w (b := w.heap.size) rfl).below ((Below.refl _ _).alloc (Nat.le_refl _) (.cells #[.int .i64 x.deed.kind, .int .i64 x.deed.run, .int .i64 x.deed.plan.prio, .int .i64 x.deed.plan.most, .int .i64 x.deed.plan.wait, .int .i64 x.deed.plan.tasks, .slice A n c, .int .i64 x.deed.task, .int .i64 x.deed.try_, .int .i64 x.deed.worker, .int .i64 x.deed.draw] 74))
  have Y := DBox.new 74 [.int .i64 x.deed.kind, .int .i64 x.deed.run, .int .i64 x.deed.plan.prio, .int .i64 x.deed.plan.most, .int .i64 x.deed.plan.wait, .int .i64 x.deed.plan.tasks, .slice A n c, .int .i64 x.deed.task, .int .i64 x.deed.try_, .int .i64 x.deed.worker, .int .i64 x.deed.draw] (w.alloc (.cells #[.int .i64 x.seq, .int .i64 x.deed.kind, .int .i64 x.deed.run, .int .i64 x.deed.plan.prio, .int .i64 x.deed.plan.most, .int .i64 x.deed.plan.wait, .int .i64 x.deed.plan.tasks, .slice A n c, .int .i64 x.deed.task, .int .i64 x.deed.try_, .int .i64 x.deed.worker, .int .i64 x.deed.draw] 76)) (b := w.heap.size + 1) (by simp)
  have B0 : Below w.heap.size w ((w.alloc (.cells #[.int .i64 x.seq, .int .i64 x.deed.kind, .int .i64 x.deed.run, .int .i64 x.deed.plan.prio, .int .i64 x.deed.plan.most, .int .i64 x.deed.plan.wait, .int .i64 x.deed.plan.tasks, .slice A n c, .int .i64 x.deed.task, .int .i64 x.deed.try_, .int .i64 x.deed.worker, .int .i64 x.deed.draw] 76)).alloc (.cells #[.int .i64 x.deed.kind, .int .i64 x.deed.run, .int .i64 x.deed.plan.prio, .int .i64 x.deed.plan.most, .int .i64 x.deed.plan.wait, .int .i64 x.deed.plan.tasks, .slice A n c, .int .i64 x.deed.task, .int .i64 x.deed.try_, .int .i64 x.deed.worker, .int .i64 x.deed.draw] 74)) := by repeat (first | exact Below.refl _ _ | refine Below.alloc ?_ (by simp <;> omega) _)
  go_enter Try.func35, Try.ntmps35
  go_wp2_with fail
  refine (CD.out _ B0).mono ?_
  rintro e w1 ⟨rfl, b1⟩
  replace B0 := bnext B0 b1
  clear b1 CD X Y
  go_wp2
  go_ret
  exact ⟨by rw [H.out]; rfl, B0⟩

def notesText (l : List Note) : List UInt8 := if l.length ≤ 400 then framesOf (l.map noteText) else []
theorem framesA_none : ∀ (l : List (List UInt8)) (acc : List UInt8), [] ∈ l → framesA acc l = [] := by
  intro l
  induction l with
  | nil => intro _ h; cases h
  | cons b bs ih =>
    intro acc h
    unfold framesA
    split
    · rfl
    · rename_i hn
      rcases List.mem_cons.1 h with e | h
      · exact absurd (Or.inl (by rw [← e]; rfl)) hn
      · exact ih _ h
theorem notes_none {l : List Note} {k : Nat} (hk : k < l.length) (h : noteText l[k] = []) : notesText l = [] := by
  unfold notesText
  split
  · exact framesA_none _ _ (by rw [← h]; exact List.mem_map_of_mem (List.getElem_mem hk))
  · rfl
theorem map_take {α β : Type} (f : α → β) (l : List α) (k : Nat) (h : k < l.length) : (l.take (k + 1)).map f = (l.take k).map f ++ [f l[k]] := by
  rw [List.take_succ_eq_append_getElem h, List.map_append]
  rfl
theorem texts_len {l : List Note} (k : Nat) (hk : k < (l.map noteText).length) : (l.map noteText)[k].length ≤ 2000000 := by
  rw [List.getElem_map]
  exact Nat.le_trans (noteText_len _) (by decide)

theorem implNotesText_any (l : List Note) (s : Sl) (w : World) (hc : cntL cntNote l ≤ 2000000) (h : RdL noteD w w.heap.size s.v l) :
    Calls Try.prog 21 #[.slice s.a s.n s.c] w (StrPost (notesText l) w) := by
  obtain ⟨i0, hi0, hz0, hz1, hz2⟩ := info_parts str_info
  obtain ⟨A, n, c⟩ := s
  obtain rfl : n = l.length := RdL.at1 (s := ⟨A, n, c⟩) h
  by_cases h4 : l.length ≤ 400
  case neg =>
    have hI : (400 : Int) < (l.length : Int) := by omega
    have H := Lib.hid (show notesText l = [] from if_neg h4)
    clear h h4
    go_enter Try.func21, Try.ntmps21
    go_wp2
    go_ret
    exact ⟨by rw [H.out]; rfl, Below.refl _ _⟩
  have hI : ¬ (400 : Int) < (l.length : Int) := by omega
  have HE := Lib.hid (show notesText l = framesOf (l.map noteText) from if_pos h4)
  go_enter Try.func21, Try.ntmps21
  go_wp2
  go_loopw [3, 11] (fun vl i wr => ∃ (k : Nat) (v : Value), v = vl ∧ k ≤ l.length ∧ i = .int .i64 k ∧ Hid (Ow strE 9 wr w.heap.size v ((l.take k).map noteText)) ∧ Below w.heap.size w wr) (fun _ i _ => l.length - (intOf i).toNat)
  case atStart => exact ⟨0, _, rfl, Nat.zero_le _, rfl, Ow.nil _ _ _ _, Below.refl _ _⟩
  case round =>
    obtain ⟨k, v, rfl, hk, rfl, hO, hb⟩ := hrel
    by_cases hlt : k < l.length
    · have hltI : (k : Int) < (l.length : Int) := by omega
      obtain ⟨b, o, s, rfl, hbb, hr, c0, c1, c2, c3, c4, c5, c6, c7, c8, c9, c10, c11⟩ := (h.below hb).note hlt
      have hs := hb.size
      have m1 : cntNote l[k] ≤ 2000000 := by have := cntL_mem (cnt := cntNote) (List.getElem_mem hlt); omega
      have hx := Lib.hid (fun W (hW : Below wr.heap.size wr W) => implNoteText_any l[k] s W m1 (noteD.rd_more (noteD.rd_below (noteD.rd_more hr hs) hW) hW.size))
      have HT := Lib.hid (map_take noteText l k hlt)
      have hlen : ((l.take k).map noteText).length ≤ 400 := by simp; omega
      generalize (l.take k).map noteText = L at *
      generalize noteText l[k] = tx at *
      have hbw : b < wr.heap.size := by omega
      go_wp2_with fail
      have b1 : Below wr.heap.size wr (wr.alloc (.cells #[.int .i64 l[k].seq, .int .i64 l[k].deed.kind, .int .i64 l[k].deed.run, .int .i64 l[k].deed.plan.prio, .int .i64 l[k].deed.plan.most, .int .i64 l[k].deed.plan.wait, .int .i64 l[k].deed.plan.tasks, .slice s.a s.n s.c, .int .i64 l[k].deed.task, .int .i64 l[k].deed.try_, .int .i64 l[k].deed.worker, .int .i64 l[k].deed.draw] 76)) := (Below.refl _ _).alloc (Nat.le_refl _) _
      refine (hx.out _ b1).mono ?_
      rintro e w1 ⟨rfl, b2⟩
      have b3 := bnext b1 b2
      have B3 := bnext hb b3
      have HO := Lib.hid (hO.out.below b3)
      clear b1 b2 hx c0 c1 c2 c3 c4 c5 c6 c7 c8 c9 c10 c11 hr
      go_wp2_with (at_builtin; refine wpList_push_all _ strE (by decide) rfl (.tmp 15) (.tmp 18) rfl Try.underlying89 hi0 hz0 hz1 hz2 rfl (base := w.heap.size) (v := v) (l := L) rfl (HO.out.below ((Below.refl _ _).alloc (Nat.le_refl _) _)) rfl (Rd.one strE _ _ tx (by simp) rfl 1 (Nat.le_refl _) (Nat.lt_succ_self _)) (by omega) (by simp) (by decide) (by simp; have := B3.size; omega) ?_; intro v5 w5 o5 g5 _)
      have W5 : Below w.heap.size w w5 := Below.grown (B3.alloc B3.size _) g5 (by simp; have := B3.size; omega) (fun g hg => (HO.out.within g hg).1)
      exact ⟨⟨k + 1, _, rfl, by omega, by go_num, by rw [HT.out]; exact o5, W5⟩, by simp [intOf]; omega⟩
    · have hltI : ¬ (k : Int) < (l.length : Int) := by omega
      have HO := hO.out
      rw [List.take_of_length_le (by omega)] at HO
      clear hO
      go_wp2_with fail
      refine (implFramesOf_any _ _ wr (by simp; omega) texts_len (Rd.of_own HO)).mono ?_
      rintro e w1 ⟨rfl, b1⟩
      rw [← HE.out]
      generalize notesText l = N at *
      go_wp2
      go_ret
      exact ⟨rfl, bnext hb b1⟩

theorem specNotesText_any (l : List Note) (s : Sl) (w : World) (hc : cntL cntNote l ≤ 2000000) (h : RdL noteD w w.heap.size s.v l) :
    Calls Try.prog 19 #[.slice s.a s.n s.c] w (StrPost (notesText l) w) := by
  obtain ⟨i0, hi0, hz0, hz1, hz2⟩ := info_parts str_info
  obtain ⟨A, n, c⟩ := s
  obtain rfl : n = l.length := RdL.at1 (s := ⟨A, n, c⟩) h
  by_cases h4 : l.length ≤ 400
  case neg =>
    have hI : (400 : Int) < (l.length : Int) := by omega
    have H := Lib.hid (show notesText l = [] from if_neg h4)
    clear h h4
    go_enter Try.func19, Try.ntmps19
    go_wp2
    go_ret
    exact ⟨by rw [H.out]; rfl, Below.refl _ _⟩
  have hI : ¬ (400 : Int) < (l.length : Int) := by omega
  have HE := Lib.hid (show notesText l = framesOf (l.map noteText) from if_pos h4)
  go_enter Try.func19, Try.ntmps19
  go_wp2
  go_loopw [3, 4] (fun vl i wr => ∃ (k : Nat) (v : Value), v = vl ∧ k ≤ l.length ∧ i = .int .i64 k ∧ Hid (Ow strE 9 wr w.heap.size v ((l.take k).map noteText)) ∧ Below w.heap.size w wr) (fun _ i _ => l.length - (intOf i).toNat)
  case atStart => exact ⟨0, _, rfl, Nat.zero_le _, rfl, Ow.empty strE 9 w (g := w.heap.size) (by simp), (Below.refl _ _).alloc (Nat.le_refl _) _⟩
  case round =>
    obtain ⟨k, v, rfl, hk, rfl, hO, hb⟩ := hrel
    by_cases hlt : k < l.length
    · have hltI : (k : Int) < (l.length : Int) := by omega
      obtain ⟨b, o, s, rfl, hbb, hr, c0, c1, c2, c3, c4, c5, c6, c7, c8, c9, c10, c11⟩ := (h.below hb).note hlt
      have hs := hb.size
      have hx := Lib.hid (specNoteText_any l[k] s wr (noteD.rd_more hr hs))
      have HT := Lib.hid (map_take noteText l k hlt)
      have HN := Lib.hid (notes_none hlt)
      have hlen : ((l.take k).map noteText).length ≤ 400 := by simp; omega
      generalize (l.take k).map noteText = L at *
      generalize noteText l[k] = tx at *
      have hbw : b < wr.heap.size := by omega
      cases tx with
      | nil =>
        have H := Lib.hid (HN.out rfl)
        clear HN
        go_wp2_with fail
        refine hx.out.mono ?_
        rintro e w1 ⟨rfl, b2⟩
        clear hx c0 c1 c2 c3 c4 c5 c6 c7 c8 c9 c10 c11 hr HE HT
        go_wp2
        go_ret
        exact ⟨by rw [H.out]; rfl, bnext hb b2⟩
      | cons t0 tr =>
        have hem : (t0 :: tr).isEmpty = false := rfl
        clear HN
        generalize t0 :: tr = tx at *
        go_wp2_with fail
        refine hx.out.mono ?_
        rintro e w1 ⟨rfl, b2⟩
        have B3 := bnext hb b2
        have HO := Lib.hid (hO.out.below b2)
        clear hx c0 c1 c2 c3 c4 c5 c6 c7 c8 c9 c10 c11 hr
        go_wp2_with (at_builtin; refine wpList_push_all _ strE (by decide) rfl (.tmp 23) (.tmp 25) rfl Try.underlying89 hi0 hz0 hz1 hz2 rfl (base := w.heap.size) (v := v) (l := L) rfl (HO.out.below ((Below.refl _ _).alloc (Nat.le_refl _) _)) rfl (Rd.one strE _ _ tx (by simp) rfl 1 (Nat.le_refl _) (Nat.lt_succ_self _)) (by omega) (by simp) (by decide) (by simp; have := B3.size; omega) ?_; intro v5 w5 o5 g5 _)
        have W5 : Below w.heap.size w w5 := Below.grown (B3.alloc B3.size _) g5 (by simp; have := B3.size; omega) (fun g hg => (HO.out.within g hg).1)
        exact ⟨⟨k + 1, _, rfl, by omega, by go_num, by rw [HT.out]; exact o5, W5⟩, by simp [intOf]; omega⟩
    · have hltI : ¬ (k : Int) < (l.length : Int) := by omega
      have HO := hO.out
      rw [List.take_of_length_le (by omega)] at HO
      clear hO
      go_wp2_with fail
      refine (specFramesOf_any _ _ wr (by simp; omega) texts_len (Rd.of_own HO)).mono ?_
      rintro e w1 ⟨rfl, b1⟩
      rw [← HE.out]
      generalize notesText l = N at *
      go_wp2
      go_ret
      exact ⟨rfl, bnext hb b1⟩

def bytesOf (l : List Note) : Int := (notesText l).length
theorem implBytesOf_any (l : List Note) (s : Sl) (w : World) (hc : cntL cntNote l ≤ 2000000) (h : RdL noteD w w.heap.size s.v l) :
    Calls Try.prog 8 #[.slice s.a s.n s.c] w fun e w' => e = .returned (.int .i64 (bytesOf l)) ∧ Below w.heap.size w w' := by
  have C := implNotesText_any l s w hc h
  unfold bytesOf
  generalize notesText l = N at *
  clear h
  go_enter Try.func8, Try.ntmps8
  go_wp2_with (go_at_call 21; refine C.mono ?_; rintro e w1 ⟨rfl, b1⟩)
  go_ret
  exact ⟨rfl, b1⟩
theorem specBytesOf_any (l : List Note) (s : Sl) (w : World) (hc : cntL cntNote l ≤ 2000000) (h : RdL noteD w w.heap.size s.v l) :
    Calls Try.prog 6 #[.slice s.a s.n s.c] w fun e w' => e = .returned (.int .i64 (bytesOf l)) ∧ Below w.heap.size w w' := by
  have C := specNotesText_any l s w hc h
  unfold bytesOf
  generalize notesText l = N at *
  clear h
  go_enter Try.func6, Try.ntmps6
  go_wp2_with (go_at_call 19; refine C.mono ?_; rintro e w1 ⟨rfl, b1⟩)
  go_ret
  exact ⟨rfl, b1⟩
end Go.Proofs.Ytjobmbjadpldfaa
