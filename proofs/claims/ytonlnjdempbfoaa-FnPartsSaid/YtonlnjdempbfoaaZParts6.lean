/-
  Shelves of the reference: ShelfOf, PutEntry, TakeEntry, HalfOf, Merged. Written by program (kb.py). DeedOk of the reference at every deed; the numbers of a deed. Since of the program and of the reference. Written by program (si.py). Yards that are right: the reference's walk, whole.
-/
import Derived.Test.YtonlnjdempbfoaaZParts5
section
namespace Go.Proofs.Ytonlnjdempbfoaa
open Go.RowKit
set_option maxRecDepth 100000
set_option maxHeartbeats 2000000
set_option linter.unusedVariables false
set_option linter.unusedSimpArgs false
theorem isE_of' {l : List UInt8} (h : l.length ≠ 0) : l.isEmpty = false := by cases l with
 | nil => exact absurd rfl h
 | cons a l => rfl
theorem rem4 (n : Int) (h : 0 ≤ n) : n.tmod 4 = n % 4 := Int.tmod_eq_emod_of_nonneg h
theorem wrap4 (n : Int) (h : 0 ≤ n) : IntKind.i64.wrap (n % 4) = n % 4 := IntWalk.i64_in _ (by have := Int.emod_nonneg n (show (4 : Int) ≠ 0 by decide); have := Int.emod_lt_of_pos n (show (0 : Int) < 4 by decide); omega)
theorem specShelfOf_any (id : Int) (w : World) :
  Calls Try.prog 87 #[.int .i64 id] w fun e w' => e = .returned (.int .i64 (shelfNo id)) ∧ Below w.heap.size w w' := by
 have hvl := varText_len id
 have hb1 := sumOf_bd (varText id)
 have C := Lib.hid (specVarText_any id w)
 by_cases h0 : (varText id).length = 0
 ·have H := Lib.hid (show (shelfNo id : Int) = 0 by unfold shelfNo; rw [if_pos h0]; rfl)
  have hE : varText id = [] := List.eq_nil_of_length_eq_zero h0
  rw [hE] at C
  clear hb1 h0
  go_enter Try.func87, Try.ntmps87
  go_wp2_with (go_at_call 97; refine C.out.mono ?_; rintro e w1 ⟨rfl, b1⟩)
  go_ret
  exact ⟨by rw [H.out]; rfl, b1⟩
 ·have H := Lib.hid (show (shelfNo id : Int) = sumOf (varText id) % 4 by
   unfold shelfNo; rw [if_neg h0]; exact Int.toNat_of_nonneg (Int.emod_nonneg _ (by decide)))
  have hem := isE_of' h0
  have CS := Lib.hid (fun W => specSumOf_any (varText id) W (by omega))
  have r4 := rem4 _ hb1.1
  have w4 := wrap4 _ hb1.1
  generalize sumOf (varText id) = sm at *
  generalize varText id = L at *
  go_enter Try.func87, Try.ntmps87
  go_wp2_with (first | (go_at_call 97; refine C.out.mono ?_; rintro e w1 ⟨rfl, b1⟩) | (go_at_call 98; refine (CS.out _).mono ?_; rintro e w2 ⟨rfl, b2⟩))
  go_ret
  exact ⟨by rw [H.out]; rfl, bnext b1 b2⟩
theorem Rd.fromL {α : Type} {e : Enc α} {w : World} {B : Nat} {b o n c : Nat} {l : List α} (h : Rd e w B (.slice (some ⟨b, o, none⟩) n c) l) (k : Nat) (hk : k ≤ l.length) : Rd e w B (.slice (some ⟨b, o + k * e.sz, none⟩) (l.length - k) (c - k)) (l.drop k) := by
 obtain ⟨A', c0, hv, hc, hA⟩ := h
 simp only [Value.slice.injEq] at hv
 obtain ⟨rfl, rfl, rfl⟩ := hv
 refine ⟨_, c - k, by rw [List.length_drop], by rw [List.length_drop]; omega, fun hl => ?_⟩
 rw [List.length_drop] at hl
 obtain ⟨b', o', hb, hlt, hcell⟩ := hA (by omega)
 simp only [Option.some.injEq, Addr.mk.injEq, and_true] at hb
 obtain ⟨rfl, rfl⟩ := hb
 refine ⟨b, o + k * e.sz, rfl, hlt, fun i hi j u hu => ?_⟩
 rw [List.length_drop] at hi
 rw [List.getElem_drop] at hu
 have := hcell (k + i) (by omega) j u hu
 rw [show o + k * e.sz + i * e.sz + j = o + (k + i) * e.sz + j from by rw [Nat.add_mul, ← Nat.add_assoc]]
 exact this
theorem Rd.fromNone {α : Type} {e : Enc α} {w : World} {B : Nat} {A : Option Addr} {n c : Nat} {l : List α} (k : Nat) (hk : l.length ≤ k) (hn : n = 0) : Rd e w B (.slice A n c) (l.drop k) := by
 subst hn
 rw [List.drop_eq_nil_of_le hk]
 exact ⟨_, c, rfl, Nat.zero_le _, fun h => absurd h (by simp)⟩
theorem specPutEntry_own (l : List Entry) (s : Sl) (e : Entry) (w : World) (hl : l.length ≤ 2000000) (h : RdL entryD w w.heap.size s.v l) :
  Calls Try.prog 88 #[.slice s.a s.n s.c, entryW e ()] w (OwnPost (Dt.list entryD) slV (putE l e) w) := by
 obtain ⟨A, n, c⟩ := s
 obtain rfl : n = l.length := RdL.at1 (s := ⟨A, n, c⟩) h
 obtain ⟨i0, hi0, hz0, hz1, hz2⟩ := info_parts entE_info
 have h0 := Lib.hid (fun W (hW : Below w.heap.size w W) => ((ent_rd h).below hW).more hW.size)
 have X := DBox.new 116 [.int .i64 e.prio, .int .i64 e.seq, .int .i64 e.run, .int .i64 e.task] w (b := w.heap.size) rfl
 have B0 : Below w.heap.size w (w.alloc (.cells #[.int .i64 e.prio, .int .i64 e.seq, .int .i64 e.run, .int .i64 e.task] 116)) := by repeat (first | exact Below.refl _ _ | refine Below.alloc ?_ (by simp <;> omega) _)
 go_enter Try.func88, Try.ntmps88
 go_wp2
 generalize entryW e () = ev
 go_loopw [5] (fun i wr => ∃ k : Nat, k ≤ l.length ∧ i = .int .i64 k ∧ Hid (∀ j (hj : j < l.length), j < k → aheadE l[j] e = true) ∧ DBox w.heap.size [.int .i64 e.prio, .int .i64 e.seq, .int .i64 e.run, .int .i64 e.task] wr ∧ Below w.heap.size w wr) (fun i _ => l.length - (intOf i).toNat)
 case atStart => exact ⟨0, Nat.zero_le _, rfl, fun j hj h0 => absurd h0 (by omega), X, B0⟩
 case round =>
  clear X B0
  obtain ⟨k, hk, rfl, hok, X, hb⟩ := hrel
  obtain ⟨X_0, X_1, X_2, X_3, X_l⟩ := X.g4
  have hlc := later_cell wr
  by_cases hlt : k < l.length
  ·have hltI : (k : Int) < (l.length : Int) := by omega
   have hk0 : (0 : Int) ≤ (k : Int) := by omega
   obtain ⟨b, o, _, rfl, hbb, _, c0, c1, c2, c3⟩ := (h.below hb).entry hlt
   have hs : b < wr.heap.size := Nat.lt_of_lt_of_le hbb hb.size
   cases t2 : aheadE l[k] e
   case true =>
    have S := Lib.hid (show ∀ j (hj : j < l.length), j < k + 1 → aheadE l[j] e = true from fun j hj hjk => by
     by_cases hjk2 : j = k
     ·subst hjk2; exact t2
     ·exact hok.out j hj (by omega))
    go_wp2
    refine wp_region_pure (by kernel_rfl) (by kernel_rfl) ?_
    repeat (go_big_quiet_step ((go_at_call 99; rename_i x; have h1 := specAhead_any l[k] e x.1; exact pure_of h1)))
    refine wpQuiet_nil ?_
    rintro _ ⟨⟨w1, b1⟩, rfl⟩
    clear hlc
    go_wp2
    exact ⟨⟨k + 1, by omega, by go_num, S, X.below b1, bnext hb b1⟩, by simp [intOf]; omega⟩
   case false =>
    have HP := Lib.hid (putE_at hk hok.out (fun _ => t2))
    go_wp2
    refine wp_region_pure (by kernel_rfl) (by kernel_rfl) ?_
    repeat (go_big_quiet_step ((go_at_call 99; rename_i x; have h1 := specAhead_any l[k] e x.1; exact pure_of h1)))
    refine wpQuiet_nil ?_
    rintro w0 ⟨⟨_, b1⟩, rfl⟩
    clear hlc
    clear X_0 X_1 X_2 X_3 X_l
    replace X := X.below b1
    have BB := (bnext hb b1)
    have hkc : k ≤ c := Nat.le_trans hk (h0.out _ BB).cap
    have hkcI : (k : Int) ≤ (c : Int) := by omega
    have a0 := Lib.hid (show ∀ W, Below w.heap.size w W → Rd entE W W.heap.size (.slice (some ⟨b, o, none⟩) k c) (l.take k) from fun W hW => (h0.out _ hW).take hk c hkc)
    have q1 : Below w0.heap.size w0 (w0.alloc (.cells #[] 116)) := (Below.refl _ _).alloc (Nat.le_refl _) _
    have hlt1 := Lib.hid (show (l.take k).length ≤ 2000000 by simp; omega)
    have hlt2 := Lib.hid (show (l.take k ++ [e]).length ≤ 2000001 by simp; omega)
    have hlt3 := Lib.hid (show (l.drop k).length ≤ 2000000 by simp; omega)
    rcases Nat.lt_or_ge k c with hkc2 | hkc2
    ·have hck : ¬ c = k := by omega
     go_wp2_with (first | (at_builtin; refine wpList_push_all _ entE (by decide) rfl (.tmp 21) (.tmp 24) rfl Try.underlying77 hi0 hz0 hz1 hz2 rfl (base := w0.heap.size) (v := .slice (some ⟨w0.heap.size, 0, none⟩) 0 0) (l := []) rfl (Ow.empty entE 116 w0 (g := w0.heap.size) rfl) (A := (some ⟨b, o, none⟩)) (m := k) (c := _) (ys := l.take k) rfl (a0.out _ (bnext BB q1)) (by simp) (by have := hlt1.out; omega) (by decide) q1.size ?_; intro v1 w1 o1 g1 _; rw [List.nil_append] at o1; have d1 : Below w0.heap.size w0 w1 := q1.grown g1 q1.size (fun g hg => Nat.le_of_eq (Option.some.inj hg)); have X1 := X.below d1; have x0 := X1.cell 0 _ rfl; have x1 := X1.cell 1 _ rfl; have x2 := X1.cell 2 _ rfl; have x3 := X1.cell 3 _ rfl; have xl := X1.lt; have hd1 := d1.size) | (at_builtin; refine wpList_push_all _ entE (by decide) rfl (.tmp 26) (.tmp 28) rfl Try.underlying77 hi0 hz0 hz1 hz2 rfl (base := w0.heap.size) (v := v1) (l := l.take k) rfl (o1.below ((Below.refl _ _).alloc (Nat.le_refl _) _)) (A := some ⟨w1.heap.size, 0, none⟩) (m := 1) (c := 1) (ys := [e]) rfl (Rd.one entE w1 _ e rfl rfl 1 (Nat.le_refl _) (Nat.lt_succ_self _)) (by have := hlt1.out; omega) (by simp) (by decide) (d1.alloc d1.size _).size ?_; intro v2 w2 o2 g2 _; have d2 : Below w0.heap.size w0 w2 := (d1.alloc d1.size _).grown g2 (d1.alloc d1.size _).size (fun g hg => (o1.within g hg).1)) | (at_builtin; refine wpList_push_all _ entE (by decide) rfl (.tmp 30) (.tmp 33) rfl Try.underlying77 hi0 hz0 hz1 hz2 rfl (base := w0.heap.size) (v := v2) (l := l.take k ++ [e]) rfl o2 (A := some ⟨b, o + k * 4, none⟩) (m := l.length - k) (c := c - k) (ys := l.drop k) rfl ((h0.out _ (bnext BB d2)).fromL k hk) (by have := hlt2.out; omega) (by have := hlt3.out; omega) (by decide) d2.size ?_; intro v3 w3 o3 g3 _; have d3 : Below w0.heap.size w0 w3 := d2.grown g3 d2.size (fun g hg => (o2.within g hg).1)))
     obtain ⟨s9, F9, rfl, o9, n9⟩ := entry_ow o3
     go_ret
     exact ⟨s9, F9, rfl, by rw [HP.out]; exact o9, fun x hx => Nat.le_trans BB.size (n9 x hx), bnext BB d3⟩
    ·exact absurd (h0.out _ BB).cap (by show ¬ l.length ≤ c; omega)
  ·have hltI : ¬ (k : Int) < (l.length : Int) := by omega
   have HP := Lib.hid (putE_at hk hok.out (fun hh => absurd hh hlt))
   go_wp2
   refine wp_region_pure (by kernel_rfl) (by kernel_rfl) ?_
   repeat (go_big_quiet_step (fail))
   refine wpQuiet_nil ?_
   rintro w0 ⟨⟨_, b1⟩, rfl⟩
   clear hlc
   clear X_0 X_1 X_2 X_3 X_l
   replace X := X.below b1
   have BB := (bnext hb b1)
   have hkc : k ≤ c := Nat.le_trans hk (h0.out _ BB).cap
   have hkcI : (k : Int) ≤ (c : Int) := by omega
   have a0 := Lib.hid (show ∀ W, Below w.heap.size w W → Rd entE W W.heap.size (.slice A k c) (l.take k) from fun W hW => (h0.out _ hW).take hk c hkc)
   have q1 : Below w0.heap.size w0 (w0.alloc (.cells #[] 116)) := (Below.refl _ _).alloc (Nat.le_refl _) _
   have hlt1 := Lib.hid (show (l.take k).length ≤ 2000000 by simp; omega)
   have hlt2 := Lib.hid (show (l.take k ++ [e]).length ≤ 2000001 by simp; omega)
   have hlt3 := Lib.hid (show (l.drop k).length ≤ 2000000 by simp; omega)
   rcases Nat.lt_or_ge k c with hkc2 | hkc2
   ·have hck : ¬ c = k := by omega
    go_wp2_with (first | (at_builtin; refine wpList_push_all _ entE (by decide) rfl (.tmp 21) (.tmp 24) rfl Try.underlying77 hi0 hz0 hz1 hz2 rfl (base := w0.heap.size) (v := .slice (some ⟨w0.heap.size, 0, none⟩) 0 0) (l := []) rfl (Ow.empty entE 116 w0 (g := w0.heap.size) rfl) (A := A) (m := k) (c := _) (ys := l.take k) rfl (a0.out _ (bnext BB q1)) (by simp) (by have := hlt1.out; omega) (by decide) q1.size ?_; intro v1 w1 o1 g1 _; rw [List.nil_append] at o1; have d1 : Below w0.heap.size w0 w1 := q1.grown g1 q1.size (fun g hg => Nat.le_of_eq (Option.some.inj hg)); have X1 := X.below d1; have x0 := X1.cell 0 _ rfl; have x1 := X1.cell 1 _ rfl; have x2 := X1.cell 2 _ rfl; have x3 := X1.cell 3 _ rfl; have xl := X1.lt; have hd1 := d1.size) | (at_builtin; refine wpList_push_all _ entE (by decide) rfl (.tmp 26) (.tmp 28) rfl Try.underlying77 hi0 hz0 hz1 hz2 rfl (base := w0.heap.size) (v := v1) (l := l.take k) rfl (o1.below ((Below.refl _ _).alloc (Nat.le_refl _) _)) (A := some ⟨w1.heap.size, 0, none⟩) (m := 1) (c := 1) (ys := [e]) rfl (Rd.one entE w1 _ e rfl rfl 1 (Nat.le_refl _) (Nat.lt_succ_self _)) (by have := hlt1.out; omega) (by simp) (by decide) (d1.alloc d1.size _).size ?_; intro v2 w2 o2 g2 _; have d2 : Below w0.heap.size w0 w2 := (d1.alloc d1.size _).grown g2 (d1.alloc d1.size _).size (fun g hg => (o1.within g hg).1)) | (at_builtin; refine wpList_push_all _ entE (by decide) rfl (.tmp 30) (.tmp 33) rfl Try.underlying77 hi0 hz0 hz1 hz2 rfl (base := w0.heap.size) (v := v2) (l := l.take k ++ [e]) rfl o2 (A := A.map fun x => x.add (k * 4)) (m := l.length - k) (c := c - k) (ys := l.drop k) rfl (Rd.fromNone (B := 0) k (by omega) (by omega)) (by have := hlt2.out; omega) (by have := hlt3.out; omega) (by decide) d2.size ?_; intro v3 w3 o3 g3 _; have d3 : Below w0.heap.size w0 w3 := d2.grown g3 d2.size (fun g hg => (o2.within g hg).1)))
    obtain ⟨s9, F9, rfl, o9, n9⟩ := entry_ow o3
    go_ret
    exact ⟨s9, F9, rfl, by rw [HP.out]; exact o9, fun x hx => Nat.le_trans BB.size (n9 x hx), bnext BB d3⟩
   ·obtain rfl : k = c := by omega
    go_wp2_with (first | (at_builtin; refine wpList_push_all _ entE (by decide) rfl (.tmp 21) (.tmp 24) rfl Try.underlying77 hi0 hz0 hz1 hz2 rfl (base := w0.heap.size) (v := .slice (some ⟨w0.heap.size, 0, none⟩) 0 0) (l := []) rfl (Ow.empty entE 116 w0 (g := w0.heap.size) rfl) (A := A) (m := k) (c := _) (ys := l.take k) rfl (a0.out _ (bnext BB q1)) (by simp) (by have := hlt1.out; omega) (by decide) q1.size ?_; intro v1 w1 o1 g1 _; rw [List.nil_append] at o1; have d1 : Below w0.heap.size w0 w1 := q1.grown g1 q1.size (fun g hg => Nat.le_of_eq (Option.some.inj hg)); have X1 := X.below d1; have x0 := X1.cell 0 _ rfl; have x1 := X1.cell 1 _ rfl; have x2 := X1.cell 2 _ rfl; have x3 := X1.cell 3 _ rfl; have xl := X1.lt; have hd1 := d1.size) | (at_builtin; refine wpList_push_all _ entE (by decide) rfl (.tmp 26) (.tmp 28) rfl Try.underlying77 hi0 hz0 hz1 hz2 rfl (base := w0.heap.size) (v := v1) (l := l.take k) rfl (o1.below ((Below.refl _ _).alloc (Nat.le_refl _) _)) (A := some ⟨w1.heap.size, 0, none⟩) (m := 1) (c := 1) (ys := [e]) rfl (Rd.one entE w1 _ e rfl rfl 1 (Nat.le_refl _) (Nat.lt_succ_self _)) (by have := hlt1.out; omega) (by simp) (by decide) (d1.alloc d1.size _).size ?_; intro v2 w2 o2 g2 _; have d2 : Below w0.heap.size w0 w2 := (d1.alloc d1.size _).grown g2 (d1.alloc d1.size _).size (fun g hg => (o1.within g hg).1)) | (at_builtin; refine wpList_push_all _ entE (by decide) rfl (.tmp 30) (.tmp 33) rfl Try.underlying77 hi0 hz0 hz1 hz2 rfl (base := w0.heap.size) (v := v2) (l := l.take k ++ [e]) rfl o2 (A := A) (m := l.length - k) (c := 0) (ys := l.drop k) rfl (Rd.fromNone (B := 0) k (by omega) (by omega)) (by have := hlt2.out; omega) (by have := hlt3.out; omega) (by decide) d2.size ?_; intro v3 w3 o3 g3 _; have d3 : Below w0.heap.size w0 w3 := d2.grown g3 d2.size (fun g hg => (o2.within g hg).1)))
    obtain ⟨s9, F9, rfl, o9, n9⟩ := entry_ow o3
    go_ret
    exact ⟨s9, F9, rfl, by rw [HP.out]; exact o9, fun x hx => Nat.le_trans BB.size (n9 x hx), bnext BB d3⟩
theorem DBox.drew4 {b : Nat} {cs : List Value} {w : World} (h : DBox b cs w) : DBox b cs w.drew := ⟨h.cell, h.free, h.lt⟩
theorem DBox.row4 {b : Nat} {cs : List Value} {w : World} (h : DBox b cs w) (hn : cs.length = 4) (u0 u1 u2 u3 : Value) :
  DBox b [u0, u1, u2, u3] ((((w.setCell ⟨b, 0, none⟩ u0).setCell ⟨b, 1, none⟩ u1).setCell ⟨b, 2, none⟩ u2).setCell ⟨b, 3, none⟩ u3) := by
 obtain ⟨c0, c1, c2, c3, rfl⟩ : ∃ c0 c1 c2 c3, cs = [c0, c1, c2, c3] := by
  match cs, hn with
  | [c0, c1, c2, c3], _ => exact ⟨c0, c1, c2, c3, rfl⟩
 exact (((h.set 0 (by simp) u0).set 1 (by simp) u1).set 2 (by simp) u2).set 3 (by simp) u3
theorem take_res {b : Nat} {w : World} {u0 u1 u2 u3 : Value} (X : DBox b [u0, u1, u2, u3] w) {v0 v1 v3 v4 : Value} {rest : List Value} :
  (results Try.f71 (v0 :: v1 :: .pointer (some ⟨b, 0, none⟩) :: v3 :: v4 :: rest).toArray).run Try.prog w = .ok (.tuple #[.agg #[u0, u1, u2, u3], v3, v4]) w := by
 have c0 := X.cell 0 _ rfl
 have c1 := X.cell 1 _ rfl
 have c2 := X.cell 2 _ rfl
 have c3 := X.cell 3 _ rfl
 simp [results, Try.results71, go_sem, c0, c1, c2, c3]
/-- taking the first of a shelf -/
def TakePost (l : List Entry) (w : World) (e : Ending) (w' : World) : Prop :=
 ∃ (s : Sl) (F : List Nat), e = .returned (.tuple #[entryW (l.headD ⟨0, 0, 0, 0⟩) (), .slice s.a s.n s.c, .bool (!l.isEmpty)]) ∧ OwL entryD w' F s.v l.tail ∧ (∀ x ∈ F, w.heap.size ≤ x) ∧ Below w.heap.size w w'
theorem specTakeEntry_own (l : List Entry) (s : Sl) (w : World) (hl : l.length ≤ 2000000) (h : RdL entryD w w.heap.size s.v l) :
  Calls Try.prog 71 #[.slice s.a s.n s.c] w (TakePost l w) := by
 obtain ⟨A, n, c⟩ := s
 obtain rfl : n = l.length := RdL.at1 (s := ⟨A, n, c⟩) h
 obtain ⟨i0, hi0, hz0, hz1, hz2⟩ := info_parts entE_info
 have h0 := Lib.hid (fun W (hW : Below w.heap.size w W) => ((ent_rd h).below hW).more hW.size)
 cases l with
 | nil =>
  have R := DBox.new 116 [.int .i64 0, .int .i64 0, .int .i64 0, .int .i64 0] w (b := w.heap.size) rfl
  have B0 : Below w.heap.size w (w.alloc (.cells #[.int .i64 0, .int .i64 0, .int .i64 0, .int .i64 0] 116)) := by repeat (first | exact Below.refl _ _ | refine Below.alloc ?_ (by simp <;> omega) _)
  go_enter Try.func71, Try.ntmps71
  go_wp2
  have R1 := R.below ((Below.refl _ _).alloc (Nat.le_refl _) (.cells #[] 116))
  refine bodyPost_ret (v := .tuple #[.agg #[.int .i64 0, .int .i64 0, .int .i64 0, .int .i64 0], .slice (some ⟨w.heap.size + 1, 0, none⟩) 0 0, .bool false]) (take_res R1) rfl ⟨⟨some ⟨w.heap.size + 1, 0, none⟩, 0, 0⟩, [], rfl, OwL.nil _ _ _ _, by simp, ?_⟩
  repeat (first | (with_reducible exact B0) | refine Below.setCell ?_ (by simp <;> omega) _ | refine Below.alloc ?_ (by simp <;> omega) _)
 | cons e tl =>
  have h1 : ((((e :: tl).length : Nat) : Int) == 0) = false := by rw [beq_eq_false_iff_ne]; simp; omega
  obtain ⟨b, o, _, rfl, hbb, _, c0, c1, c2, c3⟩ := h.entry (k := 0) (by simp)
  simp only [Nat.zero_mul, Nat.add_zero, List.getElem_cons_zero] at c0 c1 c2 c3
  have hl1 : 1 ≤ (e :: tl).length := by simp
  have hlt1 := Lib.hid (show tl.length ≤ 3000000 by simp at hl; omega)
  have hdr := Lib.hid (show (e :: tl).drop 1 = tl from rfl)
  have hcap : (e :: tl).length ≤ c := (h0.out w (Below.refl _ _)).cap
  generalize hL : (e :: tl).length = L at *
  have hLI : (0 : Int) < (L : Int) := by omega
  have hLI1 : (1 : Int) ≤ (L : Int) := by omega
  have hLN : 0 < L := by omega
  have R := DBox.new 116 [.int .i64 0, .int .i64 0, .int .i64 0, .int .i64 0] w (b := w.heap.size) rfl
  have B0 : Below w.heap.size w (w.alloc (.cells #[.int .i64 0, .int .i64 0, .int .i64 0, .int .i64 0] 116)) := by repeat (first | exact Below.refl _ _ | refine Below.alloc ?_ (by simp <;> omega) _)
  go_enter Try.func71, Try.ntmps71
  go_wp2
  generalize (w.alloc (.cells #[.int .i64 0, .int .i64 0, .int .i64 0, .int .i64 0] 116)) = W at *
  have hs := B0.size
  have hbW : b < W.heap.size := by omega
  have HS0 := Lib.hid (show ∀ W', Below w.heap.size w W' → (fun w' => w'.cell? ⟨b, o, none⟩ = some (.int .i64 e.prio) ∧ w'.cell? ⟨b, o + 1, none⟩ = some (.int .i64 e.seq) ∧ w'.cell? ⟨b, o + 2, none⟩ = some (.int .i64 e.run) ∧ w'.cell? ⟨b, o + 3, none⟩ = some (.int .i64 e.task)) W' from fun W' hW' => ⟨(hW'.cell (p := ⟨b, _, none⟩) hbb).trans c0, (hW'.cell (p := ⟨b, _, none⟩) hbb).trans c1, (hW'.cell (p := ⟨b, _, none⟩) hbb).trans c2, (hW'.cell (p := ⟨b, _, none⟩) hbb).trans c3⟩)
  have B1 := B0.drew
  replace R := DBox.drew4 R
  rcases Nat.lt_or_ge 1 c with hkc2 | hkc2
  ·have hck : ¬ c = 1 := by omega
   have hcI : (1 : Int) ≤ (c : Int) := by omega
   refine Go.wp_region_noPanic ?_
   refine wp_region_held_drew (S := (fun w' => w'.cell? ⟨b, o, none⟩ = some (.int .i64 e.prio) ∧ w'.cell? ⟨b, o + 1, none⟩ = some (.int .i64 e.seq) ∧ w'.cell? ⟨b, o + 2, none⟩ = some (.int .i64 e.run) ∧ w'.cell? ⟨b, o + 3, none⟩ = some (.int .i64 e.task))) (by kernel_rfl) (HS0.out _ B1) (fun hHeld => ?_)
   generalize W.drew = w1 at *
   refine tZ 0 ?_ (hy := by (intro w' hSw; (try dsimp only at hSw); have g0 := hSw.1; have g1 := hSw.2.1; have g2 := hSw.2.2.1; have g3 := hSw.2.2.2; go_simp; (try with_reducible rfl)))
   (try simp only [pS])
   refine tZ 1 ?_ (hy := by (intro w' hSw; (try dsimp only at hSw); have g0 := hSw.1; have g1 := hSw.2.1; have g2 := hSw.2.2.1; have g3 := hSw.2.2.2; go_simp; (try with_reducible rfl)))
   (try simp only [pS])
   refine tZ 2 ?_ (hy := by (intro w' hSw; (try dsimp only at hSw); have g0 := hSw.1; have g1 := hSw.2.1; have g2 := hSw.2.2.1; have g3 := hSw.2.2.2; go_simp; (try with_reducible rfl)))
   (try simp only [pS])
   refine tZ 4 ?_ (hy := by (intro w' hSw; (try dsimp only at hSw); have g0 := hSw.1; have g1 := hSw.2.1; have g2 := hSw.2.2.1; have g3 := hSw.2.2.2; go_simp; (try with_reducible rfl)))
   (try simp only [pS])
   refine tZ 5 ?_ (hy := by (intro w' hSw; (try dsimp only at hSw); have g0 := hSw.1; have g1 := hSw.2.1; have g2 := hSw.2.2.1; have g3 := hSw.2.2.2; go_simp; (try with_reducible rfl)))
   (try simp only [pS])
   refine rC 3 (fun K_ hK => ?_)
   go_simp
   have o2 := Ow.empty entE 116 w1 (g := w1.heap.size) rfl
   have b2 : Below w1.heap.size w1 (w1.alloc (.cells #[] 116)) := (Below.refl _ _).alloc (Nat.le_refl _) _
   have B2 := bnext B1 b2
   have R2 := R.below b2
   generalize w1.alloc (.cells #[] 116) = w2 at *
   refine hK.out _ _ (HS0.out _ B2) (fun hHeld => ?_)
   clear hK K_
   (try simp only [pS])
   refine rC 6 (fun K_ hK => ?_)
   have rd1 := (h0.out _ B2).fromL 1 (by show 1 ≤ (e :: tl).length; simp)
   rw [hL, hdr.out] at rd1
   refine wp_append_rd _ entE (by decide) (.tmp 13) (.tmp 15) 77 rfl w1.heap.size 116 _ _ _ Try.underlying77 hi0 hz0 hz1 hz2 rfl _ [] rfl o2 _ _ _ _ tl rfl rd1 (by simp) hlt1.out (by decide) b2.size ?_
   intro v3 w3 o3 g3 _
   rw [List.nil_append] at o3
   have b3 : Below w1.heap.size w1 w3 := b2.grown g3 b2.size (fun g hg => Nat.le_of_eq (Option.some.inj hg))
   have B3 := bnext B1 b3
   have R3 := R.below b3
   refine hK.out _ _ (HS0.out _ B3) (fun hHeld => ?_)
   clear hK K_
   (try simp only [pS])
   have e0 := R3.cell 0 _ rfl
   have e1 := R3.cell 1 _ rfl
   have e2 := R3.cell 2 _ rfl
   have e3 := R3.cell 3 _ rfl
   have ef := R3.free
   have el := R3.lt
   refine rC 7 (fun K_ hK => ?_)
   go_simp
   have R4 := DBox.row4 R3 rfl (.int .i64 e.prio) (.int .i64 e.seq) (.int .i64 e.run) (.int .i64 e.task)
   have B4 : Below w.heap.size w ((((w3.setCell ⟨w.heap.size, 0, none⟩ (.int .i64 e.prio)).setCell ⟨w.heap.size, 1, none⟩ (.int .i64 e.seq)).setCell ⟨w.heap.size, 2, none⟩ (.int .i64 e.run)).setCell ⟨w.heap.size, 3, none⟩ (.int .i64 e.task)) := by
    repeat (first | (with_reducible exact B3) | refine Below.setCell ?_ (by simp <;> omega) _)
   have o4 := (((o3.setLow (a := ⟨w.heap.size, 0, none⟩) (by show w.heap.size < w1.heap.size; have := R.lt; omega) (.int .i64 e.prio)).setLow (a := ⟨w.heap.size, 1, none⟩) (by show w.heap.size < w1.heap.size; have := R.lt; omega) (.int .i64 e.seq)).setLow (a := ⟨w.heap.size, 2, none⟩) (by show w.heap.size < w1.heap.size; have := R.lt; omega) (.int .i64 e.run)).setLow (a := ⟨w.heap.size, 3, none⟩) (by show w.heap.size < w1.heap.size; have := R.lt; omega) (.int .i64 e.task)
   generalize ((((w3.setCell ⟨w.heap.size, 0, none⟩ (.int .i64 e.prio)).setCell ⟨w.heap.size, 1, none⟩ (.int .i64 e.seq)).setCell ⟨w.heap.size, 2, none⟩ (.int .i64 e.run)).setCell ⟨w.heap.size, 3, none⟩ (.int .i64 e.task)) = w4 at *
   clear e0 e1 e2 e3 ef el
   refine hK.out _ _ (HS0.out _ B4) (fun hHeld => ?_)
   clear hK K_
   (try simp only [pS])
   refine rC 8 (fun K_ hK => ?_)
   go_simp
   refine hK.out _ _ (HS0.out _ B4) (fun hHeld => ?_)
   clear hK K_
   (try simp only [pS])
   refine rC 9 (fun K_ hK => ?_)
   go_simp
   refine hK.out _ _ (HS0.out _ B4) (fun hHeld => ?_)
   clear hK K_
   (try simp only [pS])
   refine wpAnyH_done (by kernel_rfl) ?_ _
   refine NoPanic.normal ?_
   clear hHeld
   obtain ⟨s9, F9, rfl, o9, n9⟩ := entry_ow o4
   go_wp2
   refine bodyPost_ret (v := .tuple #[entryW e (), .slice s9.a s9.n s9.c, .bool true]) (take_res R4) rfl ⟨s9, F9, rfl, o9, fun x hx => Nat.le_trans (by have := R.lt; omega) (n9 x hx), B4⟩
  ·obtain rfl : c = 1 := by omega
   obtain rfl : L = 1 := by omega
   refine Go.wp_region_noPanic ?_
   refine wp_region_held_drew (S := (fun w' => w'.cell? ⟨b, o, none⟩ = some (.int .i64 e.prio) ∧ w'.cell? ⟨b, o + 1, none⟩ = some (.int .i64 e.seq) ∧ w'.cell? ⟨b, o + 2, none⟩ = some (.int .i64 e.run) ∧ w'.cell? ⟨b, o + 3, none⟩ = some (.int .i64 e.task))) (by kernel_rfl) (HS0.out _ B1) (fun hHeld => ?_)
   generalize W.drew = w1 at *
   refine tZ 0 ?_ (hy := by (intro w' hSw; (try dsimp only at hSw); have g0 := hSw.1; have g1 := hSw.2.1; have g2 := hSw.2.2.1; have g3 := hSw.2.2.2; go_simp; (try with_reducible rfl)))
   (try simp only [pS])
   refine tZ 1 ?_ (hy := by (intro w' hSw; (try dsimp only at hSw); have g0 := hSw.1; have g1 := hSw.2.1; have g2 := hSw.2.2.1; have g3 := hSw.2.2.2; go_simp; (try with_reducible rfl)))
   (try simp only [pS])
   refine tZ 2 ?_ (hy := by (intro w' hSw; (try dsimp only at hSw); have g0 := hSw.1; have g1 := hSw.2.1; have g2 := hSw.2.2.1; have g3 := hSw.2.2.2; go_simp; (try with_reducible rfl)))
   (try simp only [pS])
   refine tZ 4 ?_ (hy := by (intro w' hSw; (try dsimp only at hSw); have g0 := hSw.1; have g1 := hSw.2.1; have g2 := hSw.2.2.1; have g3 := hSw.2.2.2; go_simp; (try with_reducible rfl)))
   (try simp only [pS])
   refine tZ 5 ?_ (hy := by (intro w' hSw; (try dsimp only at hSw); have g0 := hSw.1; have g1 := hSw.2.1; have g2 := hSw.2.2.1; have g3 := hSw.2.2.2; go_simp; (try with_reducible rfl)))
   (try simp only [pS])
   refine rC 3 (fun K_ hK => ?_)
   go_simp
   have o2 := Ow.empty entE 116 w1 (g := w1.heap.size) rfl
   have b2 : Below w1.heap.size w1 (w1.alloc (.cells #[] 116)) := (Below.refl _ _).alloc (Nat.le_refl _) _
   have B2 := bnext B1 b2
   have R2 := R.below b2
   generalize w1.alloc (.cells #[] 116) = w2 at *
   refine hK.out _ _ (HS0.out _ B2) (fun hHeld => ?_)
   clear hK K_
   (try simp only [pS])
   refine rC 6 (fun K_ hK => ?_)
   have rd1 : Rd entE w2 0 (.slice (some ⟨b, o, none⟩) 0 0) tl := Rd.fromNone (B := 0) (l := e :: tl) 1 (by show (e :: tl).length ≤ 1; rw [hL]; exact Nat.le_refl _) rfl
   refine wp_append_rd _ entE (by decide) (.tmp 13) (.tmp 15) 77 rfl w1.heap.size 116 _ _ _ Try.underlying77 hi0 hz0 hz1 hz2 rfl _ [] rfl o2 _ _ _ _ tl rfl rd1 (by simp) hlt1.out (by decide) b2.size ?_
   intro v3 w3 o3 g3 _
   rw [List.nil_append] at o3
   have b3 : Below w1.heap.size w1 w3 := b2.grown g3 b2.size (fun g hg => Nat.le_of_eq (Option.some.inj hg))
   have B3 := bnext B1 b3
   have R3 := R.below b3
   refine hK.out _ _ (HS0.out _ B3) (fun hHeld => ?_)
   clear hK K_
   (try simp only [pS])
   have e0 := R3.cell 0 _ rfl
   have e1 := R3.cell 1 _ rfl
   have e2 := R3.cell 2 _ rfl
   have e3 := R3.cell 3 _ rfl
   have ef := R3.free
   have el := R3.lt
   refine rC 7 (fun K_ hK => ?_)
   go_simp
   have R4 := DBox.row4 R3 rfl (.int .i64 e.prio) (.int .i64 e.seq) (.int .i64 e.run) (.int .i64 e.task)
   have B4 : Below w.heap.size w ((((w3.setCell ⟨w.heap.size, 0, none⟩ (.int .i64 e.prio)).setCell ⟨w.heap.size, 1, none⟩ (.int .i64 e.seq)).setCell ⟨w.heap.size, 2, none⟩ (.int .i64 e.run)).setCell ⟨w.heap.size, 3, none⟩ (.int .i64 e.task)) := by
    repeat (first | (with_reducible exact B3) | refine Below.setCell ?_ (by simp <;> omega) _)
   have o4 := (((o3.setLow (a := ⟨w.heap.size, 0, none⟩) (by show w.heap.size < w1.heap.size; have := R.lt; omega) (.int .i64 e.prio)).setLow (a := ⟨w.heap.size, 1, none⟩) (by show w.heap.size < w1.heap.size; have := R.lt; omega) (.int .i64 e.seq)).setLow (a := ⟨w.heap.size, 2, none⟩) (by show w.heap.size < w1.heap.size; have := R.lt; omega) (.int .i64 e.run)).setLow (a := ⟨w.heap.size, 3, none⟩) (by show w.heap.size < w1.heap.size; have := R.lt; omega) (.int .i64 e.task)
   generalize ((((w3.setCell ⟨w.heap.size, 0, none⟩ (.int .i64 e.prio)).setCell ⟨w.heap.size, 1, none⟩ (.int .i64 e.seq)).setCell ⟨w.heap.size, 2, none⟩ (.int .i64 e.run)).setCell ⟨w.heap.size, 3, none⟩ (.int .i64 e.task)) = w4 at *
   clear e0 e1 e2 e3 ef el
   refine hK.out _ _ (HS0.out _ B4) (fun hHeld => ?_)
   clear hK K_
   (try simp only [pS])
   refine rC 8 (fun K_ hK => ?_)
   go_simp
   refine hK.out _ _ (HS0.out _ B4) (fun hHeld => ?_)
   clear hK K_
   (try simp only [pS])
   refine rC 9 (fun K_ hK => ?_)
   go_simp
   refine hK.out _ _ (HS0.out _ B4) (fun hHeld => ?_)
   clear hK K_
   (try simp only [pS])
   refine wpAnyH_done (by kernel_rfl) ?_ _
   refine NoPanic.normal ?_
   clear hHeld
   obtain ⟨s9, F9, rfl, o9, n9⟩ := entry_ow o4
   go_wp2
   refine bodyPost_ret (v := .tuple #[entryW e (), .slice s9.a s9.n s9.c, .bool true]) (take_res R4) rfl ⟨s9, F9, rfl, o9, fun x hx => Nat.le_trans (by have := R.lt; omega) (n9 x hx), B4⟩
/-- two halves of a shelf -/
def HalfPost (l : List Entry) (w : World) (e : Ending) (w' : World) : Prop :=
 ∃ (s1 : Sl) (F1 : List Nat) (s2 : Sl) (F2 : List Nat), e = .returned (.tuple #[.slice s1.a s1.n s1.c, .slice s2.a s2.n s2.c]) ∧ OwL entryD w' F1 s1.v (l.take (halfN l)) ∧ OwL entryD w' F2 s2.v (l.drop (halfN l)) ∧ (∀ x ∈ F1, w.heap.size ≤ x) ∧ (∀ x ∈ F2, w.heap.size ≤ x) ∧ (∀ x ∈ F1, x ∉ F2) ∧ Below w.heap.size w w'
theorem entry_ow2 {w : World} {E : TypeId} {base : Nat} {v : Value} {l : List Entry} (h : Ow entE E w base v l) : ∃ (s : Sl) (F : List Nat), v = .slice s.a s.n s.c ∧ OwL entryD w F s.v l ∧ (∀ b ∈ F, base ≤ b) ∧ (∀ b ∈ F, v.ownBlock = some b) := by
 obtain ⟨h1, h2⟩ := Hw.of_ow h
 obtain ⟨⟨A, c, hv, hc, hA⟩, hF, hf⟩ := id h1
 subst hv
 refine ⟨⟨A, l.length, c⟩, _, rfl, ⟨l.map fun x => (x, ()), blocks (.slice A l.length c) l.length, [], by rw [List.map_map]; exact List.map_id _, ⟨⟨A, c, by rw [List.length_map], by rw [List.length_map]; exact hc, fun hl => ?_⟩, by rw [List.length_map], hf⟩, entry_ows w l, (List.append_nil _).symm, h1.nodup⟩, h2, blocks_sub _ _⟩
 rw [List.length_map] at hl
 obtain ⟨b, o, h3, h4, h5⟩ := hA hl
 refine ⟨b, o, h3, h4, fun k hk j u hu => ?_⟩
 rw [List.getElem_map] at hu
 exact h5 k (by rw [List.length_map] at hk; exact hk) j u hu
theorem half_div (n : Nat) : ((n : Int) + 1).tdiv 2 = ((n + 1) / 2 : Nat) := by
 rw [Int.tdiv_eq_ediv_of_nonneg (by omega)]
 omega
theorem specHalf_own (l : List Entry) (s : Sl) (w : World) (hl : l.length ≤ 2000000) (h : RdL entryD w w.heap.size s.v l) :
  Calls Try.prog 69 #[.slice s.a s.n s.c] w (HalfPost l w) := by
 obtain ⟨A, n, c⟩ := s
 obtain rfl : n = l.length := RdL.at1 (s := ⟨A, n, c⟩) h
 obtain ⟨i0, hi0, hz0, hz1, hz2⟩ := info_parts entE_info
 have h0 := Lib.hid (fun W (hW : Below w.heap.size w W) => ((ent_rd h).below hW).more hW.size)
 have hd := half_div l.length
 rw [show (l.length + 1) / 2 = halfN l from rfl] at hd
 have hkl := halfN_le l
 have hw1 : IntKind.i64.wrap ((l.length : Int) + 1) = (l.length : Int) + 1 := IntWalk.i64_in _ (by omega)
 have hw2 : IntKind.i64.wrap (halfN l : Int) = (halfN l : Int) := IntWalk.i64_in _ (by omega)
 have hcap : l.length ≤ c := (h0.out w (Below.refl _ _)).cap
 have hkc : halfN l ≤ c := by omega
 have hkcI : (halfN l : Int) ≤ (c : Int) := by omega
 have hklI : (halfN l : Int) ≤ (l.length : Int) := by omega
 have hk0I : (0 : Int) ≤ (halfN l : Int) := by omega
 have a0 := Lib.hid (show ∀ W, Below w.heap.size w W → Rd entE W W.heap.size (.slice A (halfN l) c) (l.take (halfN l)) from fun W hW => (h0.out _ hW).take hkl c hkc)
 have hlt1 := Lib.hid (show (l.take (halfN l)).length ≤ 3000000 by simp; omega)
 have hlt2 := Lib.hid (show (l.drop (halfN l)).length ≤ 3000000 by simp; omega)
 rcases Nat.eq_zero_or_pos l.length with hz | hp
 ·have hzz := Lib.hid hz
  clear hz
  have hklt : halfN l < c ∨ c = halfN l := by omega
  go_enter Try.func69, Try.ntmps69
  go_wp2
  rcases hklt with hk2 | hk2
  ·have hck : ¬ c = halfN l := by omega
   refine Go.wp_region_noPanic ?_
   refine wp_region_held_drew (S := fun _ => True) (by kernel_rfl) trivial (fun hHeld => ?_)
   have B1 : Below w.heap.size w w.drew := (Below.refl _ _).drew
   generalize w.drew = w1 at *
   refine tY 1 ?_
   (try simp only [pS])
   refine tY 2 ?_
   (try simp only [pS])
   refine tY 3 ?_
   (try simp only [pS])
   refine tY 6 ?_
   (try simp only [pS])
   refine tY 7 ?_
   (try simp only [pS])
   refine tY 8 ?_
   (try simp only [pS])
   refine readyC2 0 5 rfl rfl (by kernel_rfl) (by rfl) (by rfl) (fun K_ hK => ?_) (fun K_ hK => ?_)
   ·go_simp
    obtain ⟨g9, hg9⟩ : ∃ g, g = w1.heap.size := ⟨_, rfl⟩
    rw [← hg9]
    have bb : Below w1.heap.size w1 (w1.alloc (.cells #[] 116)) := (Below.refl _ _).alloc (Nat.le_refl _) _
    have o9 : Ow entE 116 (w1.alloc (.cells #[] 116)) w.heap.size (.slice (some ⟨g9, 0, none⟩) 0 0) [] := (Ow.empty entE 116 w1 hg9).more (by have := B1.size; omega)
    have z9 : g9 < (w1.alloc (.cells #[] 116)).heap.size := by simp; omega
    have Bw1a := bnext B1 bb
    have y9 := bb.size
    have ga9 := Nat.le_of_eq hg9
    have gb9 := Nat.le_of_eq hg9.symm
    clear bb hg9
    generalize w1.alloc (.cells #[] 116) = w1a at *
    refine hK.out _ _ trivial (fun hHeld => ?_)
    clear hK K_
    (try simp only [pS])
    refine readyC2 4 5 rfl rfl (by kernel_rfl) (by rfl) (by rfl) (fun K_ hK => ?_) (fun K_ hK => ?_)
    ·obtain ⟨n13, hn13⟩ : ∃ n, n = w1a.heap.size := ⟨_, rfl⟩
     refine wp_append_rd _ entE (by decide) (.tmp 9) (.tmp 12) 77 rfl w.heap.size 116 _ _ _ Try.underlying77 hi0 hz0 hz1 hz2 rfl _ [] rfl o9 _ _ _ _ (l.take (halfN l)) rfl (a0.out _ Bw1a) (by simp) hlt1.out (by decide) Bw1a.size ?_
     intro v13 w1ap o13 gg e13
     rw [List.nil_append] at o13
     rw [← hn13] at e13
     have na13 := Nat.le_of_eq hn13
     have nb13 := Nat.le_of_eq hn13.symm
     clear hn13
     have t13 : ∀ g, v13.ownBlock = some g → g < w1ap.heap.size := fun g h => (o13.within g h).2
     replace e13 : v13.ownBlock = some g9 ∨ v13.ownBlock = some n13 := e13
     have Bw1ap : Below w.heap.size w w1ap := Bw1a.grown gg Bw1a.size (fun g hg => (o9.within g hg).1)
     have y13 := gg.size
     clear gg
     refine hK.out _ _ trivial (fun hHeld => ?_)
     clear hK K_
     (try simp only [pS])
     refine rC 5 (fun K_ hK => ?_)
     go_simp
     obtain ⟨g14, hg14⟩ : ∃ g, g = w1ap.heap.size := ⟨_, rfl⟩
     rw [← hg14]
     have bb : Below w1ap.heap.size w1ap (w1ap.alloc (.cells #[] 116)) := (Below.refl _ _).alloc (Nat.le_refl _) _
     have o14 : Ow entE 116 (w1ap.alloc (.cells #[] 116)) w.heap.size (.slice (some ⟨g14, 0, none⟩) 0 0) [] := (Ow.empty entE 116 w1ap hg14).more (by have := Bw1ap.size; omega)
     have z14 : g14 < (w1ap.alloc (.cells #[] 116)).heap.size := by simp; omega
     have Bw1apa := bnext Bw1ap bb
     replace o13 := o13.below bb
     have y14 := bb.size
     have ga14 := Nat.le_of_eq hg14
     have gb14 := Nat.le_of_eq hg14.symm
     clear bb hg14
     generalize w1ap.alloc (.cells #[] 116) = w1apa at *
     refine hK.out _ _ trivial (fun hHeld => ?_)
     clear hK K_
     (try simp only [pS])
     refine rC 9 (fun K_ hK => ?_)
     obtain ⟨n18, hn18⟩ : ∃ n, n = w1apa.heap.size := ⟨_, rfl⟩
     refine wp_append_rd _ entE (by decide) (.tmp 14) (.tmp 17) 77 rfl w.heap.size 116 _ _ _ Try.underlying77 hi0 hz0 hz1 hz2 rfl _ [] rfl o14 _ _ _ _ (l.drop (halfN l)) rfl (Rd.fromNone (B := 0) (halfN l) (by have := hzz.out; omega) (by have := hzz.out; omega)) (by simp) hlt2.out (by decide) Bw1apa.size ?_
     intro v18 w1apap o18 gg e18
     rw [List.nil_append] at o18
     rw [← hn18] at e18
     have na18 := Nat.le_of_eq hn18
     have nb18 := Nat.le_of_eq hn18.symm
     clear hn18
     have t18 : ∀ g, v18.ownBlock = some g → g < w1apap.heap.size := fun g h => (o18.within g h).2
     replace e18 : v18.ownBlock = some g14 ∨ v18.ownBlock = some n18 := e18
     have Bw1apap : Below w.heap.size w w1apap := Bw1apa.grown gg Bw1apa.size (fun g hg => (o14.within g hg).1)
     have y18 := gg.size
     replace o13 := o13.grown gg (Or.inr (fun h => by have := t13 g14 h; rcases e13 with h2 | h2 <;> (rw [h2] at h; have := Option.some.inj (show some _ = some g14 from h); omega)))
     clear gg
     refine hK.out _ _ trivial (fun hHeld => ?_)
     clear hK K_
     (try simp only [pS])
     refine rC 10 (fun K_ hK => ?_)
     go_simp
     refine hK.out _ _ trivial (fun hHeld => ?_)
     clear hK K_
     (try simp only [pS])
     refine rC 11 (fun K_ hK => ?_)
     go_simp
     refine hK.out _ _ trivial (fun hHeld => ?_)
     clear hK K_
     (try simp only [pS])
     refine wpAnyH_done (by kernel_rfl) ?_ _
     refine NoPanic.normal ?_
     obtain ⟨s1, F1, rfl, p1, q1, r1⟩ := entry_ow2 o13
     obtain ⟨s2, F2, rfl, p2, q2, r2⟩ := entry_ow2 o18
     go_wp2
     go_ret2
     exact ⟨s1, F1, s2, F2, rfl, p1, p2, q1, q2, fun x hx hy => by
      have a1 := r1 x hx
      have a2 := r2 x hy
      have a3 := t13 x a1
      have a4 := t18 x a2
      rcases e13 with h | h <;> rcases e18 with h' | h' <;> (rw [a1] at h; rw [a2] at h'; have := Option.some.inj h; have := Option.some.inj h'; omega), Bw1apap⟩
    ·go_simp
     obtain ⟨g14, hg14⟩ : ∃ g, g = w1a.heap.size := ⟨_, rfl⟩
     rw [← hg14]
     have bb : Below w1a.heap.size w1a (w1a.alloc (.cells #[] 116)) := (Below.refl _ _).alloc (Nat.le_refl _) _
     have o14 : Ow entE 116 (w1a.alloc (.cells #[] 116)) w.heap.size (.slice (some ⟨g14, 0, none⟩) 0 0) [] := (Ow.empty entE 116 w1a hg14).more (by have := Bw1a.size; omega)
     have z14 : g14 < (w1a.alloc (.cells #[] 116)).heap.size := by simp; omega
     have Bw1aa := bnext Bw1a bb
     replace o9 := o9.below bb
     have y14 := bb.size
     have ga14 := Nat.le_of_eq hg14
     have gb14 := Nat.le_of_eq hg14.symm
     clear bb hg14
     generalize w1a.alloc (.cells #[] 116) = w1aa at *
     refine hK.out _ _ trivial (fun hHeld => ?_)
     clear hK K_
     (try simp only [pS])
     refine rC 4 (fun K_ hK => ?_)
     obtain ⟨n13, hn13⟩ : ∃ n, n = w1aa.heap.size := ⟨_, rfl⟩
     refine wp_append_rd _ entE (by decide) (.tmp 9) (.tmp 12) 77 rfl w.heap.size 116 _ _ _ Try.underlying77 hi0 hz0 hz1 hz2 rfl _ [] rfl o9 _ _ _ _ (l.take (halfN l)) rfl (a0.out _ Bw1aa) (by simp) hlt1.out (by decide) Bw1aa.size ?_
     intro v13 w1aap o13 gg e13
     rw [List.nil_append] at o13
     rw [← hn13] at e13
     have na13 := Nat.le_of_eq hn13
     have nb13 := Nat.le_of_eq hn13.symm
     clear hn13
     have t13 : ∀ g, v13.ownBlock = some g → g < w1aap.heap.size := fun g h => (o13.within g h).2
     replace e13 : v13.ownBlock = some g9 ∨ v13.ownBlock = some n13 := e13
     have Bw1aap : Below w.heap.size w w1aap := Bw1aa.grown gg Bw1aa.size (fun g hg => (o9.within g hg).1)
     have y13 := gg.size
     replace o14 := o14.grown gg (Or.inr (fun h => by have := Option.some.inj (show some g14 = some g9 from h); omega))
     clear gg
     refine hK.out _ _ trivial (fun hHeld => ?_)
     clear hK K_
     (try simp only [pS])
     refine rC 9 (fun K_ hK => ?_)
     obtain ⟨n18, hn18⟩ : ∃ n, n = w1aap.heap.size := ⟨_, rfl⟩
     refine wp_append_rd _ entE (by decide) (.tmp 14) (.tmp 17) 77 rfl w.heap.size 116 _ _ _ Try.underlying77 hi0 hz0 hz1 hz2 rfl _ [] rfl o14 _ _ _ _ (l.drop (halfN l)) rfl (Rd.fromNone (B := 0) (halfN l) (by have := hzz.out; omega) (by have := hzz.out; omega)) (by simp) hlt2.out (by decide) Bw1aap.size ?_
     intro v18 w1aapp o18 gg e18
     rw [List.nil_append] at o18
     rw [← hn18] at e18
     have na18 := Nat.le_of_eq hn18
     have nb18 := Nat.le_of_eq hn18.symm
     clear hn18
     have t18 : ∀ g, v18.ownBlock = some g → g < w1aapp.heap.size := fun g h => (o18.within g h).2
     replace e18 : v18.ownBlock = some g14 ∨ v18.ownBlock = some n18 := e18
     have Bw1aapp : Below w.heap.size w w1aapp := Bw1aap.grown gg Bw1aap.size (fun g hg => (o14.within g hg).1)
     have y18 := gg.size
     replace o13 := o13.grown gg (Or.inr (fun h => by have := t13 g14 h; rcases e13 with h2 | h2 <;> (rw [h2] at h; have := Option.some.inj (show some _ = some g14 from h); omega)))
     clear gg
     refine hK.out _ _ trivial (fun hHeld => ?_)
     clear hK K_
     (try simp only [pS])
     refine rC 10 (fun K_ hK => ?_)
     go_simp
     refine hK.out _ _ trivial (fun hHeld => ?_)
     clear hK K_
     (try simp only [pS])
     refine rC 11 (fun K_ hK => ?_)
     go_simp
     refine hK.out _ _ trivial (fun hHeld => ?_)
     clear hK K_
     (try simp only [pS])
     refine wpAnyH_done (by kernel_rfl) ?_ _
     refine NoPanic.normal ?_
     obtain ⟨s1, F1, rfl, p1, q1, r1⟩ := entry_ow2 o13
     obtain ⟨s2, F2, rfl, p2, q2, r2⟩ := entry_ow2 o18
     go_wp2
     go_ret2
     exact ⟨s1, F1, s2, F2, rfl, p1, p2, q1, q2, fun x hx hy => by
      have a1 := r1 x hx
      have a2 := r2 x hy
      have a3 := t13 x a1
      have a4 := t18 x a2
      rcases e13 with h | h <;> rcases e18 with h' | h' <;> (rw [a1] at h; rw [a2] at h'; have := Option.some.inj h; have := Option.some.inj h'; omega), Bw1aapp⟩
   ·go_simp
    obtain ⟨g14, hg14⟩ : ∃ g, g = w1.heap.size := ⟨_, rfl⟩
    rw [← hg14]
    have bb : Below w1.heap.size w1 (w1.alloc (.cells #[] 116)) := (Below.refl _ _).alloc (Nat.le_refl _) _
    have o14 : Ow entE 116 (w1.alloc (.cells #[] 116)) w.heap.size (.slice (some ⟨g14, 0, none⟩) 0 0) [] := (Ow.empty entE 116 w1 hg14).more (by have := B1.size; omega)
    have z14 : g14 < (w1.alloc (.cells #[] 116)).heap.size := by simp; omega
    have Bw1a := bnext B1 bb
    have y14 := bb.size
    have ga14 := Nat.le_of_eq hg14
    have gb14 := Nat.le_of_eq hg14.symm
    clear bb hg14
    generalize w1.alloc (.cells #[] 116) = w1a at *
    refine hK.out _ _ trivial (fun hHeld => ?_)
    clear hK K_
    (try simp only [pS])
    refine rC 0 (fun K_ hK => ?_)
    go_simp
    obtain ⟨g9, hg9⟩ : ∃ g, g = w1a.heap.size := ⟨_, rfl⟩
    rw [← hg9]
    have bb : Below w1a.heap.size w1a (w1a.alloc (.cells #[] 116)) := (Below.refl _ _).alloc (Nat.le_refl _) _
    have o9 : Ow entE 116 (w1a.alloc (.cells #[] 116)) w.heap.size (.slice (some ⟨g9, 0, none⟩) 0 0) [] := (Ow.empty entE 116 w1a hg9).more (by have := Bw1a.size; omega)
    have z9 : g9 < (w1a.alloc (.cells #[] 116)).heap.size := by simp; omega
    have Bw1aa := bnext Bw1a bb
    replace o14 := o14.below bb
    have y9 := bb.size
    have ga9 := Nat.le_of_eq hg9
    have gb9 := Nat.le_of_eq hg9.symm
    clear bb hg9
    generalize w1a.alloc (.cells #[] 116) = w1aa at *
    refine hK.out _ _ trivial (fun hHeld => ?_)
    clear hK K_
    (try simp only [pS])
    refine rC 4 (fun K_ hK => ?_)
    obtain ⟨n13, hn13⟩ : ∃ n, n = w1aa.heap.size := ⟨_, rfl⟩
    refine wp_append_rd _ entE (by decide) (.tmp 9) (.tmp 12) 77 rfl w.heap.size 116 _ _ _ Try.underlying77 hi0 hz0 hz1 hz2 rfl _ [] rfl o9 _ _ _ _ (l.take (halfN l)) rfl (a0.out _ Bw1aa) (by simp) hlt1.out (by decide) Bw1aa.size ?_
    intro v13 w1aap o13 gg e13
    rw [List.nil_append] at o13
    rw [← hn13] at e13
    have na13 := Nat.le_of_eq hn13
    have nb13 := Nat.le_of_eq hn13.symm
    clear hn13
    have t13 : ∀ g, v13.ownBlock = some g → g < w1aap.heap.size := fun g h => (o13.within g h).2
    replace e13 : v13.ownBlock = some g9 ∨ v13.ownBlock = some n13 := e13
    have Bw1aap : Below w.heap.size w w1aap := Bw1aa.grown gg Bw1aa.size (fun g hg => (o9.within g hg).1)
    have y13 := gg.size
    replace o14 := o14.grown gg (Or.inr (fun h => by have := Option.some.inj (show some g14 = some g9 from h); omega))
    clear gg
    refine hK.out _ _ trivial (fun hHeld => ?_)
    clear hK K_
    (try simp only [pS])
    refine rC 9 (fun K_ hK => ?_)
    obtain ⟨n18, hn18⟩ : ∃ n, n = w1aap.heap.size := ⟨_, rfl⟩
    refine wp_append_rd _ entE (by decide) (.tmp 14) (.tmp 17) 77 rfl w.heap.size 116 _ _ _ Try.underlying77 hi0 hz0 hz1 hz2 rfl _ [] rfl o14 _ _ _ _ (l.drop (halfN l)) rfl (Rd.fromNone (B := 0) (halfN l) (by have := hzz.out; omega) (by have := hzz.out; omega)) (by simp) hlt2.out (by decide) Bw1aap.size ?_
    intro v18 w1aapp o18 gg e18
    rw [List.nil_append] at o18
    rw [← hn18] at e18
    have na18 := Nat.le_of_eq hn18
    have nb18 := Nat.le_of_eq hn18.symm
    clear hn18
    have t18 : ∀ g, v18.ownBlock = some g → g < w1aapp.heap.size := fun g h => (o18.within g h).2
    replace e18 : v18.ownBlock = some g14 ∨ v18.ownBlock = some n18 := e18
    have Bw1aapp : Below w.heap.size w w1aapp := Bw1aap.grown gg Bw1aap.size (fun g hg => (o14.within g hg).1)
    have y18 := gg.size
    replace o13 := o13.grown gg (Or.inr (fun h => by have := t13 g14 h; rcases e13 with h2 | h2 <;> (rw [h2] at h; have := Option.some.inj (show some _ = some g14 from h); omega)))
    clear gg
    refine hK.out _ _ trivial (fun hHeld => ?_)
    clear hK K_
    (try simp only [pS])
    refine rC 10 (fun K_ hK => ?_)
    go_simp
    refine hK.out _ _ trivial (fun hHeld => ?_)
    clear hK K_
    (try simp only [pS])
    refine rC 11 (fun K_ hK => ?_)
    go_simp
    refine hK.out _ _ trivial (fun hHeld => ?_)
    clear hK K_
    (try simp only [pS])
    refine wpAnyH_done (by kernel_rfl) ?_ _
    refine NoPanic.normal ?_
    obtain ⟨s1, F1, rfl, p1, q1, r1⟩ := entry_ow2 o13
    obtain ⟨s2, F2, rfl, p2, q2, r2⟩ := entry_ow2 o18
    go_wp2
    go_ret2
    exact ⟨s1, F1, s2, F2, rfl, p1, p2, q1, q2, fun x hx hy => by
     have a1 := r1 x hx
     have a2 := r2 x hy
     have a3 := t13 x a1
     have a4 := t18 x a2
     rcases e13 with h | h <;> rcases e18 with h' | h' <;> (rw [a1] at h; rw [a2] at h'; have := Option.some.inj h; have := Option.some.inj h'; omega), Bw1aapp⟩
  ·subst hk2
   refine Go.wp_region_noPanic ?_
   refine wp_region_held_drew (S := fun _ => True) (by kernel_rfl) trivial (fun hHeld => ?_)
   have B1 : Below w.heap.size w w.drew := (Below.refl _ _).drew
   generalize w.drew = w1 at *
   refine tY 1 ?_
   (try simp only [pS])
   refine tY 2 ?_
   (try simp only [pS])
   refine tY 3 ?_
   (try simp only [pS])
   refine tY 6 ?_
   (try simp only [pS])
   refine tY 7 ?_
   (try simp only [pS])
   refine tY 8 ?_
   (try simp only [pS])
   refine readyC2 0 5 rfl rfl (by kernel_rfl) (by rfl) (by rfl) (fun K_ hK => ?_) (fun K_ hK => ?_)
   ·go_simp
    obtain ⟨g9, hg9⟩ : ∃ g, g = w1.heap.size := ⟨_, rfl⟩
    rw [← hg9]
    have bb : Below w1.heap.size w1 (w1.alloc (.cells #[] 116)) := (Below.refl _ _).alloc (Nat.le_refl _) _
    have o9 : Ow entE 116 (w1.alloc (.cells #[] 116)) w.heap.size (.slice (some ⟨g9, 0, none⟩) 0 0) [] := (Ow.empty entE 116 w1 hg9).more (by have := B1.size; omega)
    have z9 : g9 < (w1.alloc (.cells #[] 116)).heap.size := by simp; omega
    have Bw1a := bnext B1 bb
    have y9 := bb.size
    have ga9 := Nat.le_of_eq hg9
    have gb9 := Nat.le_of_eq hg9.symm
    clear bb hg9
    generalize w1.alloc (.cells #[] 116) = w1a at *
    refine hK.out _ _ trivial (fun hHeld => ?_)
    clear hK K_
    (try simp only [pS])
    refine readyC2 4 5 rfl rfl (by kernel_rfl) (by rfl) (by rfl) (fun K_ hK => ?_) (fun K_ hK => ?_)
    ·obtain ⟨n13, hn13⟩ : ∃ n, n = w1a.heap.size := ⟨_, rfl⟩
     refine wp_append_rd _ entE (by decide) (.tmp 9) (.tmp 12) 77 rfl w.heap.size 116 _ _ _ Try.underlying77 hi0 hz0 hz1 hz2 rfl _ [] rfl o9 _ _ _ _ (l.take (halfN l)) rfl (a0.out _ Bw1a) (by simp) hlt1.out (by decide) Bw1a.size ?_
     intro v13 w1ap o13 gg e13
     rw [List.nil_append] at o13
     rw [← hn13] at e13
     have na13 := Nat.le_of_eq hn13
     have nb13 := Nat.le_of_eq hn13.symm
     clear hn13
     have t13 : ∀ g, v13.ownBlock = some g → g < w1ap.heap.size := fun g h => (o13.within g h).2
     replace e13 : v13.ownBlock = some g9 ∨ v13.ownBlock = some n13 := e13
     have Bw1ap : Below w.heap.size w w1ap := Bw1a.grown gg Bw1a.size (fun g hg => (o9.within g hg).1)
     have y13 := gg.size
     clear gg
     refine hK.out _ _ trivial (fun hHeld => ?_)
     clear hK K_
     (try simp only [pS])
     refine rC 5 (fun K_ hK => ?_)
     go_simp
     obtain ⟨g14, hg14⟩ : ∃ g, g = w1ap.heap.size := ⟨_, rfl⟩
     rw [← hg14]
     have bb : Below w1ap.heap.size w1ap (w1ap.alloc (.cells #[] 116)) := (Below.refl _ _).alloc (Nat.le_refl _) _
     have o14 : Ow entE 116 (w1ap.alloc (.cells #[] 116)) w.heap.size (.slice (some ⟨g14, 0, none⟩) 0 0) [] := (Ow.empty entE 116 w1ap hg14).more (by have := Bw1ap.size; omega)
     have z14 : g14 < (w1ap.alloc (.cells #[] 116)).heap.size := by simp; omega
     have Bw1apa := bnext Bw1ap bb
     replace o13 := o13.below bb
     have y14 := bb.size
     have ga14 := Nat.le_of_eq hg14
     have gb14 := Nat.le_of_eq hg14.symm
     clear bb hg14
     generalize w1ap.alloc (.cells #[] 116) = w1apa at *
     refine hK.out _ _ trivial (fun hHeld => ?_)
     clear hK K_
     (try simp only [pS])
     refine rC 9 (fun K_ hK => ?_)
     obtain ⟨n18, hn18⟩ : ∃ n, n = w1apa.heap.size := ⟨_, rfl⟩
     refine wp_append_rd _ entE (by decide) (.tmp 14) (.tmp 17) 77 rfl w.heap.size 116 _ _ _ Try.underlying77 hi0 hz0 hz1 hz2 rfl _ [] rfl o14 _ _ _ _ (l.drop (halfN l)) rfl (Rd.fromNone (B := 0) (halfN l) (by have := hzz.out; omega) (by have := hzz.out; omega)) (by simp) hlt2.out (by decide) Bw1apa.size ?_
     intro v18 w1apap o18 gg e18
     rw [List.nil_append] at o18
     rw [← hn18] at e18
     have na18 := Nat.le_of_eq hn18
     have nb18 := Nat.le_of_eq hn18.symm
     clear hn18
     have t18 : ∀ g, v18.ownBlock = some g → g < w1apap.heap.size := fun g h => (o18.within g h).2
     replace e18 : v18.ownBlock = some g14 ∨ v18.ownBlock = some n18 := e18
     have Bw1apap : Below w.heap.size w w1apap := Bw1apa.grown gg Bw1apa.size (fun g hg => (o14.within g hg).1)
     have y18 := gg.size
     replace o13 := o13.grown gg (Or.inr (fun h => by have := t13 g14 h; rcases e13 with h2 | h2 <;> (rw [h2] at h; have := Option.some.inj (show some _ = some g14 from h); omega)))
     clear gg
     refine hK.out _ _ trivial (fun hHeld => ?_)
     clear hK K_
     (try simp only [pS])
     refine rC 10 (fun K_ hK => ?_)
     go_simp
     refine hK.out _ _ trivial (fun hHeld => ?_)
     clear hK K_
     (try simp only [pS])
     refine rC 11 (fun K_ hK => ?_)
     go_simp
     refine hK.out _ _ trivial (fun hHeld => ?_)
     clear hK K_
     (try simp only [pS])
     refine wpAnyH_done (by kernel_rfl) ?_ _
     refine NoPanic.normal ?_
     obtain ⟨s1, F1, rfl, p1, q1, r1⟩ := entry_ow2 o13
     obtain ⟨s2, F2, rfl, p2, q2, r2⟩ := entry_ow2 o18
     go_wp2
     go_ret2
     exact ⟨s1, F1, s2, F2, rfl, p1, p2, q1, q2, fun x hx hy => by
      have a1 := r1 x hx
      have a2 := r2 x hy
      have a3 := t13 x a1
      have a4 := t18 x a2
      rcases e13 with h | h <;> rcases e18 with h' | h' <;> (rw [a1] at h; rw [a2] at h'; have := Option.some.inj h; have := Option.some.inj h'; omega), Bw1apap⟩
    ·go_simp
     obtain ⟨g14, hg14⟩ : ∃ g, g = w1a.heap.size := ⟨_, rfl⟩
     rw [← hg14]
     have bb : Below w1a.heap.size w1a (w1a.alloc (.cells #[] 116)) := (Below.refl _ _).alloc (Nat.le_refl _) _
     have o14 : Ow entE 116 (w1a.alloc (.cells #[] 116)) w.heap.size (.slice (some ⟨g14, 0, none⟩) 0 0) [] := (Ow.empty entE 116 w1a hg14).more (by have := Bw1a.size; omega)
     have z14 : g14 < (w1a.alloc (.cells #[] 116)).heap.size := by simp; omega
     have Bw1aa := bnext Bw1a bb
     replace o9 := o9.below bb
     have y14 := bb.size
     have ga14 := Nat.le_of_eq hg14
     have gb14 := Nat.le_of_eq hg14.symm
     clear bb hg14
     generalize w1a.alloc (.cells #[] 116) = w1aa at *
     refine hK.out _ _ trivial (fun hHeld => ?_)
     clear hK K_
     (try simp only [pS])
     refine rC 4 (fun K_ hK => ?_)
     obtain ⟨n13, hn13⟩ : ∃ n, n = w1aa.heap.size := ⟨_, rfl⟩
     refine wp_append_rd _ entE (by decide) (.tmp 9) (.tmp 12) 77 rfl w.heap.size 116 _ _ _ Try.underlying77 hi0 hz0 hz1 hz2 rfl _ [] rfl o9 _ _ _ _ (l.take (halfN l)) rfl (a0.out _ Bw1aa) (by simp) hlt1.out (by decide) Bw1aa.size ?_
     intro v13 w1aap o13 gg e13
     rw [List.nil_append] at o13
     rw [← hn13] at e13
     have na13 := Nat.le_of_eq hn13
     have nb13 := Nat.le_of_eq hn13.symm
     clear hn13
     have t13 : ∀ g, v13.ownBlock = some g → g < w1aap.heap.size := fun g h => (o13.within g h).2
     replace e13 : v13.ownBlock = some g9 ∨ v13.ownBlock = some n13 := e13
     have Bw1aap : Below w.heap.size w w1aap := Bw1aa.grown gg Bw1aa.size (fun g hg => (o9.within g hg).1)
     have y13 := gg.size
     replace o14 := o14.grown gg (Or.inr (fun h => by have := Option.some.inj (show some g14 = some g9 from h); omega))
     clear gg
     refine hK.out _ _ trivial (fun hHeld => ?_)
     clear hK K_
     (try simp only [pS])
     refine rC 9 (fun K_ hK => ?_)
     obtain ⟨n18, hn18⟩ : ∃ n, n = w1aap.heap.size := ⟨_, rfl⟩
     refine wp_append_rd _ entE (by decide) (.tmp 14) (.tmp 17) 77 rfl w.heap.size 116 _ _ _ Try.underlying77 hi0 hz0 hz1 hz2 rfl _ [] rfl o14 _ _ _ _ (l.drop (halfN l)) rfl (Rd.fromNone (B := 0) (halfN l) (by have := hzz.out; omega) (by have := hzz.out; omega)) (by simp) hlt2.out (by decide) Bw1aap.size ?_
     intro v18 w1aapp o18 gg e18
     rw [List.nil_append] at o18
     rw [← hn18] at e18
     have na18 := Nat.le_of_eq hn18
     have nb18 := Nat.le_of_eq hn18.symm
     clear hn18
     have t18 : ∀ g, v18.ownBlock = some g → g < w1aapp.heap.size := fun g h => (o18.within g h).2
     replace e18 : v18.ownBlock = some g14 ∨ v18.ownBlock = some n18 := e18
     have Bw1aapp : Below w.heap.size w w1aapp := Bw1aap.grown gg Bw1aap.size (fun g hg => (o14.within g hg).1)
     have y18 := gg.size
     replace o13 := o13.grown gg (Or.inr (fun h => by have := t13 g14 h; rcases e13 with h2 | h2 <;> (rw [h2] at h; have := Option.some.inj (show some _ = some g14 from h); omega)))
     clear gg
     refine hK.out _ _ trivial (fun hHeld => ?_)
     clear hK K_
     (try simp only [pS])
     refine rC 10 (fun K_ hK => ?_)
     go_simp
     refine hK.out _ _ trivial (fun hHeld => ?_)
     clear hK K_
     (try simp only [pS])
     refine rC 11 (fun K_ hK => ?_)
     go_simp
     refine hK.out _ _ trivial (fun hHeld => ?_)
     clear hK K_
     (try simp only [pS])
     refine wpAnyH_done (by kernel_rfl) ?_ _
     refine NoPanic.normal ?_
     obtain ⟨s1, F1, rfl, p1, q1, r1⟩ := entry_ow2 o13
     obtain ⟨s2, F2, rfl, p2, q2, r2⟩ := entry_ow2 o18
     go_wp2
     go_ret2
     exact ⟨s1, F1, s2, F2, rfl, p1, p2, q1, q2, fun x hx hy => by
      have a1 := r1 x hx
      have a2 := r2 x hy
      have a3 := t13 x a1
      have a4 := t18 x a2
      rcases e13 with h | h <;> rcases e18 with h' | h' <;> (rw [a1] at h; rw [a2] at h'; have := Option.some.inj h; have := Option.some.inj h'; omega), Bw1aapp⟩
   ·go_simp
    obtain ⟨g14, hg14⟩ : ∃ g, g = w1.heap.size := ⟨_, rfl⟩
    rw [← hg14]
    have bb : Below w1.heap.size w1 (w1.alloc (.cells #[] 116)) := (Below.refl _ _).alloc (Nat.le_refl _) _
    have o14 : Ow entE 116 (w1.alloc (.cells #[] 116)) w.heap.size (.slice (some ⟨g14, 0, none⟩) 0 0) [] := (Ow.empty entE 116 w1 hg14).more (by have := B1.size; omega)
    have z14 : g14 < (w1.alloc (.cells #[] 116)).heap.size := by simp; omega
    have Bw1a := bnext B1 bb
    have y14 := bb.size
    have ga14 := Nat.le_of_eq hg14
    have gb14 := Nat.le_of_eq hg14.symm
    clear bb hg14
    generalize w1.alloc (.cells #[] 116) = w1a at *
    refine hK.out _ _ trivial (fun hHeld => ?_)
    clear hK K_
    (try simp only [pS])
    refine rC 0 (fun K_ hK => ?_)
    go_simp
    obtain ⟨g9, hg9⟩ : ∃ g, g = w1a.heap.size := ⟨_, rfl⟩
    rw [← hg9]
    have bb : Below w1a.heap.size w1a (w1a.alloc (.cells #[] 116)) := (Below.refl _ _).alloc (Nat.le_refl _) _
    have o9 : Ow entE 116 (w1a.alloc (.cells #[] 116)) w.heap.size (.slice (some ⟨g9, 0, none⟩) 0 0) [] := (Ow.empty entE 116 w1a hg9).more (by have := Bw1a.size; omega)
    have z9 : g9 < (w1a.alloc (.cells #[] 116)).heap.size := by simp; omega
    have Bw1aa := bnext Bw1a bb
    replace o14 := o14.below bb
    have y9 := bb.size
    have ga9 := Nat.le_of_eq hg9
    have gb9 := Nat.le_of_eq hg9.symm
    clear bb hg9
    generalize w1a.alloc (.cells #[] 116) = w1aa at *
    refine hK.out _ _ trivial (fun hHeld => ?_)
    clear hK K_
    (try simp only [pS])
    refine rC 4 (fun K_ hK => ?_)
    obtain ⟨n13, hn13⟩ : ∃ n, n = w1aa.heap.size := ⟨_, rfl⟩
    refine wp_append_rd _ entE (by decide) (.tmp 9) (.tmp 12) 77 rfl w.heap.size 116 _ _ _ Try.underlying77 hi0 hz0 hz1 hz2 rfl _ [] rfl o9 _ _ _ _ (l.take (halfN l)) rfl (a0.out _ Bw1aa) (by simp) hlt1.out (by decide) Bw1aa.size ?_
    intro v13 w1aap o13 gg e13
    rw [List.nil_append] at o13
    rw [← hn13] at e13
    have na13 := Nat.le_of_eq hn13
    have nb13 := Nat.le_of_eq hn13.symm
    clear hn13
    have t13 : ∀ g, v13.ownBlock = some g → g < w1aap.heap.size := fun g h => (o13.within g h).2
    replace e13 : v13.ownBlock = some g9 ∨ v13.ownBlock = some n13 := e13
    have Bw1aap : Below w.heap.size w w1aap := Bw1aa.grown gg Bw1aa.size (fun g hg => (o9.within g hg).1)
    have y13 := gg.size
    replace o14 := o14.grown gg (Or.inr (fun h => by have := Option.some.inj (show some g14 = some g9 from h); omega))
    clear gg
    refine hK.out _ _ trivial (fun hHeld => ?_)
    clear hK K_
    (try simp only [pS])
    refine rC 9 (fun K_ hK => ?_)
    obtain ⟨n18, hn18⟩ : ∃ n, n = w1aap.heap.size := ⟨_, rfl⟩
    refine wp_append_rd _ entE (by decide) (.tmp 14) (.tmp 17) 77 rfl w.heap.size 116 _ _ _ Try.underlying77 hi0 hz0 hz1 hz2 rfl _ [] rfl o14 _ _ _ _ (l.drop (halfN l)) rfl (Rd.fromNone (B := 0) (halfN l) (by have := hzz.out; omega) (by have := hzz.out; omega)) (by simp) hlt2.out (by decide) Bw1aap.size ?_
    intro v18 w1aapp o18 gg e18
    rw [List.nil_append] at o18
    rw [← hn18] at e18
    have na18 := Nat.le_of_eq hn18
    have nb18 := Nat.le_of_eq hn18.symm
    clear hn18
    have t18 : ∀ g, v18.ownBlock = some g → g < w1aapp.heap.size := fun g h => (o18.within g h).2
    replace e18 : v18.ownBlock = some g14 ∨ v18.ownBlock = some n18 := e18
    have Bw1aapp : Below w.heap.size w w1aapp := Bw1aap.grown gg Bw1aap.size (fun g hg => (o14.within g hg).1)
    have y18 := gg.size
    replace o13 := o13.grown gg (Or.inr (fun h => by have := t13 g14 h; rcases e13 with h2 | h2 <;> (rw [h2] at h; have := Option.some.inj (show some _ = some g14 from h); omega)))
    clear gg
    refine hK.out _ _ trivial (fun hHeld => ?_)
    clear hK K_
    (try simp only [pS])
    refine rC 10 (fun K_ hK => ?_)
    go_simp
    refine hK.out _ _ trivial (fun hHeld => ?_)
    clear hK K_
    (try simp only [pS])
    refine rC 11 (fun K_ hK => ?_)
    go_simp
    refine hK.out _ _ trivial (fun hHeld => ?_)
    clear hK K_
    (try simp only [pS])
    refine wpAnyH_done (by kernel_rfl) ?_ _
    refine NoPanic.normal ?_
    obtain ⟨s1, F1, rfl, p1, q1, r1⟩ := entry_ow2 o13
    obtain ⟨s2, F2, rfl, p2, q2, r2⟩ := entry_ow2 o18
    go_wp2
    go_ret2
    exact ⟨s1, F1, s2, F2, rfl, p1, p2, q1, q2, fun x hx hy => by
     have a1 := r1 x hx
     have a2 := r2 x hy
     have a3 := t13 x a1
     have a4 := t18 x a2
     rcases e13 with h | h <;> rcases e18 with h' | h' <;> (rw [a1] at h; rw [a2] at h'; have := Option.some.inj h; have := Option.some.inj h'; omega), Bw1aapp⟩
 obtain ⟨b, o, _, rfl, hbb, _, c0, c1, c2, c3⟩ := h.entry hp
 clear c0 c1 c2 c3 hbb
 have hklt : halfN l < c ∨ c = halfN l := by omega
 go_enter Try.func69, Try.ntmps69
 go_wp2
 rcases hklt with hk2 | hk2
 ·have hck : ¬ c = halfN l := by omega
  refine Go.wp_region_noPanic ?_
  refine wp_region_held_drew (S := fun _ => True) (by kernel_rfl) trivial (fun hHeld => ?_)
  have B1 : Below w.heap.size w w.drew := (Below.refl _ _).drew
  generalize w.drew = w1 at *
  refine tY 1 ?_
  (try simp only [pS])
  refine tY 2 ?_
  (try simp only [pS])
  refine tY 3 ?_
  (try simp only [pS])
  refine tY 6 ?_
  (try simp only [pS])
  refine tY 7 ?_
  (try simp only [pS])
  refine tY 8 ?_
  (try simp only [pS])
  refine readyC2 0 5 rfl rfl (by kernel_rfl) (by rfl) (by rfl) (fun K_ hK => ?_) (fun K_ hK => ?_)
  ·go_simp
   obtain ⟨g9, hg9⟩ : ∃ g, g = w1.heap.size := ⟨_, rfl⟩
   rw [← hg9]
   have bb : Below w1.heap.size w1 (w1.alloc (.cells #[] 116)) := (Below.refl _ _).alloc (Nat.le_refl _) _
   have o9 : Ow entE 116 (w1.alloc (.cells #[] 116)) w.heap.size (.slice (some ⟨g9, 0, none⟩) 0 0) [] := (Ow.empty entE 116 w1 hg9).more (by have := B1.size; omega)
   have z9 : g9 < (w1.alloc (.cells #[] 116)).heap.size := by simp; omega
   have Bw1a := bnext B1 bb
   have y9 := bb.size
   have ga9 := Nat.le_of_eq hg9
   have gb9 := Nat.le_of_eq hg9.symm
   clear bb hg9
   generalize w1.alloc (.cells #[] 116) = w1a at *
   refine hK.out _ _ trivial (fun hHeld => ?_)
   clear hK K_
   (try simp only [pS])
   refine readyC2 4 5 rfl rfl (by kernel_rfl) (by rfl) (by rfl) (fun K_ hK => ?_) (fun K_ hK => ?_)
   ·obtain ⟨n13, hn13⟩ : ∃ n, n = w1a.heap.size := ⟨_, rfl⟩
    refine wp_append_rd _ entE (by decide) (.tmp 9) (.tmp 12) 77 rfl w.heap.size 116 _ _ _ Try.underlying77 hi0 hz0 hz1 hz2 rfl _ [] rfl o9 _ _ _ _ (l.take (halfN l)) rfl (a0.out _ Bw1a) (by simp) hlt1.out (by decide) Bw1a.size ?_
    intro v13 w1ap o13 gg e13
    rw [List.nil_append] at o13
    rw [← hn13] at e13
    have na13 := Nat.le_of_eq hn13
    have nb13 := Nat.le_of_eq hn13.symm
    clear hn13
    have t13 : ∀ g, v13.ownBlock = some g → g < w1ap.heap.size := fun g h => (o13.within g h).2
    replace e13 : v13.ownBlock = some g9 ∨ v13.ownBlock = some n13 := e13
    have Bw1ap : Below w.heap.size w w1ap := Bw1a.grown gg Bw1a.size (fun g hg => (o9.within g hg).1)
    have y13 := gg.size
    clear gg
    refine hK.out _ _ trivial (fun hHeld => ?_)
    clear hK K_
    (try simp only [pS])
    refine rC 5 (fun K_ hK => ?_)
    go_simp
    obtain ⟨g14, hg14⟩ : ∃ g, g = w1ap.heap.size := ⟨_, rfl⟩
    rw [← hg14]
    have bb : Below w1ap.heap.size w1ap (w1ap.alloc (.cells #[] 116)) := (Below.refl _ _).alloc (Nat.le_refl _) _
    have o14 : Ow entE 116 (w1ap.alloc (.cells #[] 116)) w.heap.size (.slice (some ⟨g14, 0, none⟩) 0 0) [] := (Ow.empty entE 116 w1ap hg14).more (by have := Bw1ap.size; omega)
    have z14 : g14 < (w1ap.alloc (.cells #[] 116)).heap.size := by simp; omega
    have Bw1apa := bnext Bw1ap bb
    replace o13 := o13.below bb
    have y14 := bb.size
    have ga14 := Nat.le_of_eq hg14
    have gb14 := Nat.le_of_eq hg14.symm
    clear bb hg14
    generalize w1ap.alloc (.cells #[] 116) = w1apa at *
    refine hK.out _ _ trivial (fun hHeld => ?_)
    clear hK K_
    (try simp only [pS])
    refine rC 9 (fun K_ hK => ?_)
    obtain ⟨n18, hn18⟩ : ∃ n, n = w1apa.heap.size := ⟨_, rfl⟩
    refine wp_append_rd _ entE (by decide) (.tmp 14) (.tmp 17) 77 rfl w.heap.size 116 _ _ _ Try.underlying77 hi0 hz0 hz1 hz2 rfl _ [] rfl o14 _ _ _ _ (l.drop (halfN l)) rfl ((h0.out _ Bw1apa).fromL (halfN l) hkl) (by simp) hlt2.out (by decide) Bw1apa.size ?_
    intro v18 w1apap o18 gg e18
    rw [List.nil_append] at o18
    rw [← hn18] at e18
    have na18 := Nat.le_of_eq hn18
    have nb18 := Nat.le_of_eq hn18.symm
    clear hn18
    have t18 : ∀ g, v18.ownBlock = some g → g < w1apap.heap.size := fun g h => (o18.within g h).2
    replace e18 : v18.ownBlock = some g14 ∨ v18.ownBlock = some n18 := e18
    have Bw1apap : Below w.heap.size w w1apap := Bw1apa.grown gg Bw1apa.size (fun g hg => (o14.within g hg).1)
    have y18 := gg.size
    replace o13 := o13.grown gg (Or.inr (fun h => by have := t13 g14 h; rcases e13 with h2 | h2 <;> (rw [h2] at h; have := Option.some.inj (show some _ = some g14 from h); omega)))
    clear gg
    refine hK.out _ _ trivial (fun hHeld => ?_)
    clear hK K_
    (try simp only [pS])
    refine rC 10 (fun K_ hK => ?_)
    go_simp
    refine hK.out _ _ trivial (fun hHeld => ?_)
    clear hK K_
    (try simp only [pS])
    refine rC 11 (fun K_ hK => ?_)
    go_simp
    refine hK.out _ _ trivial (fun hHeld => ?_)
    clear hK K_
    (try simp only [pS])
    refine wpAnyH_done (by kernel_rfl) ?_ _
    refine NoPanic.normal ?_
    obtain ⟨s1, F1, rfl, p1, q1, r1⟩ := entry_ow2 o13
    obtain ⟨s2, F2, rfl, p2, q2, r2⟩ := entry_ow2 o18
    go_wp2
    go_ret2
    exact ⟨s1, F1, s2, F2, rfl, p1, p2, q1, q2, fun x hx hy => by
     have a1 := r1 x hx
     have a2 := r2 x hy
     have a3 := t13 x a1
     have a4 := t18 x a2
     rcases e13 with h | h <;> rcases e18 with h' | h' <;> (rw [a1] at h; rw [a2] at h'; have := Option.some.inj h; have := Option.some.inj h'; omega), Bw1apap⟩
   ·go_simp
    obtain ⟨g14, hg14⟩ : ∃ g, g = w1a.heap.size := ⟨_, rfl⟩
    rw [← hg14]
    have bb : Below w1a.heap.size w1a (w1a.alloc (.cells #[] 116)) := (Below.refl _ _).alloc (Nat.le_refl _) _
    have o14 : Ow entE 116 (w1a.alloc (.cells #[] 116)) w.heap.size (.slice (some ⟨g14, 0, none⟩) 0 0) [] := (Ow.empty entE 116 w1a hg14).more (by have := Bw1a.size; omega)
    have z14 : g14 < (w1a.alloc (.cells #[] 116)).heap.size := by simp; omega
    have Bw1aa := bnext Bw1a bb
    replace o9 := o9.below bb
    have y14 := bb.size
    have ga14 := Nat.le_of_eq hg14
    have gb14 := Nat.le_of_eq hg14.symm
    clear bb hg14
    generalize w1a.alloc (.cells #[] 116) = w1aa at *
    refine hK.out _ _ trivial (fun hHeld => ?_)
    clear hK K_
    (try simp only [pS])
    refine rC 4 (fun K_ hK => ?_)
    obtain ⟨n13, hn13⟩ : ∃ n, n = w1aa.heap.size := ⟨_, rfl⟩
    refine wp_append_rd _ entE (by decide) (.tmp 9) (.tmp 12) 77 rfl w.heap.size 116 _ _ _ Try.underlying77 hi0 hz0 hz1 hz2 rfl _ [] rfl o9 _ _ _ _ (l.take (halfN l)) rfl (a0.out _ Bw1aa) (by simp) hlt1.out (by decide) Bw1aa.size ?_
    intro v13 w1aap o13 gg e13
    rw [List.nil_append] at o13
    rw [← hn13] at e13
    have na13 := Nat.le_of_eq hn13
    have nb13 := Nat.le_of_eq hn13.symm
    clear hn13
    have t13 : ∀ g, v13.ownBlock = some g → g < w1aap.heap.size := fun g h => (o13.within g h).2
    replace e13 : v13.ownBlock = some g9 ∨ v13.ownBlock = some n13 := e13
    have Bw1aap : Below w.heap.size w w1aap := Bw1aa.grown gg Bw1aa.size (fun g hg => (o9.within g hg).1)
    have y13 := gg.size
    replace o14 := o14.grown gg (Or.inr (fun h => by have := Option.some.inj (show some g14 = some g9 from h); omega))
    clear gg
    refine hK.out _ _ trivial (fun hHeld => ?_)
    clear hK K_
    (try simp only [pS])
    refine rC 9 (fun K_ hK => ?_)
    obtain ⟨n18, hn18⟩ : ∃ n, n = w1aap.heap.size := ⟨_, rfl⟩
    refine wp_append_rd _ entE (by decide) (.tmp 14) (.tmp 17) 77 rfl w.heap.size 116 _ _ _ Try.underlying77 hi0 hz0 hz1 hz2 rfl _ [] rfl o14 _ _ _ _ (l.drop (halfN l)) rfl ((h0.out _ Bw1aap).fromL (halfN l) hkl) (by simp) hlt2.out (by decide) Bw1aap.size ?_
    intro v18 w1aapp o18 gg e18
    rw [List.nil_append] at o18
    rw [← hn18] at e18
    have na18 := Nat.le_of_eq hn18
    have nb18 := Nat.le_of_eq hn18.symm
    clear hn18
    have t18 : ∀ g, v18.ownBlock = some g → g < w1aapp.heap.size := fun g h => (o18.within g h).2
    replace e18 : v18.ownBlock = some g14 ∨ v18.ownBlock = some n18 := e18
    have Bw1aapp : Below w.heap.size w w1aapp := Bw1aap.grown gg Bw1aap.size (fun g hg => (o14.within g hg).1)
    have y18 := gg.size
    replace o13 := o13.grown gg (Or.inr (fun h => by have := t13 g14 h; rcases e13 with h2 | h2 <;> (rw [h2] at h; have := Option.some.inj (show some _ = some g14 from h); omega)))
    clear gg
    refine hK.out _ _ trivial (fun hHeld => ?_)
    clear hK K_
    (try simp only [pS])
    refine rC 10 (fun K_ hK => ?_)
    go_simp
    refine hK.out _ _ trivial (fun hHeld => ?_)
    clear hK K_
    (try simp only [pS])
    refine rC 11 (fun K_ hK => ?_)
    go_simp
    refine hK.out _ _ trivial (fun hHeld => ?_)
    clear hK K_
    (try simp only [pS])
    refine wpAnyH_done (by kernel_rfl) ?_ _
    refine NoPanic.normal ?_
    obtain ⟨s1, F1, rfl, p1, q1, r1⟩ := entry_ow2 o13
    obtain ⟨s2, F2, rfl, p2, q2, r2⟩ := entry_ow2 o18
    go_wp2
    go_ret2
    exact ⟨s1, F1, s2, F2, rfl, p1, p2, q1, q2, fun x hx hy => by
     have a1 := r1 x hx
     have a2 := r2 x hy
     have a3 := t13 x a1
     have a4 := t18 x a2
     rcases e13 with h | h <;> rcases e18 with h' | h' <;> (rw [a1] at h; rw [a2] at h'; have := Option.some.inj h; have := Option.some.inj h'; omega), Bw1aapp⟩
  ·go_simp
   obtain ⟨g14, hg14⟩ : ∃ g, g = w1.heap.size := ⟨_, rfl⟩
   rw [← hg14]
   have bb : Below w1.heap.size w1 (w1.alloc (.cells #[] 116)) := (Below.refl _ _).alloc (Nat.le_refl _) _
   have o14 : Ow entE 116 (w1.alloc (.cells #[] 116)) w.heap.size (.slice (some ⟨g14, 0, none⟩) 0 0) [] := (Ow.empty entE 116 w1 hg14).more (by have := B1.size; omega)
   have z14 : g14 < (w1.alloc (.cells #[] 116)).heap.size := by simp; omega
   have Bw1a := bnext B1 bb
   have y14 := bb.size
   have ga14 := Nat.le_of_eq hg14
   have gb14 := Nat.le_of_eq hg14.symm
   clear bb hg14
   generalize w1.alloc (.cells #[] 116) = w1a at *
   refine hK.out _ _ trivial (fun hHeld => ?_)
   clear hK K_
   (try simp only [pS])
   refine rC 0 (fun K_ hK => ?_)
   go_simp
   obtain ⟨g9, hg9⟩ : ∃ g, g = w1a.heap.size := ⟨_, rfl⟩
   rw [← hg9]
   have bb : Below w1a.heap.size w1a (w1a.alloc (.cells #[] 116)) := (Below.refl _ _).alloc (Nat.le_refl _) _
   have o9 : Ow entE 116 (w1a.alloc (.cells #[] 116)) w.heap.size (.slice (some ⟨g9, 0, none⟩) 0 0) [] := (Ow.empty entE 116 w1a hg9).more (by have := Bw1a.size; omega)
   have z9 : g9 < (w1a.alloc (.cells #[] 116)).heap.size := by simp; omega
   have Bw1aa := bnext Bw1a bb
   replace o14 := o14.below bb
   have y9 := bb.size
   have ga9 := Nat.le_of_eq hg9
   have gb9 := Nat.le_of_eq hg9.symm
   clear bb hg9
   generalize w1a.alloc (.cells #[] 116) = w1aa at *
   refine hK.out _ _ trivial (fun hHeld => ?_)
   clear hK K_
   (try simp only [pS])
   refine rC 4 (fun K_ hK => ?_)
   obtain ⟨n13, hn13⟩ : ∃ n, n = w1aa.heap.size := ⟨_, rfl⟩
   refine wp_append_rd _ entE (by decide) (.tmp 9) (.tmp 12) 77 rfl w.heap.size 116 _ _ _ Try.underlying77 hi0 hz0 hz1 hz2 rfl _ [] rfl o9 _ _ _ _ (l.take (halfN l)) rfl (a0.out _ Bw1aa) (by simp) hlt1.out (by decide) Bw1aa.size ?_
   intro v13 w1aap o13 gg e13
   rw [List.nil_append] at o13
   rw [← hn13] at e13
   have na13 := Nat.le_of_eq hn13
   have nb13 := Nat.le_of_eq hn13.symm
   clear hn13
   have t13 : ∀ g, v13.ownBlock = some g → g < w1aap.heap.size := fun g h => (o13.within g h).2
   replace e13 : v13.ownBlock = some g9 ∨ v13.ownBlock = some n13 := e13
   have Bw1aap : Below w.heap.size w w1aap := Bw1aa.grown gg Bw1aa.size (fun g hg => (o9.within g hg).1)
   have y13 := gg.size
   replace o14 := o14.grown gg (Or.inr (fun h => by have := Option.some.inj (show some g14 = some g9 from h); omega))
   clear gg
   refine hK.out _ _ trivial (fun hHeld => ?_)
   clear hK K_
   (try simp only [pS])
   refine rC 9 (fun K_ hK => ?_)
   obtain ⟨n18, hn18⟩ : ∃ n, n = w1aap.heap.size := ⟨_, rfl⟩
   refine wp_append_rd _ entE (by decide) (.tmp 14) (.tmp 17) 77 rfl w.heap.size 116 _ _ _ Try.underlying77 hi0 hz0 hz1 hz2 rfl _ [] rfl o14 _ _ _ _ (l.drop (halfN l)) rfl ((h0.out _ Bw1aap).fromL (halfN l) hkl) (by simp) hlt2.out (by decide) Bw1aap.size ?_
   intro v18 w1aapp o18 gg e18
   rw [List.nil_append] at o18
   rw [← hn18] at e18
   have na18 := Nat.le_of_eq hn18
   have nb18 := Nat.le_of_eq hn18.symm
   clear hn18
   have t18 : ∀ g, v18.ownBlock = some g → g < w1aapp.heap.size := fun g h => (o18.within g h).2
   replace e18 : v18.ownBlock = some g14 ∨ v18.ownBlock = some n18 := e18
   have Bw1aapp : Below w.heap.size w w1aapp := Bw1aap.grown gg Bw1aap.size (fun g hg => (o14.within g hg).1)
   have y18 := gg.size
   replace o13 := o13.grown gg (Or.inr (fun h => by have := t13 g14 h; rcases e13 with h2 | h2 <;> (rw [h2] at h; have := Option.some.inj (show some _ = some g14 from h); omega)))
   clear gg
   refine hK.out _ _ trivial (fun hHeld => ?_)
   clear hK K_
   (try simp only [pS])
   refine rC 10 (fun K_ hK => ?_)
   go_simp
   refine hK.out _ _ trivial (fun hHeld => ?_)
   clear hK K_
   (try simp only [pS])
   refine rC 11 (fun K_ hK => ?_)
   go_simp
   refine hK.out _ _ trivial (fun hHeld => ?_)
   clear hK K_
   (try simp only [pS])
   refine wpAnyH_done (by kernel_rfl) ?_ _
   refine NoPanic.normal ?_
   obtain ⟨s1, F1, rfl, p1, q1, r1⟩ := entry_ow2 o13
   obtain ⟨s2, F2, rfl, p2, q2, r2⟩ := entry_ow2 o18
   go_wp2
   go_ret2
   exact ⟨s1, F1, s2, F2, rfl, p1, p2, q1, q2, fun x hx hy => by
    have a1 := r1 x hx
    have a2 := r2 x hy
    have a3 := t13 x a1
    have a4 := t18 x a2
    rcases e13 with h | h <;> rcases e18 with h' | h' <;> (rw [a1] at h; rw [a2] at h'; have := Option.some.inj h; have := Option.some.inj h'; omega), Bw1aapp⟩
 ·subst hk2
  refine Go.wp_region_noPanic ?_
  refine wp_region_held_drew (S := fun _ => True) (by kernel_rfl) trivial (fun hHeld => ?_)
  have B1 : Below w.heap.size w w.drew := (Below.refl _ _).drew
  generalize w.drew = w1 at *
  refine tY 1 ?_
  (try simp only [pS])
  refine tY 2 ?_
  (try simp only [pS])
  refine tY 3 ?_
  (try simp only [pS])
  refine tY 6 ?_
  (try simp only [pS])
  refine tY 7 ?_
  (try simp only [pS])
  refine tY 8 ?_
  (try simp only [pS])
  refine readyC2 0 5 rfl rfl (by kernel_rfl) (by rfl) (by rfl) (fun K_ hK => ?_) (fun K_ hK => ?_)
  ·go_simp
   obtain ⟨g9, hg9⟩ : ∃ g, g = w1.heap.size := ⟨_, rfl⟩
   rw [← hg9]
   have bb : Below w1.heap.size w1 (w1.alloc (.cells #[] 116)) := (Below.refl _ _).alloc (Nat.le_refl _) _
   have o9 : Ow entE 116 (w1.alloc (.cells #[] 116)) w.heap.size (.slice (some ⟨g9, 0, none⟩) 0 0) [] := (Ow.empty entE 116 w1 hg9).more (by have := B1.size; omega)
   have z9 : g9 < (w1.alloc (.cells #[] 116)).heap.size := by simp; omega
   have Bw1a := bnext B1 bb
   have y9 := bb.size
   have ga9 := Nat.le_of_eq hg9
   have gb9 := Nat.le_of_eq hg9.symm
   clear bb hg9
   generalize w1.alloc (.cells #[] 116) = w1a at *
   refine hK.out _ _ trivial (fun hHeld => ?_)
   clear hK K_
   (try simp only [pS])
   refine readyC2 4 5 rfl rfl (by kernel_rfl) (by rfl) (by rfl) (fun K_ hK => ?_) (fun K_ hK => ?_)
   ·obtain ⟨n13, hn13⟩ : ∃ n, n = w1a.heap.size := ⟨_, rfl⟩
    refine wp_append_rd _ entE (by decide) (.tmp 9) (.tmp 12) 77 rfl w.heap.size 116 _ _ _ Try.underlying77 hi0 hz0 hz1 hz2 rfl _ [] rfl o9 _ _ _ _ (l.take (halfN l)) rfl (a0.out _ Bw1a) (by simp) hlt1.out (by decide) Bw1a.size ?_
    intro v13 w1ap o13 gg e13
    rw [List.nil_append] at o13
    rw [← hn13] at e13
    have na13 := Nat.le_of_eq hn13
    have nb13 := Nat.le_of_eq hn13.symm
    clear hn13
    have t13 : ∀ g, v13.ownBlock = some g → g < w1ap.heap.size := fun g h => (o13.within g h).2
    replace e13 : v13.ownBlock = some g9 ∨ v13.ownBlock = some n13 := e13
    have Bw1ap : Below w.heap.size w w1ap := Bw1a.grown gg Bw1a.size (fun g hg => (o9.within g hg).1)
    have y13 := gg.size
    clear gg
    refine hK.out _ _ trivial (fun hHeld => ?_)
    clear hK K_
    (try simp only [pS])
    refine rC 5 (fun K_ hK => ?_)
    go_simp
    obtain ⟨g14, hg14⟩ : ∃ g, g = w1ap.heap.size := ⟨_, rfl⟩
    rw [← hg14]
    have bb : Below w1ap.heap.size w1ap (w1ap.alloc (.cells #[] 116)) := (Below.refl _ _).alloc (Nat.le_refl _) _
    have o14 : Ow entE 116 (w1ap.alloc (.cells #[] 116)) w.heap.size (.slice (some ⟨g14, 0, none⟩) 0 0) [] := (Ow.empty entE 116 w1ap hg14).more (by have := Bw1ap.size; omega)
    have z14 : g14 < (w1ap.alloc (.cells #[] 116)).heap.size := by simp; omega
    have Bw1apa := bnext Bw1ap bb
    replace o13 := o13.below bb
    have y14 := bb.size
    have ga14 := Nat.le_of_eq hg14
    have gb14 := Nat.le_of_eq hg14.symm
    clear bb hg14
    generalize w1ap.alloc (.cells #[] 116) = w1apa at *
    refine hK.out _ _ trivial (fun hHeld => ?_)
    clear hK K_
    (try simp only [pS])
    refine rC 9 (fun K_ hK => ?_)
    obtain ⟨n18, hn18⟩ : ∃ n, n = w1apa.heap.size := ⟨_, rfl⟩
    refine wp_append_rd _ entE (by decide) (.tmp 14) (.tmp 17) 77 rfl w.heap.size 116 _ _ _ Try.underlying77 hi0 hz0 hz1 hz2 rfl _ [] rfl o14 _ _ _ _ (l.drop (halfN l)) rfl (Rd.fromNone (B := 0) (halfN l) (by omega) (by omega)) (by simp) hlt2.out (by decide) Bw1apa.size ?_
    intro v18 w1apap o18 gg e18
    rw [List.nil_append] at o18
    rw [← hn18] at e18
    have na18 := Nat.le_of_eq hn18
    have nb18 := Nat.le_of_eq hn18.symm
    clear hn18
    have t18 : ∀ g, v18.ownBlock = some g → g < w1apap.heap.size := fun g h => (o18.within g h).2
    replace e18 : v18.ownBlock = some g14 ∨ v18.ownBlock = some n18 := e18
    have Bw1apap : Below w.heap.size w w1apap := Bw1apa.grown gg Bw1apa.size (fun g hg => (o14.within g hg).1)
    have y18 := gg.size
    replace o13 := o13.grown gg (Or.inr (fun h => by have := t13 g14 h; rcases e13 with h2 | h2 <;> (rw [h2] at h; have := Option.some.inj (show some _ = some g14 from h); omega)))
    clear gg
    refine hK.out _ _ trivial (fun hHeld => ?_)
    clear hK K_
    (try simp only [pS])
    refine rC 10 (fun K_ hK => ?_)
    go_simp
    refine hK.out _ _ trivial (fun hHeld => ?_)
    clear hK K_
    (try simp only [pS])
    refine rC 11 (fun K_ hK => ?_)
    go_simp
    refine hK.out _ _ trivial (fun hHeld => ?_)
    clear hK K_
    (try simp only [pS])
    refine wpAnyH_done (by kernel_rfl) ?_ _
    refine NoPanic.normal ?_
    obtain ⟨s1, F1, rfl, p1, q1, r1⟩ := entry_ow2 o13
    obtain ⟨s2, F2, rfl, p2, q2, r2⟩ := entry_ow2 o18
    go_wp2
    go_ret2
    exact ⟨s1, F1, s2, F2, rfl, p1, p2, q1, q2, fun x hx hy => by
     have a1 := r1 x hx
     have a2 := r2 x hy
     have a3 := t13 x a1
     have a4 := t18 x a2
     rcases e13 with h | h <;> rcases e18 with h' | h' <;> (rw [a1] at h; rw [a2] at h'; have := Option.some.inj h; have := Option.some.inj h'; omega), Bw1apap⟩
   ·go_simp
    obtain ⟨g14, hg14⟩ : ∃ g, g = w1a.heap.size := ⟨_, rfl⟩
    rw [← hg14]
    have bb : Below w1a.heap.size w1a (w1a.alloc (.cells #[] 116)) := (Below.refl _ _).alloc (Nat.le_refl _) _
    have o14 : Ow entE 116 (w1a.alloc (.cells #[] 116)) w.heap.size (.slice (some ⟨g14, 0, none⟩) 0 0) [] := (Ow.empty entE 116 w1a hg14).more (by have := Bw1a.size; omega)
    have z14 : g14 < (w1a.alloc (.cells #[] 116)).heap.size := by simp; omega
    have Bw1aa := bnext Bw1a bb
    replace o9 := o9.below bb
    have y14 := bb.size
    have ga14 := Nat.le_of_eq hg14
    have gb14 := Nat.le_of_eq hg14.symm
    clear bb hg14
    generalize w1a.alloc (.cells #[] 116) = w1aa at *
    refine hK.out _ _ trivial (fun hHeld => ?_)
    clear hK K_
    (try simp only [pS])
    refine rC 4 (fun K_ hK => ?_)
    obtain ⟨n13, hn13⟩ : ∃ n, n = w1aa.heap.size := ⟨_, rfl⟩
    refine wp_append_rd _ entE (by decide) (.tmp 9) (.tmp 12) 77 rfl w.heap.size 116 _ _ _ Try.underlying77 hi0 hz0 hz1 hz2 rfl _ [] rfl o9 _ _ _ _ (l.take (halfN l)) rfl (a0.out _ Bw1aa) (by simp) hlt1.out (by decide) Bw1aa.size ?_
    intro v13 w1aap o13 gg e13
    rw [List.nil_append] at o13
    rw [← hn13] at e13
    have na13 := Nat.le_of_eq hn13
    have nb13 := Nat.le_of_eq hn13.symm
    clear hn13
    have t13 : ∀ g, v13.ownBlock = some g → g < w1aap.heap.size := fun g h => (o13.within g h).2
    replace e13 : v13.ownBlock = some g9 ∨ v13.ownBlock = some n13 := e13
    have Bw1aap : Below w.heap.size w w1aap := Bw1aa.grown gg Bw1aa.size (fun g hg => (o9.within g hg).1)
    have y13 := gg.size
    replace o14 := o14.grown gg (Or.inr (fun h => by have := Option.some.inj (show some g14 = some g9 from h); omega))
    clear gg
    refine hK.out _ _ trivial (fun hHeld => ?_)
    clear hK K_
    (try simp only [pS])
    refine rC 9 (fun K_ hK => ?_)
    obtain ⟨n18, hn18⟩ : ∃ n, n = w1aap.heap.size := ⟨_, rfl⟩
    refine wp_append_rd _ entE (by decide) (.tmp 14) (.tmp 17) 77 rfl w.heap.size 116 _ _ _ Try.underlying77 hi0 hz0 hz1 hz2 rfl _ [] rfl o14 _ _ _ _ (l.drop (halfN l)) rfl (Rd.fromNone (B := 0) (halfN l) (by omega) (by omega)) (by simp) hlt2.out (by decide) Bw1aap.size ?_
    intro v18 w1aapp o18 gg e18
    rw [List.nil_append] at o18
    rw [← hn18] at e18
    have na18 := Nat.le_of_eq hn18
    have nb18 := Nat.le_of_eq hn18.symm
    clear hn18
    have t18 : ∀ g, v18.ownBlock = some g → g < w1aapp.heap.size := fun g h => (o18.within g h).2
    replace e18 : v18.ownBlock = some g14 ∨ v18.ownBlock = some n18 := e18
    have Bw1aapp : Below w.heap.size w w1aapp := Bw1aap.grown gg Bw1aap.size (fun g hg => (o14.within g hg).1)
    have y18 := gg.size
    replace o13 := o13.grown gg (Or.inr (fun h => by have := t13 g14 h; rcases e13 with h2 | h2 <;> (rw [h2] at h; have := Option.some.inj (show some _ = some g14 from h); omega)))
    clear gg
    refine hK.out _ _ trivial (fun hHeld => ?_)
    clear hK K_
    (try simp only [pS])
    refine rC 10 (fun K_ hK => ?_)
    go_simp
    refine hK.out _ _ trivial (fun hHeld => ?_)
    clear hK K_
    (try simp only [pS])
    refine rC 11 (fun K_ hK => ?_)
    go_simp
    refine hK.out _ _ trivial (fun hHeld => ?_)
    clear hK K_
    (try simp only [pS])
    refine wpAnyH_done (by kernel_rfl) ?_ _
    refine NoPanic.normal ?_
    obtain ⟨s1, F1, rfl, p1, q1, r1⟩ := entry_ow2 o13
    obtain ⟨s2, F2, rfl, p2, q2, r2⟩ := entry_ow2 o18
    go_wp2
    go_ret2
    exact ⟨s1, F1, s2, F2, rfl, p1, p2, q1, q2, fun x hx hy => by
     have a1 := r1 x hx
     have a2 := r2 x hy
     have a3 := t13 x a1
     have a4 := t18 x a2
     rcases e13 with h | h <;> rcases e18 with h' | h' <;> (rw [a1] at h; rw [a2] at h'; have := Option.some.inj h; have := Option.some.inj h'; omega), Bw1aapp⟩
  ·go_simp
   obtain ⟨g14, hg14⟩ : ∃ g, g = w1.heap.size := ⟨_, rfl⟩
   rw [← hg14]
   have bb : Below w1.heap.size w1 (w1.alloc (.cells #[] 116)) := (Below.refl _ _).alloc (Nat.le_refl _) _
   have o14 : Ow entE 116 (w1.alloc (.cells #[] 116)) w.heap.size (.slice (some ⟨g14, 0, none⟩) 0 0) [] := (Ow.empty entE 116 w1 hg14).more (by have := B1.size; omega)
   have z14 : g14 < (w1.alloc (.cells #[] 116)).heap.size := by simp; omega
   have Bw1a := bnext B1 bb
   have y14 := bb.size
   have ga14 := Nat.le_of_eq hg14
   have gb14 := Nat.le_of_eq hg14.symm
   clear bb hg14
   generalize w1.alloc (.cells #[] 116) = w1a at *
   refine hK.out _ _ trivial (fun hHeld => ?_)
   clear hK K_
   (try simp only [pS])
   refine rC 0 (fun K_ hK => ?_)
   go_simp
   obtain ⟨g9, hg9⟩ : ∃ g, g = w1a.heap.size := ⟨_, rfl⟩
   rw [← hg9]
   have bb : Below w1a.heap.size w1a (w1a.alloc (.cells #[] 116)) := (Below.refl _ _).alloc (Nat.le_refl _) _
   have o9 : Ow entE 116 (w1a.alloc (.cells #[] 116)) w.heap.size (.slice (some ⟨g9, 0, none⟩) 0 0) [] := (Ow.empty entE 116 w1a hg9).more (by have := Bw1a.size; omega)
   have z9 : g9 < (w1a.alloc (.cells #[] 116)).heap.size := by simp; omega
   have Bw1aa := bnext Bw1a bb
   replace o14 := o14.below bb
   have y9 := bb.size
   have ga9 := Nat.le_of_eq hg9
   have gb9 := Nat.le_of_eq hg9.symm
   clear bb hg9
   generalize w1a.alloc (.cells #[] 116) = w1aa at *
   refine hK.out _ _ trivial (fun hHeld => ?_)
   clear hK K_
   (try simp only [pS])
   refine rC 4 (fun K_ hK => ?_)
   obtain ⟨n13, hn13⟩ : ∃ n, n = w1aa.heap.size := ⟨_, rfl⟩
   refine wp_append_rd _ entE (by decide) (.tmp 9) (.tmp 12) 77 rfl w.heap.size 116 _ _ _ Try.underlying77 hi0 hz0 hz1 hz2 rfl _ [] rfl o9 _ _ _ _ (l.take (halfN l)) rfl (a0.out _ Bw1aa) (by simp) hlt1.out (by decide) Bw1aa.size ?_
   intro v13 w1aap o13 gg e13
   rw [List.nil_append] at o13
   rw [← hn13] at e13
   have na13 := Nat.le_of_eq hn13
   have nb13 := Nat.le_of_eq hn13.symm
   clear hn13
   have t13 : ∀ g, v13.ownBlock = some g → g < w1aap.heap.size := fun g h => (o13.within g h).2
   replace e13 : v13.ownBlock = some g9 ∨ v13.ownBlock = some n13 := e13
   have Bw1aap : Below w.heap.size w w1aap := Bw1aa.grown gg Bw1aa.size (fun g hg => (o9.within g hg).1)
   have y13 := gg.size
   replace o14 := o14.grown gg (Or.inr (fun h => by have := Option.some.inj (show some g14 = some g9 from h); omega))
   clear gg
   refine hK.out _ _ trivial (fun hHeld => ?_)
   clear hK K_
   (try simp only [pS])
   refine rC 9 (fun K_ hK => ?_)
   obtain ⟨n18, hn18⟩ : ∃ n, n = w1aap.heap.size := ⟨_, rfl⟩
   refine wp_append_rd _ entE (by decide) (.tmp 14) (.tmp 17) 77 rfl w.heap.size 116 _ _ _ Try.underlying77 hi0 hz0 hz1 hz2 rfl _ [] rfl o14 _ _ _ _ (l.drop (halfN l)) rfl (Rd.fromNone (B := 0) (halfN l) (by omega) (by omega)) (by simp) hlt2.out (by decide) Bw1aap.size ?_
   intro v18 w1aapp o18 gg e18
   rw [List.nil_append] at o18
   rw [← hn18] at e18
   have na18 := Nat.le_of_eq hn18
   have nb18 := Nat.le_of_eq hn18.symm
   clear hn18
   have t18 : ∀ g, v18.ownBlock = some g → g < w1aapp.heap.size := fun g h => (o18.within g h).2
   replace e18 : v18.ownBlock = some g14 ∨ v18.ownBlock = some n18 := e18
   have Bw1aapp : Below w.heap.size w w1aapp := Bw1aap.grown gg Bw1aap.size (fun g hg => (o14.within g hg).1)
   have y18 := gg.size
   replace o13 := o13.grown gg (Or.inr (fun h => by have := t13 g14 h; rcases e13 with h2 | h2 <;> (rw [h2] at h; have := Option.some.inj (show some _ = some g14 from h); omega)))
   clear gg
   refine hK.out _ _ trivial (fun hHeld => ?_)
   clear hK K_
   (try simp only [pS])
   refine rC 10 (fun K_ hK => ?_)
   go_simp
   refine hK.out _ _ trivial (fun hHeld => ?_)
   clear hK K_
   (try simp only [pS])
   refine rC 11 (fun K_ hK => ?_)
   go_simp
   refine hK.out _ _ trivial (fun hHeld => ?_)
   clear hK K_
   (try simp only [pS])
   refine wpAnyH_done (by kernel_rfl) ?_ _
   refine NoPanic.normal ?_
   obtain ⟨s1, F1, rfl, p1, q1, r1⟩ := entry_ow2 o13
   obtain ⟨s2, F2, rfl, p2, q2, r2⟩ := entry_ow2 o18
   go_wp2
   go_ret2
   exact ⟨s1, F1, s2, F2, rfl, p1, p2, q1, q2, fun x hx hy => by
    have a1 := r1 x hx
    have a2 := r2 x hy
    have a3 := t13 x a1
    have a4 := t18 x a2
    rcases e13 with h | h <;> rcases e18 with h' | h' <;> (rw [a1] at h; rw [a2] at h'; have := Option.some.inj h; have := Option.some.inj h'; omega), Bw1aapp⟩
end Go.Proofs.Ytonlnjdempbfoaa
end
section
namespace Go.Proofs.Ytonlnjdempbfoaa
open Go.RowKit
set_option maxRecDepth 100000
set_option maxHeartbeats 2000000
set_option linter.unusedVariables false
set_option linter.unusedSimpArgs false
theorem specDeedOk_any (d : Deed) (s : Sl) (w : World) (h : deedD.rd w w.heap.size d s) :
  Calls Try.prog 45 #[deedW d s] w fun e w' => e = .returned (.bool (deedOk d)) ∧ Below w.heap.size w w' := by
 cases a0 : inB d.kind 1 8
 case true =>
  have : d.kind = 1 ∨ d.kind = 2 ∨ d.kind = 3 ∨ d.kind = 4 ∨ d.kind = 5 ∨ d.kind = 6 ∨ d.kind = 7 ∨ d.kind = 8 := by
   simp [inB] at a0
   omega
  rcases this with e | e | e | e | e | e | e | e
  ·exact specDeedOk1 d s w e h
  ·exact specDeedOk2 d s w e h
  ·exact specDeedOk3 d s w e h
  ·exact specDeedOk4 d s w e h
  ·exact specDeedOk5 d s w e h
  ·exact specDeedOk6 d s w e h
  ·exact specDeedOk7 d s w e h
  ·exact specDeedOk8 d s w e h
 have H := Lib.hid (show deedOk d = false by simp [deedOk, a0])
 clear h
 obtain ⟨A, n, c⟩ := s
 obtain ⟨kd, rn, p, tk, ty, wk, dr⟩ := d
 replace a0 : inB kd 1 8 = false := a0
 have X := DBox.new 37 [.int .i64 kd, .int .i64 rn, .int .i64 p.prio, .int .i64 p.most, .int .i64 p.wait, .int .i64 p.tasks, .slice A n c, .int .i64 tk, .int .i64 ty, .int .i64 wk, .int .i64 dr] w (b := w.heap.size) rfl
 have B0 : Below w.heap.size w (w.alloc (.cells #[.int .i64 kd, .int .i64 rn, .int .i64 p.prio, .int .i64 p.most, .int .i64 p.wait, .int .i64 p.tasks, .slice A n c, .int .i64 tk, .int .i64 ty, .int .i64 wk, .int .i64 dr] 37)) := by repeat (first | exact Below.refl _ _ | refine Below.alloc ?_ (by simp <;> omega) _)
 go_enter Try.func45, Try.ntmps45
 go_wp2_with (go_at_call 30; refine (l01In_any _ _ _ _).mono ?_; rintro e w9 ⟨rfl, rfl⟩; (try (with_reducible rw [a0])); dsimp only)
 go_ret
 exact ⟨ret_bool H.out.symm, B0⟩
end Go.Proofs.Ytonlnjdempbfoaa
end
section
namespace Go.Proofs.Ytonlnjdempbfoaa
open Go.RowKit
set_option maxRecDepth 100000
set_option maxHeartbeats 1000000
set_option linter.unusedVariables false
set_option linter.unusedSimpArgs false
theorem since_at {l : List Note} {k : Nat} (h : k < l.length) (q : Int) : sinceN (l.drop k) q = if l[k].seq ≤ q then sinceN (l.drop (k + 1)) q else if l[k].seq - 1 = q then l[k] :: sinceN (l.drop (k + 1)) l[k].seq else [] := by
 rw [List.drop_eq_getElem_cons h, sinceN]
theorem since_cnt : ∀ (l : List Note) (q : Int), cntL cntNote (sinceN l q) ≤ cntL cntNote l
 | [], q => by simp [sinceN, cntL]
 | x :: l, q => by
  have e : ∀ (x : Note) l, cntL cntNote (x :: l) = 1 + cntNote x + cntL cntNote l := fun x l => by unfold cntL; simp; omega
  have h1 := since_cnt l q
  have h2 := since_cnt l x.seq
  rw [sinceN, e]
  split
  ·omega
  ·split
   ·rw [e]; omega
   ·simp [cntL]
theorem implSince_own (l : List Note) (s : Sl) (q : Int) (w : World) (hl : cntL cntNote l ≤ 2000000) (hq : 0 ≤ q ∧ q ≤ 9223372036854775807) (hw : ∀ x ∈ l, x.seq ≤ 9223372036854775807) (h : RdL noteD w w.heap.size s.v l) :
  Calls Try.prog 13 #[.slice s.a s.n s.c, .int .i64 q] w (OwnPost (Dt.list noteD) slV (sinceN l q) w) := by
 obtain ⟨A, n, c⟩ := s
 obtain ⟨A', c', hv, -⟩ := h.form
 simp only [Sl.v, Value.slice.injEq] at hv
 obtain ⟨rfl, rfl, rfl⟩ := hv
 have hll : l.length ≤ 2000000 := Nat.le_trans (cntL_len _ _) hl
 have hcc : ∀ k (hk : k < l.length), cntNote l[k] ≤ 2000000 := fun k hk => by have := cntL_mem (cnt := cntNote) (List.getElem_mem hk); omega
 have hww := Lib.hid (fun k (hk : k < l.length) => hw _ (List.getElem_mem hk))
 clear hl hw
 obtain ⟨i0, hi0, hz0, hz1, hz2⟩ := info_parts note_infoD
 go_enter Try.func13, Try.ntmps13
 go_wp2
 go_loopw [5, 6, 12] (fun t lastv i wr => ∃ (k : Nat) (v : Value) (u : Int) (acc : List Note), k ≤ l.length ∧ i = .int .i64 k ∧ v = t ∧ lastv = .int .i64 u ∧ 0 ≤ u ∧ acc.length ≤ k ∧ Hid (sinceN l q = acc ++ sinceN (l.drop k) u) ∧ Hid (Bls noteD 39 wr w.heap.size v acc) ∧ Below w.heap.size w wr) (fun _ _ i _ => l.length - (intOf i).toNat)
 case atStart => exact ⟨0, _, q, [], Nat.zero_le _, rfl, rfl, rfl, hq.1, Nat.le_refl _, (by show sinceN l q = _; simp), ⟨[], rfl, Bld.nil _ _ _ _⟩, Below.refl _ _⟩
 case round =>
  clear hq
  obtain ⟨k, v, u, acc, hk, rfl, rfl, rfl, hu0, hak, hS, hB0, hb⟩ := hrel
  by_cases hlt : k < l.length
  ·obtain ⟨b, o, s', rfl, hbb, hr, c0, c1, c2, c3, c4, c5, c6, c7, c8, c9, c10, c11⟩ := (h.below hb).note hlt
   have hx : ∀ W, Below wr.heap.size wr W → noteD.rd W W.heap.size l[k] s' := fun W hW => noteD.rd_more (noteD.rd_below (noteD.rd_more hr hb.size) hW) hW.size
   have hltI : (k : Int) < (l.length : Int) := by omega
   have hb0 : b < wr.heap.size := by have := hb.size; omega
   have hat := Lib.hid (since_at hlt u)
   have hwk := hww.out k hlt
   by_cases h1 : l[k].seq ≤ u
   ·have e1 := Lib.hid (show sinceN l q = acc ++ sinceN (l.drop (k + 1)) u by rw [hS.out, hat.out, if_pos h1])
    go_wp2
    exact ⟨⟨k + 1, _, u, acc, by omega, by go_num, rfl, rfl, hu0, by omega, e1, ⟨hB0.out.choose, hB0.out.choose_spec.1, hB0.out.choose_spec.2.below ((Below.refl _ _).alloc (Nat.le_refl _) _)⟩, hb.alloc (hb.size) _⟩, by simp [intOf]; omega⟩
   have ew : IntKind.i64.wrap (l[k].seq - 1) = l[k].seq - 1 := IntWalk.i64_in _ (by omega)
   by_cases h2 : l[k].seq - 1 = u
   case neg =>
    have h2' : (l[k].seq - 1 == u) = false := beq_eq_false_iff_ne.2 h2
    have e1 := Lib.hid (show sinceN l q = acc by rw [hS.out, hat.out, if_neg h1, if_neg h2, List.append_nil])
    clear h2
    go_wp2
    go_ret
    have h3 := hB0.out
    rw [← e1.out] at h3
    obtain ⟨rs, hm, hB⟩ := h3
    exact (show Bls noteD 39 _ _ _ _ from ⟨rs, hm, hB.below ((Below.refl _ _).alloc (Nat.le_refl _) _)⟩).own (hb.alloc hb.size _)
   have e1 := Lib.hid (show sinceN l q = (acc ++ [l[k]]) ++ sinceN (l.drop (k + 1)) l[k].seq by rw [hS.out, hat.out, if_neg h1, if_pos h2, List.append_assoc, List.singleton_append])
   have hs0 : 0 ≤ l[k].seq := by omega
   have hB1 := hB0.out
   obtain ⟨rs, hm, hB⟩ := hB1
   have hrl : rs.length = acc.length := by have := congrArg List.length hm; simpa using this
   have hO := hB.ow
   have hsz := hb.size
   subst h2
   have B1 := (Below.refl wr.heap.size wr).alloc (Nat.le_refl _) (.cells #[.int .i64 l[k].seq, .int .i64 l[k].deed.kind, .int .i64 l[k].deed.run, .int .i64 l[k].deed.plan.prio, .int .i64 l[k].deed.plan.most, .int .i64 l[k].deed.plan.wait, .int .i64 l[k].deed.plan.tasks, .slice s'.a s'.n s'.c, .int .i64 l[k].deed.task, .int .i64 l[k].deed.try_, .int .i64 l[k].deed.worker, .int .i64 l[k].deed.draw] 39)
   have X := DBox.new 39 [.int .i64 l[k].seq, .int .i64 l[k].deed.kind, .int .i64 l[k].deed.run, .int .i64 l[k].deed.plan.prio, .int .i64 l[k].deed.plan.most, .int .i64 l[k].deed.plan.wait, .int .i64 l[k].deed.plan.tasks, .slice s'.a s'.n s'.c, .int .i64 l[k].deed.task, .int .i64 l[k].deed.try_, .int .i64 l[k].deed.worker, .int .i64 l[k].deed.draw] wr rfl
   go_wp2_with (first | (go_at_call 27; refine (implCopyNote_own l[k] s' _ (hcc k hlt) (hx _ B1)).mono ?_; rintro e w2 ⟨s2, F2, rfl, o2, n2, b2⟩; have B2 := bnext B1 b2; have z2 := b2.size; (try simp only [World.size_alloc] at z2 n2); have X2 := X.below b2; have B2a := (Below.refl w2.heap.size w2).alloc (Nat.le_refl _) (.cells (noteD.enc.cells (l[k], s2)).toArray 39); have x0 := (X2.below B2a).cell 0 _ rfl) | (at_builtin; go_loud (refine wpList_push_all _ noteD.enc (by decide) rfl (.tmp 25) (.tmp 28) rfl Try.underlying24 hi0 hz0 hz1 hz2 rfl (v := v) (l := rs) rfl (hO.below (B2.alloc (by omega) _)) rfl (Rd.one noteD.enc _ _ (l[k], s2) rfl rfl 1 (Nat.le_refl _) (Nat.lt_succ_self _)) (by omega) (by simp) (by decide) (by (try simp only [World.size_alloc]); omega) ?_); intro v5 w5 o5 g5 f5; go_loud (have x5 : w5.cell? ⟨wr.heap.size, 0, none⟩ = some (.int .i64 l[k].seq) := (g5.cell_far ⟨wr.heap.size, 0, none⟩ (by simp; omega) (fun e => by (have h6 : wr.heap.size < wr.heap.size := (hO.within _ e.symm).2); omega)).trans x0); go_loud (have x5l : wr.heap.size < w5.heap.size := (by have := g5.size; simp at this; omega))))
   have hP := Bld.push1 hB B2 o2 (fun b hb' => by have := n2 b hb'; omega) hsz ((Below.refl _ _).alloc (Nat.le_refl _) _) o5 g5 f5
   exact ⟨⟨k + 1, v5, l[k].seq, acc ++ [l[k]], by omega, by go_num, rfl, rfl, hs0, by simp; omega, e1, ⟨rs ++ [(l[k], s2)], by rw [List.map_append, hm]; rfl, hP⟩, ((hb.trans (B2.mono hb.size)).alloc (by omega) _).grown g5 (by simp <;> omega) (fun g hg => (hO.within g hg).1)⟩, by simp [intOf]; omega⟩
  ·have hltI : ¬ (k : Int) < (l.length : Int) := by omega
   have e1 := Lib.hid (show sinceN l q = acc by rw [hS.out, List.drop_eq_nil_of_le (by omega), sinceN, List.append_nil])
   go_wp2
   go_ret
   have h1 := hB0.out
   rw [← e1.out] at h1
   exact h1.own hb
theorem specSince_own (l : List Note) (s : Sl) (q : Int) (w : World) (hl : cntL cntNote l ≤ 2000000) (hq : 0 ≤ q ∧ q ≤ 9223372036854775807) (hw : ∀ x ∈ l, x.seq ≤ 9223372036854775807) (h : RdL noteD w w.heap.size s.v l) :
  Calls Try.prog 14 #[.slice s.a s.n s.c, .int .i64 q] w (OwnPost (Dt.list noteD) slV (sinceN l q) w) := by
 obtain ⟨A, n, c⟩ := s
 obtain ⟨A', c', hv, -⟩ := h.form
 simp only [Sl.v, Value.slice.injEq] at hv
 obtain ⟨rfl, rfl, rfl⟩ := hv
 have hll : l.length ≤ 2000000 := Nat.le_trans (cntL_len _ _) hl
 have hcc : ∀ k (hk : k < l.length), cntNote l[k] ≤ 2000000 := fun k hk => by have := cntL_mem (cnt := cntNote) (List.getElem_mem hk); omega
 have hww := Lib.hid (fun k (hk : k < l.length) => hw _ (List.getElem_mem hk))
 clear hl hw
 obtain ⟨i0, hi0, hz0, hz1, hz2⟩ := info_parts note_infoD
 go_enter Try.func14, Try.ntmps14
 go_wp2
 go_loopw [1, 5, 6] (fun lastv t i wr => ∃ (k : Nat) (v : Value) (u : Int) (acc : List Note), k ≤ l.length ∧ i = .int .i64 k ∧ v = t ∧ lastv = .int .i64 u ∧ 0 ≤ u ∧ acc.length ≤ k ∧ Hid (sinceN l q = acc ++ sinceN (l.drop k) u) ∧ Hid (Bls noteD 39 wr w.heap.size v acc) ∧ Below w.heap.size w wr) (fun _ _ i _ => l.length - (intOf i).toNat)
 case atStart => exact ⟨0, _, q, [], Nat.zero_le _, rfl, rfl, rfl, hq.1, Nat.le_refl _, (by show sinceN l q = _; simp), ⟨[], rfl, Bld.of_empty (Ow.empty noteD.enc 39 w rfl)⟩, (Below.refl _ _).alloc (Nat.le_refl _) _⟩
 case round =>
  clear hq
  obtain ⟨k, v, u, acc, hk, rfl, rfl, rfl, hu0, hak, hS, hB0, hb⟩ := hrel
  by_cases hlt : k < l.length
  ·obtain ⟨b, o, s', rfl, hbb, hr, c0, c1, c2, c3, c4, c5, c6, c7, c8, c9, c10, c11⟩ := (h.below hb).note hlt
   have hx : ∀ W, Below wr.heap.size wr W → noteD.rd W W.heap.size l[k] s' := fun W hW => noteD.rd_more (noteD.rd_below (noteD.rd_more hr hb.size) hW) hW.size
   have hltI : (k : Int) < (l.length : Int) := by omega
   have hb0 : b < wr.heap.size := by have := hb.size; omega
   have hat := Lib.hid (since_at hlt u)
   have hwk := hww.out k hlt
   by_cases h1 : l[k].seq ≤ u
   ·have e1 := Lib.hid (show sinceN l q = acc ++ sinceN (l.drop (k + 1)) u by rw [hS.out, hat.out, if_pos h1])
    go_wp2
    exact ⟨⟨k + 1, _, u, acc, by omega, by go_num, rfl, rfl, hu0, by omega, e1, ⟨hB0.out.choose, hB0.out.choose_spec.1, hB0.out.choose_spec.2⟩, hb⟩, by simp [intOf]; omega⟩
   have ew : IntKind.i64.wrap (l[k].seq - 1) = l[k].seq - 1 := IntWalk.i64_in _ (by omega)
   by_cases h2 : l[k].seq - 1 = u
   case neg =>
    have h2' : (l[k].seq - 1 == u) = false := beq_eq_false_iff_ne.2 h2
    have e1 := Lib.hid (show sinceN l q = acc by rw [hS.out, hat.out, if_neg h1, if_neg h2, List.append_nil])
    clear h2
    go_wp2
    go_ret
    have h3 := hB0.out
    rw [← e1.out] at h3
    exact h3.own hb
   have e1 := Lib.hid (show sinceN l q = (acc ++ [l[k]]) ++ sinceN (l.drop (k + 1)) l[k].seq by rw [hS.out, hat.out, if_neg h1, if_pos h2, List.append_assoc, List.singleton_append])
   have hs0 : 0 ≤ l[k].seq := by omega
   have hB1 := hB0.out
   obtain ⟨rs, hm, hB⟩ := hB1
   have hrl : rs.length = acc.length := by have := congrArg List.length hm; simpa using this
   have hO := hB.ow
   have hsz := hb.size
   subst h2
   have B1 := Below.refl wr.heap.size wr
   go_wp2_with (first | (go_at_call 28; refine (specNote_own l[k] s' _ (hcc k hlt) (hx _ B1)).mono ?_; rintro e w2 ⟨s2, F2, rfl, o2, n2, b2⟩; have B2 := bnext B1 b2; have z2 := b2.size; (try simp only [World.size_alloc] at z2 n2)) | (at_builtin; refine wpList_push_all _ noteD.enc (by decide) rfl (.tmp 34) (.tmp 40) rfl Try.underlying24 hi0 hz0 hz1 hz2 rfl (v := v) (l := rs) rfl (hO.below (B2.alloc (by omega) _)) rfl (Rd.one noteD.enc _ _ (l[k], s2) rfl rfl 1 (Nat.le_refl _) (Nat.lt_succ_self _)) (by omega) (by simp) (by decide) (by (try simp only [World.size_alloc]); omega) ?_; intro v5 w5 o5 g5 f5))
   have hP := Bld.push1 hB B2 o2 (fun b hb' => by have := n2 b hb'; omega) hsz ((Below.refl _ _).alloc (Nat.le_refl _) _) o5 g5 f5
   exact ⟨⟨k + 1, v5, l[k].seq, acc ++ [l[k]], by omega, by go_num, rfl, rfl, hs0, by simp; omega, e1, ⟨rs ++ [(l[k], s2)], by rw [List.map_append, hm]; rfl, hP⟩, ((hb.trans (B2.mono hb.size)).alloc (by omega) _).grown g5 (by simp <;> omega) (fun g hg => (hO.within g hg).1)⟩, by simp [intOf]; omega⟩
  ·have hltI : ¬ (k : Int) < (l.length : Int) := by omega
   have e1 := Lib.hid (show sinceN l q = acc by rw [hS.out, List.drop_eq_nil_of_le (by omega), sinceN, List.append_nil])
   go_wp2
   go_ret
   have h1 := hB0.out
   rw [← e1.out] at h1
   exact h1.own hb
end Go.Proofs.Ytonlnjdempbfoaa
end
section
namespace Go.Proofs.Ytonlnjdempbfoaa
open Go.RowKit
set_option maxRecDepth 100000
set_option maxHeartbeats 4000000
set_option linter.unusedVariables false
set_option linter.unusedSimpArgs false
theorem yard_of2 {y : Yard} (h1 : inB y.now 0 999999980 = true) (h2 : inB y.seq 1 1000000000 = true) (h3 : shelvesP y) (h6 : y.runs.length ≤ 8) (h7 : runsRight y y.runs.length) : yardP y ↔ slotsOf y ≤ 40 := by
 refine yard_of h1 h2 h3.1 (fun k hk => h3.2.1 _ (List.getElem_mem hk)) (shelves_ents h3 (Nat.le_refl _)) h6 h7
def runsRight1 (y : Yard) (k : Nat) : Prop := ∀ j (hj : j < y.runs.length), j < k → runP y.runs[j] ∧ runAt y y.runs[j].id = j
def runsStand (y : Yard) (k : Nat) : Prop := ∀ j (hj : j < y.runs.length), j < k → standP y.now y.runs[j] (entriesOf y)
theorem specYardOk_any (y : Yard) (s : Sl × Sl) (w : World) (hl : cntYard y ≤ 2000000) (h : yardD.rd w w.heap.size y s) :
  Calls Try.prog 55 #[yardW y s] w fun e w' => e = .returned (.bool (tf (yardP y))) ∧ Below w.heap.size w w' := by
 have HR := Lib.hid (show ∀ W, Below w.heap.size w W → yardD.rd W W.heap.size y s from fun W hW => yardD.rd_more (yardD.rd_below h hW) hW.size)
 obtain ⟨⟨A1, n1, c1⟩, ⟨A2, n2, c2⟩⟩ := s
 obtain rfl : n2 = y.runs.length := RdL.at1 (s := ⟨A2, n2, c2⟩) h.2
 have h2 : RdL runD w w.heap.size (.slice A2 y.runs.length c2) y.runs := h.2
 have hll : y.runs.length ≤ 2000000 := Nat.le_trans (cntL_len cntRun _) (by unfold cntYard at hl; omega)
 have HC := Lib.hid (show ∀ k (hk : k < y.runs.length), cntRun y.runs[k] ≤ 2000000 from fun k hk => by
  have := cntL_mem (cnt := cntRun) (List.getElem_mem hk)
  unfold cntYard at hl
  omega)
 have HEn := Lib.hid (show (entriesOf y).length ≤ 2000000 by
  have := flat_take_le y.shelf y.shelf.length
  rw [List.take_length] at this
  unfold cntYard at hl
  unfold entriesOf
  omega)
 have hsl := slots_le hl
 clear h
 have X := DBox.new 61 [.int .i64 y.now, .int .i64 y.seq, .slice A1 n1 c1, .slice A2 y.runs.length c2] w (b := w.heap.size) rfl
 have B0 : Below w.heap.size w (w.alloc (.cells #[.int .i64 y.now, .int .i64 y.seq, .slice A1 n1 c1, .slice A2 y.runs.length c2] 61)) := by repeat (first | exact Below.refl _ _ | refine Below.alloc ?_ (by simp <;> omega) _)
 cases a1 : inB y.now 0 999999980
 case false =>
  have H := Lib.hid (tf_false (show ¬ yardP y from fun h => by have := inB_iff.2 h.1; rw [a1] at this; cases this))
  go_enter Try.func55, Try.ntmps55
  go_wp2_with (go_at_call 30; refine (l01In_any _ _ _ _).mono ?_; rintro e w' ⟨rfl, rfl⟩)
  go_ret
  exact ⟨ret_bool H.out.symm, B0⟩
 cases a2 : inB y.seq 1 1000000000
 case false =>
  have H := Lib.hid (tf_false (show ¬ yardP y from fun h => by have := inB_iff.2 h.2.1; rw [a2] at this; cases this))
  go_enter Try.func55, Try.ntmps55
  go_wp2_with (go_at_call 30; refine (l01In_any _ _ _ _).mono ?_; rintro e w' ⟨rfl, rfl⟩)
  go_ret
  exact ⟨ret_bool H.out.symm, B0⟩
 by_cases a4 : y.runs.length ≤ 8
 case neg =>
  have a4' : (8 : Int) < (y.runs.length : Int) := by omega
  have H := Lib.hid (tf_false (show ¬ yardP y from fun h => a4 h.2.2.2.2.2.2.1))
  clear a4
  go_enter Try.func55, Try.ntmps55
  go_wp2_with (go_at_call 30; refine (l01In_any _ _ _ _).mono ?_; rintro e w' ⟨rfl, rfl⟩)
  go_ret
  exact ⟨ret_bool H.out.symm, B0⟩
 have a4' : ¬ (8 : Int) < (y.runs.length : Int) := by omega
 have hqb := inB_iff.1 a2
 have hnb := inB_iff.1 a1
 have C0 := specShelves_any y (⟨A1, n1, c1⟩, ⟨A2, y.runs.length, c2⟩) (w.alloc (.cells #[.int .i64 y.now, .int .i64 y.seq, .slice A1 n1 c1, .slice A2 y.runs.length c2] 61)) hl hqb (HR.out _ B0)
 by_cases a3 : shelvesP y
 case neg =>
  have H := Lib.hid (tf_false (show ¬ yardP y from fun h => a3 ⟨h.2.2.1, h.2.2.2.1, h.2.2.2.2.1, h.2.2.2.2.2.1⟩))
  rw [tf_false a3] at C0
  clear a3
  go_enter Try.func55, Try.ntmps55
  go_wp2_with (first | (go_at_call 30; refine (l01In_any _ _ _ _).mono ?_; rintro e w' ⟨rfl, rfl⟩) | (go_at_call 79; refine C0.mono ?_; rintro e w1 ⟨rfl, b1⟩))
  go_ret
  exact ⟨ret_bool H.out.symm, bnext B0 b1⟩
 rw [tf_true a3] at C0
 go_enter Try.func55, Try.ntmps55
 go_wp2_with (first | (go_at_call 30; refine (l01In_any _ _ _ _).mono ?_; rintro e w' ⟨rfl, rfl⟩) | (go_at_call 79; refine C0.mono ?_; rintro e w1 ⟨rfl, b1⟩))
 replace X := X.below b1
 replace B0 := bnext B0 b1
 clear b1 C0
 have A1_ := Lib.hid a1
 have A2_ := Lib.hid a2
 have A3_ := Lib.hid a3
 clear a1 a2 a3 a4'
 go_loopw [3] (fun i wr => ∃ k : Nat, k ≤ y.runs.length ∧ i = .int .i64 k ∧ Hid (runsRight1 y k) ∧ Below w1.heap.size w1 wr) (fun i _ => y.runs.length - (intOf i).toNat)
 case atStart => exact ⟨0, Nat.zero_le _, rfl, fun j _ h0 => absurd h0 (by omega), Below.refl _ _⟩
 case round =>
  obtain ⟨k, hk, rfl, hok, hb⟩ := hrel
  replace X := X.below hb
  replace B0 := bnext B0 hb
  obtain ⟨X_0, X_1, X_2, X_3, X_l⟩ := X.g4
  by_cases hlt : k < y.runs.length
  ·have hltI : (k : Int) < (y.runs.length : Int) := by omega
   obtain ⟨b, o, ⟨⟨A8, n8, c8⟩, ⟨At, nt, ct⟩⟩, hA2, hbb, hrr, e0, e1, e2, e3, e4, e5, e6, e7⟩ := (h2.below B0).run hlt
   subst hA2
   have hs1 : b < wr.heap.size := Nat.lt_of_lt_of_le hbb B0.size
   have HRr := Lib.hid (show ∀ W, Below wr.heap.size wr W → runD.rd W W.heap.size y.runs[k] (⟨A8, n8, c8⟩, ⟨At, nt, ct⟩) from fun W hW => runD.rd_more (runD.rd_below (runD.rd_more hrr B0.size) hW) hW.size)
   have hcr := HC.out k hlt
   have hlc := later_cell wr
   have C1 := fun u : Later wr => specRunOk_any y.runs[k] (⟨A8, n8, c8⟩, ⟨At, nt, ct⟩) u.1 hcr (HRr.out _ u.2)
   have C2 := fun u : Later wr => specRunAt_own y (⟨A1, n1, c1⟩, ⟨some ⟨b, o, none⟩, y.runs.length, c2⟩) y.runs[k].id u.1 hl (HR.out _ (bnext B0 u.2))
   have D1 := Lib.hid C1
   have D2 := Lib.hid C2
   clear C1 C2
   by_cases q1 : runP y.runs[k]
   case neg =>
    have H := Lib.hid (tf_false (show ¬ yardP y from fun h => q1 (h.2.2.2.2.2.2.2.1 k hlt).1))
    rw [tf_false q1] at D1
    clear q1
    go_wp2
    refine wp_region_pure (by kernel_rfl) (by kernel_rfl) ?_
    repeat (go_big_quiet_step ((go_at_call 80; (with_reducible exact pure_at D1.out))))
    refine wpQuiet_nil ?_
    rintro _ ⟨⟨w3, b3⟩, rfl⟩
    clear hlc
    go_wp2
    go_ret
    exact ⟨ret_bool H.out.symm, bnext B0 b3⟩
   rw [tf_true q1] at D1
   by_cases q2 : runAt y y.runs[k].id = k
   case neg =>
    have H := Lib.hid (tf_false (show ¬ yardP y from fun h => q2 (h.2.2.2.2.2.2.2.1 k hlt).2))
    have q2' : (runAt y y.runs[k].id != (k : Int)) = true := by simp [q2]
    clear q1 q2
    go_wp2
    refine wp_region_pure (by kernel_rfl) (by kernel_rfl) ?_
    repeat (go_big_quiet_step ((first | (go_at_call 80; (with_reducible exact pure_at D1.out)) | (go_at_call 62; (with_reducible exact pure_at D2.out)))))
    refine wpQuiet_nil ?_
    rintro _ ⟨⟨w3, b3⟩, rfl⟩
    clear hlc
    go_wp2
    go_ret
    exact ⟨ret_bool H.out.symm, bnext B0 b3⟩
   have S : Hid (runsRight1 y (k + 1)) := fun j hj hjk => by
    by_cases e : j = k
    ·subst e; exact ⟨q1, q2⟩
    ·exact hok.out j hj (by omega)
   rw [q2] at D2
   have q2' : ((k : Int) != (k : Int)) = false := by simp
   clear q1 q2
   go_wp2
   refine wp_region_pure (by kernel_rfl) (by kernel_rfl) ?_
   repeat (go_big_quiet_step ((first | (go_at_call 80; (with_reducible exact pure_at D1.out)) | (go_at_call 62; (with_reducible exact pure_at D2.out)))))
   refine wpQuiet_nil ?_
   rintro _ ⟨⟨w3, b3⟩, rfl⟩
   clear hlc
   go_wp2
   first
    | exact ⟨⟨k + 1, by omega, by go_num, S, bnext hb b3⟩, by simp [intOf]; omega⟩
    | (refine ⟨?_, by simp [intOf]; omega⟩; (repeat apply Exists.intro); first | exact ⟨⟨k + 1, by omega, by go_num, S, bnext hb b3⟩, rfl⟩ | exact ⟨⟨k + 1, by omega, by go_num, S, bnext hb b3⟩, rfl, rfl⟩ | exact ⟨⟨k + 1, by omega, by go_num, S, bnext hb b3⟩, rfl, rfl, rfl⟩ | exact ⟨⟨k + 1, by omega, by go_num, S, bnext hb b3⟩, rfl, rfl, rfl, rfl⟩ | exact ⟨⟨k + 1, by omega, by go_num, S, bnext hb b3⟩, rfl, rfl, rfl, rfl, rfl⟩ | exact ⟨⟨k + 1, by omega, by go_num, S, bnext hb b3⟩, rfl, rfl, rfl, rfl, rfl, rfl⟩ | exact ⟨⟨k + 1, by omega, by go_num, S, bnext hb b3⟩, rfl, rfl, rfl, rfl, rfl, rfl, rfl⟩)
  ·have hltI : ¬ (k : Int) < (y.runs.length : Int) := by omega
   have HR1 : Hid (runsRight1 y y.runs.length) := fun j hj _ => hok.out j hj (by omega)
   have C := specEntries_any y (⟨A1, n1, c1⟩, ⟨A2, y.runs.length, c2⟩) wr hl (HR.out _ B0)
   go_wp2_with fail
   refine C.mono ?_
   rintro e w2 ⟨v, rfl, o2, b2⟩
   replace X := X.below b2
   replace B0 := bnext B0 b2
   clear X_0 X_1 X_2 X_3 X_l hok hlt hltI hb
   have O2 := Rd.of_own o2
   clear o2
   obtain ⟨A3, c3, rfl, -⟩ := id O2
   have hel := HEn.out
   go_wp2
   go_loopw [5] (fun i wr => ∃ k : Nat, k ≤ y.runs.length ∧ i = .int .i64 k ∧ Hid (runsStand y k) ∧ Below w2.heap.size w2 wr) (fun i _ => y.runs.length - (intOf i).toNat)
   case atStart => exact ⟨0, Nat.zero_le _, rfl, fun j _ h0 => absurd h0 (by omega), Below.refl _ _⟩
   case round =>
    obtain ⟨k, hk, rfl, hok, hb⟩ := hrel
    replace X := X.below hb
    replace B0 := bnext B0 hb
    obtain ⟨X_0, X_1, X_2, X_3, X_l⟩ := X.g4
    by_cases hlt : k < y.runs.length
    ·have hltI : (k : Int) < (y.runs.length : Int) := by omega
     obtain ⟨b, o, ⟨⟨A8, n8, c8⟩, ⟨At, nt, ct⟩⟩, hA2, hbb, hrr, e0, e1, e2, e3, e4, e5, e6, e7⟩ := (h2.below B0).run hlt
     subst hA2
     have hs1 : b < wr.heap.size := Nat.lt_of_lt_of_le hbb B0.size
     have HRr := Lib.hid (show ∀ W, Below wr.heap.size wr W → runD.rd W W.heap.size y.runs[k] (⟨A8, n8, c8⟩, ⟨At, nt, ct⟩) from fun W hW => runD.rd_more (runD.rd_below (runD.rd_more hrr B0.size) hW) hW.size)
     have hcr := HC.out k hlt
     have hwt := wait_of (HR1.out k hlt hlt).1.2.1
     have htl : y.runs[k].tasks.length ≤ 2000000 := Nat.le_trans (cntL_len cntTask _) (by unfold cntRun at hcr; omega)
     have hlc := later_cell wr
     have D3 := Lib.hid (show ∀ u : Later wr, _ from fun u => specStand_any y (⟨A1, n1, c1⟩, ⟨some ⟨b, o, none⟩, y.runs.length, c2⟩) y.runs[k] (⟨A8, n8, c8⟩, ⟨At, nt, ct⟩) (entriesOf y) ⟨A3, (entriesOf y).length, c3⟩ u.1 htl hel hnb hwt (HRr.out _ u.2) ((O2.below (bnext hb u.2)).more (bnext hb u.2).size))
     by_cases q3 : standP y.now y.runs[k] (entriesOf y)
     case neg =>
      have H := Lib.hid (tf_false (show ¬ yardP y from fun h => q3 (h.2.2.2.2.2.2.2.2.1 _ (List.getElem_mem hlt))))
      rw [tf_false q3] at D3
      clear q3
      go_wp2
      refine wp_region_pure (by kernel_rfl) (by kernel_rfl) ?_
      repeat (go_big_quiet_step ((go_at_call 82; (with_reducible exact pure_at D3.out))))
      refine wpQuiet_nil ?_
      rintro _ ⟨⟨w3, b3⟩, rfl⟩
      clear hlc
      go_wp2
      go_ret
      exact ⟨ret_bool H.out.symm, bnext B0 b3⟩
     have S : Hid (runsStand y (k + 1)) := fun j hj hjk => by
      by_cases e : j = k
      ·subst e; exact q3
      ·exact hok.out j hj (by omega)
     rw [tf_true q3] at D3
     clear q3
     go_wp2
     refine wp_region_pure (by kernel_rfl) (by kernel_rfl) ?_
     repeat (go_big_quiet_step ((go_at_call 82; (with_reducible exact pure_at D3.out))))
     refine wpQuiet_nil ?_
     rintro _ ⟨⟨w3, b3⟩, rfl⟩
     clear hlc
     go_wp2
     first
      | exact ⟨⟨k + 1, by omega, by go_num, S, bnext hb b3⟩, by simp [intOf]; omega⟩
      | (refine ⟨?_, by simp [intOf]; omega⟩; (repeat apply Exists.intro); first | exact ⟨⟨k + 1, by omega, by go_num, S, bnext hb b3⟩, rfl⟩ | exact ⟨⟨k + 1, by omega, by go_num, S, bnext hb b3⟩, rfl, rfl⟩ | exact ⟨⟨k + 1, by omega, by go_num, S, bnext hb b3⟩, rfl, rfl, rfl⟩ | exact ⟨⟨k + 1, by omega, by go_num, S, bnext hb b3⟩, rfl, rfl, rfl, rfl⟩ | exact ⟨⟨k + 1, by omega, by go_num, S, bnext hb b3⟩, rfl, rfl, rfl, rfl, rfl⟩ | exact ⟨⟨k + 1, by omega, by go_num, S, bnext hb b3⟩, rfl, rfl, rfl, rfl, rfl, rfl⟩ | exact ⟨⟨k + 1, by omega, by go_num, S, bnext hb b3⟩, rfl, rfl, rfl, rfl, rfl, rfl, rfl⟩)
    ·have hltI : ¬ (k : Int) < (y.runs.length : Int) := by omega
     have HRt : Hid (runsRight y y.runs.length) := fun j hj hj2 => ⟨(HR1.out j hj hj2).1, (HR1.out j hj hj2).2, hok.out j hj (by omega)⟩
     have HF := Lib.hid (yard_of2 A1_.out A2_.out A3_.out a4 HRt.out)
     have C := specSlots_any y (⟨A1, n1, c1⟩, ⟨A2, y.runs.length, c2⟩) wr hl (HR.out _ B0)
     go_wp2_with fail
     refine C.mono ?_
     rintro e w7 ⟨rfl, b7⟩
     have HT := Lib.hid (show tf (yardP y) = decide ((slotsOf y : Int) ≤ 40) by
      rw [Bool.eq_iff_iff, tf_iff, HF.out, decide_eq_true_eq]
      omega)
     generalize slotsOf y = N at *
     by_cases q : N ≤ 40
     ·have H := Lib.hid (show tf (yardP y) = true by rw [HT.out]; exact decide_eq_true (by omega))
      go_wp2
      go_ret
      exact ⟨ret_bool (by rw [H.out]; exact decide_eq_true (by omega)), bnext B0 b7⟩
     ·have H := Lib.hid (show tf (yardP y) = false by rw [HT.out]; exact decide_eq_false (by omega))
      go_wp2
      go_ret
      exact ⟨ret_bool (by rw [H.out]; exact decide_eq_false (by omega)), bnext B0 b7⟩
end Go.Proofs.Ytonlnjdempbfoaa
end
