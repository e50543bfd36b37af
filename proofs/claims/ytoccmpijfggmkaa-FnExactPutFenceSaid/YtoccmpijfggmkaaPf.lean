/-
  PutFence of the program and of the reference. Written by program (pf.py).
-/
import Derived.Test.YtoccmpijfggmkaaFi
import Derived.Deep.RegionLaw
namespace Go.Proofs.Ytoccmpijfggmkaa
open Go.RowKit
set_option maxRecDepth 100000
set_option maxHeartbeats 4000000

theorem Rd.of_row {α : Type} (e : Enc α) {w : World} {T : TypeId} {x : α} {g : Nat} (h : w.heap[g]? = some (.cells (e.cells x).toArray T (0, 0))) {B : Nat} (hB : g < B) : Rd e w B (.slice (some ⟨g, 0, none⟩) 1 1) [x] := by
  refine ⟨_, 1, rfl, by simp, fun _ => ⟨g, 0, rfl, hB, fun k hk j u hu => ?_⟩⟩
  have hk0 : k = 0 := by simpa using hk
  subst hk0
  have h0 : w.cell? ⟨g, j, none⟩ = (e.cells x).toArray[j]? := cell_of_row _ _ j _ _ (0, 0) h
  simp only [Nat.zero_mul, Nat.zero_add]
  rw [h0]
  simpa using hu
theorem Rd.drop {α : Type} {e : Enc α} {w : World} {B : Nat} {A : Option Addr} {n c : Nat} {l : List α} (h : Rd e w B (.slice A n c) l) (k : Nat) (hk : k ≤ l.length) : Rd e w B (.slice (A.map fun x => x.add (k * e.sz)) (l.length - k) (c - k)) (l.drop k) := by
  obtain ⟨A', c0, hv, hc, hA⟩ := h
  simp only [Value.slice.injEq] at hv
  obtain ⟨rfl, rfl, rfl⟩ := hv
  refine ⟨_, c - k, by rw [List.length_drop], by rw [List.length_drop]; omega, fun hl => ?_⟩
  rw [List.length_drop] at hl
  obtain ⟨b, o, hb, hlt, hcell⟩ := hA (by omega)
  refine ⟨b, o + k * e.sz, by rw [hb]; simp only [Option.map_some, Option.some.injEq]; unfold Addr.add; split <;> simp_all, hlt, fun i hi j u hu => ?_⟩
  rw [List.length_drop] at hi
  rw [List.getElem_drop] at hu
  have := hcell (k + i) (by omega) j u hu
  rw [show o + k * e.sz + i * e.sz + j = o + (k + i) * e.sz + j from by rw [Nat.add_mul, ← Nat.add_assoc]]
  exact this
/-- how many fences stand ahead of f -/
def posF (l : List Fence) (f : Fence) : Nat := (l.takeWhile (fun x => fBe x f)).length
theorem takeWhile_length_eq {α : Type} (p : α → Bool) : ∀ (l : List α) (k : Nat), k ≤ l.length → (∀ j (h : j < l.length), j < k → p l[j] = true) → (∀ h : k < l.length, p l[k] = false) → (l.takeWhile p).length = k
  | [], k, hk, _, _ => by simp at hk; simp [hk]
  | x :: l, 0, _, _, h => by
    have := h (by simp)
    simp only [List.getElem_cons_zero] at this
    simp [this]
  | x :: l, k + 1, hk, h1, h2 => by
    have h0 := h1 0 (by simp) (by omega)
    simp only [List.getElem_cons_zero] at h0
    rw [List.takeWhile_cons_of_pos (by simpa using h0), List.length_cons, takeWhile_length_eq p l k (by simpa using hk)]
    · intro j hj hjk
      have := h1 (j + 1) (by simpa using hj) (by omega)
      simpa using this
    · intro hk'
      have := h2 (by simpa using hk')
      simpa using this
theorem posF_eq (l : List Fence) (f : Fence) (k : Nat) (hk : k ≤ l.length) (h1 : ∀ j (h : j < l.length), j < k → fBe l[j] f = true) (h2 : ∀ h : k < l.length, fBe l[k] f = false) : posF l f = k := takeWhile_length_eq _ l k hk h1 h2
theorem posF_le (l : List Fence) (f : Fence) : posF l f ≤ l.length := by
  unfold posF
  exact (List.takeWhile_sublist _).length_le

/-- what PutFence answers -/
noncomputable def putFence (l : List Fence) (f : Fence) : List Fence × Int :=
  if fencesOk l = false then (l, 8)
  else if fOk f = false then (l, 5)
  else match l.findIdx? (fAt f.run f.task) with
    | some k => if f.try_ < (l.getD k f).try_ then (l, 11) else (l.set k f, 0)
    | none => if l.length = 60 then (l, 7) else (l.take (posF l f) ++ f :: l.drop (posF l f), 0)

theorem idx_cases {α : Type} (p : α → Bool) (l : List α) : (l.findIdx? p = none ∧ idxOf p l = -1) ∨ ∃ k, k < l.length ∧ l.findIdx? p = some k ∧ idxOf p l = k := by
  unfold idxOf
  cases h : l.findIdx? p with
  | none => exact .inl ⟨rfl, rfl⟩
  | some k => exact .inr ⟨k, (List.findIdx?_eq_some_iff_getElem.1 h).1, rfl, rfl⟩

theorem putFence_len (l : List Fence) (f : Fence) : (putFence l f).1.length ≤ l.length + 1 := by
  unfold putFence
  have := posF_le l f
  repeat' split
  all_goals (try simp)
  all_goals omega

/-- a fence's variable in memory -/
structure FBox (b : Nat) (f : Fence) (w : World) : Prop where
  cells : w.cell? ⟨b, 0, none⟩ = some (.int .i64 f.run) ∧ w.cell? ⟨b, 1, none⟩ = some (.int .i64 f.task) ∧ w.cell? ⟨b, 2, none⟩ = some (.int .i64 f.try_) ∧ w.cell? ⟨b, 3, none⟩ = some (.string f.text) ∧ b < w.heap.size
theorem FBox.new (T : TypeId) (f : Fence) (w : World) : FBox w.heap.size f (w.alloc (.cells #[.int .i64 f.run, .int .i64 f.task, .int .i64 f.try_, .string f.text] T)) := by
  refine ⟨?_, ?_, ?_, ?_, by simp⟩
  all_goals simp [go_sem]
theorem FBox.upto {B b : Nat} {f : Fence} {w w' : World} (h : FBox b f w) (hb : Below B w w') (hlt : b < B) : FBox b f w' := by
  obtain ⟨h0, h1, h2, h3, h4⟩ := h.cells
  exact ⟨(hb.cell (p := ⟨b, 0, none⟩) hlt).trans h0, (hb.cell (p := ⟨b, 1, none⟩) hlt).trans h1, (hb.cell (p := ⟨b, 2, none⟩) hlt).trans h2, (hb.cell (p := ⟨b, 3, none⟩) hlt).trans h3, Nat.lt_of_lt_of_le h4 hb.size⟩
theorem FBox.below {b : Nat} {f : Fence} {w w' : World} (h : FBox b f w) (hb : Below w.heap.size w w') : FBox b f w' := h.upto hb h.cells.2.2.2.2

theorem FBox.lt {b : Nat} {f : Fence} {w : World} (h : FBox b f w) : b < w.heap.size := h.cells.2.2.2.2
theorem FBox.mark {b lo hi : Nat} {f : Fence} {v' : Value} {w w' : World} (h : FBox b f w) (hg : w.grownBy w' v'.ownBlock) (hi' : Within v' lo hi) (hne : b < lo ∨ hi ≤ b) : FBox b f w' := by
  obtain ⟨h0, h1, h2, h3, h4⟩ := h.cells
  have hn : some b ≠ v'.ownBlock := fun e => by
    have := hi' b e.symm
    omega
  exact ⟨(hg.cell_far ⟨b, 0, none⟩ h4 hn).trans h0, (hg.cell_far ⟨b, 1, none⟩ h4 hn).trans h1, (hg.cell_far ⟨b, 2, none⟩ h4 hn).trans h2, (hg.cell_far ⟨b, 3, none⟩ h4 hn).trans h3, Nat.lt_of_lt_of_le h4 hg.size⟩

def PutPost (l : List Fence) (f : Fence) (w : World) (e : Ending) (w' : World) : Prop :=
  ∃ v', e = .returned (.tuple #[v', .int .i64 (putFence l f).2]) ∧ Ow fenceE 80 w' w.heap.size v' (putFence l f).1 ∧ Below w.heap.size w w'
theorem PutPost.of {l l' : List Fence} {f : Fence} {w w' : World} {v : Value} {n : Int} {base : Nat} (h : Hid (putFence l f = (l', n))) (ho : Ow fenceE 80 w' base v l') (hbase : w.heap.size ≤ base) (hb : Below w.heap.size w w') :
    PutPost l f w (.returned (.tuple #[v, .int .i64 n])) w' := ⟨v, by rw [h.out], by rw [h.out]; exact ho.more hbase, hb⟩


theorem implPutFence_any (v : Value) (l : List Fence) (f : Fence) (w : World) (hl : l.length ≤ 2000000) (h : Rd fenceE w w.heap.size v l) :
    Calls Try.prog 86 #[v, fenceV f] w (PutPost l f w) := by
  obtain ⟨A, c, rfl, -⟩ := id h
  obtain ⟨i0, hi0, hz0, hz1, hz2⟩ := info_parts fence_info
  have h0 := Lib.hid (show ∀ W, Below w.heap.size w W → Rd fenceE W W.heap.size (.slice A l.length c) l from fun W hW => (h.below hW).more hW.size)
  have D := FBox.new 80 f w
  have b0 : Below w.heap.size w (w.alloc (.cells #[.int .i64 f.run, .int .i64 f.task, .int .i64 f.try_, .string f.text] 80)) := (Below.refl _ _).alloc (Nat.le_refl _) _
  unfold fenceV
  clear h
  go_enter Try.func86, Try.ntmps86
  go_wp2_with (at_builtin; refine wpList_push_all _ fenceE (by decide) rfl (.const (.slice none 0 0)) (.tmp 9) rfl Try.underlying32 hi0 hz0 hz1 hz2 rfl (v := .slice none 0 0) (l := []) rfl (Ow.nil fenceE 80 _ (w.heap.size + 1)) rfl (h0.out _ ((Below.refl _ _).alloc (by simp <;> omega) _)) (by simp) (by omega) (by decide) (by simp) ?_; intro v1 w1 o1 g1 _; rw [List.nil_append] at o1; obtain ⟨A1, c1, rfl, -⟩ := id (Rd.of_own o1); have d1 := (Below.refl (w.heap.size + 1) _).grown g1 (by simp <;> omega) (fun k hk => by simp [Value.ownBlock] at hk <;> omega); clear g1; replace D := D.upto d1 (by omega); have b1 : Below w.heap.size w w1 := b0.trans (d1.mono (by omega)); obtain ⟨x0, x1, x2, x3, x4⟩ := D.cells)
  clear b0 d1
  clear x0 x1 x2 x3 x4
  have C2 := implFenceAt_any (.slice A l.length c) l f.run f.task w1 hl (h0.out _ b1)
  rcases idx_cases (fAt f.run f.task) l with ⟨ki, kv⟩ | ⟨k, hk, ki, kv⟩
  all_goals
    rw [kv] at C2
    have KI := Lib.hid ki
    clear ki kv
    refine C2.mono ?_
    clear C2
    rintro e w2 ⟨rfl, c2⟩
    replace D := D.below c2
    replace o1 := o1.below c2
    have b2 := bnext b1 c2
    clear c2 b1
    go_wp2_with fail
    refine (implFencesOk_any (.slice A l.length c) l w2 hl (h0.out _ b2)).mono ?_
    rintro e w3 ⟨rfl, c3⟩
    replace D := D.below c3
    replace o1 := o1.below c3
    have b3 := bnext b2 c3
    clear c3 b2
    cases hF : fencesOk l
    · have H := Lib.hid (show putFence l f = (l, 8) by unfold putFence; rw [if_pos hF])
      clear hF
      go_wp2
      go_ret2
      exact PutPost.of H o1 (by omega) b3
    have HF := Lib.hid (show ¬ fencesOk l = false by rw [hF]; simp)
    have hlen : l.length ≤ 60 := by
      simp only [fencesOk, Bool.and_eq_true, decide_eq_true_eq] at hF
      exact hF.1
    clear hF
    obtain ⟨x0, x1, x2, x3, x4⟩ := D.cells
    go_wp2_with fail
    clear x0 x1 x2 x3 x4
    refine (fenceOk_any f w3).mono ?_
    rintro e w4 ⟨rfl, c4⟩
    replace D := D.below c4
    replace o1 := o1.below c4
    have b4 := bnext b3 c4
    clear c4 b3
    cases hO : fOk f
    · have H := Lib.hid (show putFence l f = (l, 5) by unfold putFence; rw [if_neg HF.out, if_pos hO])
      clear hO
      go_wp2
      go_ret2
      exact PutPost.of H o1 (by omega) b4
    have HO := Lib.hid (show ¬ fOk f = false by rw [hO]; simp)
    clear hO
  · have hg : decide ((0 : Int) ≤ -1) = false := by decide
    by_cases h60 : l.length = 60
    · have H := Lib.hid (show putFence l f = (l, 7) by unfold putFence; rw [if_neg HF.out, if_neg HO.out, KI.out]; simp [h60])
      have h6I : ((l.length : Int) == 60) = true := by simp; omega
      clear h60
      go_wp2
      go_quiet (fail)
      go_wp2
      go_ret2
      exact PutPost.of H (o1.below (bdrewN (Below.refl _ _) _)) (by omega) (bdrewN b4 _)
    · have h6I : ((l.length : Int) == 60) = false := by simp; omega
      have H := Lib.hid (show putFence l f = (l.take (posF l f) ++ f :: l.drop (posF l f), 0) by unfold putFence; rw [if_neg HF.out, if_neg HO.out, KI.out]; simp [h60])
      clear h60
      go_wp2
      go_quiet (fail)
      obtain ⟨w5, hw5⟩ : ∃ w5, w5 = w4.drewN nq := ⟨_, rfl⟩
      rw [← hw5]
      have b5 : Below w.heap.size w w5 := by rw [hw5]; exact bdrewN b4 _
      replace o1 : Ow fenceE 80 w5 (w.heap.size + 1) (.slice A1 l.length c1) l := by rw [hw5]; exact o1.below (bdrewN (Below.refl _ _) _)
      replace D : FBox w.heap.size f w5 := by rw [hw5]; exact D.below (bdrewN (Below.refl _ _) _)
      clear hw5 b4
      go_wp2
      go_loopw [8] (fun i wr => ∃ k : Nat, k ≤ l.length ∧ i = .int .i64 k ∧ Hid (∀ j (h : j < l.length), j < k → fBe l[j] f = true) ∧ Below w5.heap.size w5 wr) (fun i _ => l.length - (intOf i).toNat)
      case atStart => exact ⟨0, Nat.zero_le _, rfl, fun j _ hj => absurd hj (by omega), Below.refl _ _⟩
      case round =>
        obtain ⟨k, hk, rfl, hrun, c6⟩ := hrel
        have b6 := bnext b5 c6
        replace o1 := o1.below c6
        replace D := D.below c6
        have C6 := Lib.hid c6
        clear b5 c6
        obtain ⟨x0, x1, x2, x3, x4⟩ := D.cells
        have hlc := later_cell wr
        by_cases hlt : k < l.length
        · obtain ⟨b, o, rfl, hbb, y0, y1, y2, y3⟩ := (h0.out _ b6).fence hlt
          have hkI : (k : Int) < (l.length : Int) := by omega
          cases t : fBe l[k] f
          · have HP := Lib.hid (posF_eq l f k hk hrun.out (fun _ => t))
            go_wp2
            refine wp_region_pure (by kernel_rfl) (by kernel_rfl) ?_
            repeat (go_big_quiet_step ((go_at_call 112; rename_i x; have h1 := fBe_any _ (.inl rfl) l[k] f x.1; exact pure_of h1)))
            refine wpQuiet_nil ?_
            rintro w7 ⟨⟨_, c7⟩, rfl⟩
            clear hlc
            replace o1 := o1.below c7
            replace D := D.below c7
            have b7 := bnext b6 c7
            clear b6 c7 x0 x1 x2 x3 x4
            obtain ⟨x0, x1, x2, x3, x4⟩ := D.cells
            go_wp2_with fail
            refine (insertFence_any (.slice A1 l.length c1) l k w7.heap.size f (w.heap.size + 1) _ (by omega) (by omega) (o1.below ((Below.refl _ _).alloc (Nat.le_refl _) _)) (by simp; omega) (heap_alloc_new w7 _) (fun e => by have := o1.within _ e; omega)).mono ?_
            rintro e w8 ⟨v8, rfl, o8, g8, -⟩
            have b8 := (b7.alloc b7.size _).grown g8 (by simp; omega) (fun g hg => by have := o1.within g hg; omega)
            rw [← HP.out] at o8
            go_wp2
            go_ret2
            exact PutPost.of H o8 (by omega) b8
          · have S : Hid (∀ j (h : j < l.length), j < k + 1 → fBe l[j] f = true) := by
              intro j h hj
              by_cases e : j = k
              · subst e; exact t
              · exact hrun.out j h (by omega)
            go_wp2
            refine wp_region_pure (by kernel_rfl) (by kernel_rfl) ?_
            repeat (go_big_quiet_step ((go_at_call 112; rename_i x; have h1 := fBe_any _ (.inl rfl) l[k] f x.1; exact pure_of h1)))
            refine wpQuiet_nil ?_
            rintro w7 ⟨⟨_, c7⟩, rfl⟩
            clear x0 x1 x2 x3 x4
            clear hlc
            go_wp2
            exact ⟨⟨k + 1, by omega, by go_num, S, bnext C6.out c7⟩, by simp [intOf]; omega⟩
        · have HP := Lib.hid (posF_eq l f k hk hrun.out (fun h => absurd h hlt))
          have hkI : decide ((k : Int) < (l.length : Int)) = false := by simp; omega
          go_wp2
          refine wp_region_pure (by kernel_rfl) (by kernel_rfl) ?_
          repeat (go_big_quiet_step (fail))
          refine wpQuiet_nil ?_
          rintro w7 ⟨⟨_, c7⟩, rfl⟩
          clear hlc
          replace o1 := o1.below c7
          replace D := D.below c7
          have b7 := bnext b6 c7
          clear b6 c7 x0 x1 x2 x3 x4
          obtain ⟨x0, x1, x2, x3, x4⟩ := D.cells
          go_wp2_with fail
          refine (insertFence_any (.slice A1 l.length c1) l k w7.heap.size f (w.heap.size + 1) _ (by omega) (by omega) (o1.below ((Below.refl _ _).alloc (Nat.le_refl _) _)) (by simp; omega) (heap_alloc_new w7 _) (fun e => by have := o1.within _ e; omega)).mono ?_
          rintro e w8 ⟨v8, rfl, o8, g8, -⟩
          have b8 := (b7.alloc b7.size _).grown g8 (by simp; omega) (fun g hg => by have := o1.within g hg; omega)
          rw [← HP.out] at o8
          go_wp2
          go_ret2
          exact PutPost.of H o8 (by omega) b8
  · obtain ⟨b, o, rfl, hbb, y0, y1, y2, y3⟩ := (h0.out _ b4).fence hk
    have hkI : (k : Int) < (l.length : Int) := by omega
    have hk0 : (0 : Int) ≤ (k : Int) := by omega
    have hg : decide ((0 : Int) ≤ (k : Int)) = true := by simp
    have hgd : l.getD k f = l[k] := by simp [List.getD, hk]
    obtain ⟨x0, x1, x2, x3, x4⟩ := D.cells
    by_cases ht : f.try_ < l[k].try_
    · have H := Lib.hid (show putFence l f = (l, 11) by unfold putFence; rw [if_neg HF.out, if_neg HO.out, KI.out]; simp only [hgd]; rw [if_pos ht])
      clear hgd
      go_wp2
      go_quiet (fail)
      go_wp2
      go_ret2
      exact PutPost.of H (o1.below (bdrewN (Below.refl _ _) _)) (by omega) (bdrewN b4 _)
    · have H := Lib.hid (show putFence l f = (l.set k f, 0) by unfold putFence; rw [if_neg HF.out, if_neg HO.out, KI.out]; simp only [hgd]; rw [if_neg ht])
      clear hgd
      go_wp2
      go_quiet (fail)
      obtain ⟨w5, hw5⟩ : ∃ w5, w5 = w4.drewN nq := ⟨_, rfl⟩
      rw [← hw5]
      have b5 : Below w.heap.size w w5 := by rw [hw5]; exact bdrewN b4 _
      replace o1 : Ow fenceE 80 w5 (w.heap.size + 1) (.slice A1 l.length c1) l := by rw [hw5]; exact o1.below (bdrewN (Below.refl _ _) _)
      replace D : FBox w.heap.size f w5 := by rw [hw5]; exact D.below (bdrewN (Below.refl _ _) _)
      clear hw5 b4
      clear x0 x1 x2 x3 x4
      obtain ⟨x0, x1, x2, x3, x4⟩ := D.cells
      obtain ⟨g, rfl, hg1, hg2⟩ := o1.some_ (by omega)
      have hf := o1.free
      have hp := Lib.hid (Ow.put o1 rfl k hk f)
      obtain ⟨z0, z1, z2, z3⟩ := o1.fence hk
      go_wp2
      go_ret2
      exact PutPost.of H hp.out.1 (by omega) (b5.grown hp.out.2 (by omega) (fun g' hg' => by simp at hg'; omega))


theorem specPutFence_any (v : Value) (l : List Fence) (f : Fence) (w : World) (hl : l.length ≤ 2000000) (h : Rd fenceE w w.heap.size v l) :
    Calls Try.prog 84 #[v, fenceV f] w (PutPost l f w) := by
  obtain ⟨A, c, rfl, -⟩ := id h
  obtain ⟨i0, hi0, hz0, hz1, hz2⟩ := info_parts fence_info
  have h0 := Lib.hid (show ∀ W, Below w.heap.size w W → Rd fenceE W W.heap.size (.slice A l.length c) l from fun W hW => (h.below hW).more hW.size)
  have D := FBox.new 80 f w
  have b0 : Below w.heap.size w (w.alloc (.cells #[.int .i64 f.run, .int .i64 f.task, .int .i64 f.try_, .string f.text] 80)) := (Below.refl _ _).alloc (Nat.le_refl _) _
  unfold fenceV
  clear h
  go_enter Try.func84, Try.ntmps84
  go_wp2_with (at_builtin; refine wpList_push_all _ fenceE (by decide) rfl (.tmp 9) (.tmp 10) rfl Try.underlying32 hi0 hz0 hz1 hz2 rfl (v := .slice (some ⟨w.heap.size + 1, 0, none⟩) 0 0) (l := []) rfl ((Ow.empty fenceE 80 _ (by simp)).more (base' := w.heap.size + 1) (by omega)) rfl (h0.out _ (((Below.refl _ _).alloc (by simp <;> omega) _).alloc (by simp <;> omega) _)) (by simp) (by omega) (by decide) (by simp) ?_; intro v1 w1 o1 g1 _; rw [List.nil_append] at o1; obtain ⟨A1, c1, rfl, -⟩ := id (Rd.of_own o1); have d1 := ((Below.refl (w.heap.size + 1) _).alloc (by simp <;> omega) _).grown g1 (by simp <;> omega) (fun k hk => by simp [Value.ownBlock] at hk <;> omega); clear g1; replace D := D.upto d1 (by omega); have b1 : Below w.heap.size w w1 := b0.trans (d1.mono (by omega)); obtain ⟨x0, x1, x2, x3, x4⟩ := D.cells)
  clear b0 d1
  clear x0 x1 x2 x3 x4
  have C2 := specFenceAt_any (.slice A l.length c) l f.run f.task w1 hl (h0.out _ b1)
  rcases idx_cases (fAt f.run f.task) l with ⟨ki, kv⟩ | ⟨k, hk, ki, kv⟩
  all_goals
    rw [kv] at C2
    have KI := Lib.hid ki
    clear ki kv
    refine C2.mono ?_
    clear C2
    rintro e w2 ⟨rfl, e2⟩
    have c2 : Below w1.heap.size w1 w2 := by rw [← e2]; exact Below.refl _ _
    clear e2
    replace D := D.below c2
    replace o1 := o1.below c2
    have b2 := bnext b1 c2
    clear c2 b1
    go_wp2_with fail
    refine (specFencesOk_any (.slice A l.length c) l w2 hl (h0.out _ b2)).mono ?_
    rintro e w3 ⟨rfl, c3⟩
    replace D := D.below c3
    replace o1 := o1.below c3
    have b3 := bnext b2 c3
    clear c3 b2
    cases hF : fencesOk l
    · have H := Lib.hid (show putFence l f = (l, 8) by unfold putFence; rw [if_pos hF])
      clear hF
      go_wp2
      go_ret2
      exact PutPost.of H o1 (by omega) b3
    have HF := Lib.hid (show ¬ fencesOk l = false by rw [hF]; simp)
    have hlen : l.length ≤ 60 := by
      simp only [fencesOk, Bool.and_eq_true, decide_eq_true_eq] at hF
      exact hF.1
    clear hF
    obtain ⟨x0, x1, x2, x3, x4⟩ := D.cells
    go_wp2_with fail
    clear x0 x1 x2 x3 x4
    refine (l35Ok_any f w3).mono ?_
    rintro e w4 ⟨rfl, c4⟩
    replace D := D.below c4
    replace o1 := o1.below c4
    have b4 := bnext b3 c4
    clear c4 b3
    cases hO : fOk f
    · have H := Lib.hid (show putFence l f = (l, 5) by unfold putFence; rw [if_neg HF.out, if_pos hO])
      clear hO
      go_wp2
      go_ret2
      exact PutPost.of H o1 (by omega) b4
    have HO := Lib.hid (show ¬ fOk f = false by rw [hO]; simp)
    clear hO
  · have hg : decide ((0 : Int) ≤ -1) = false := by decide
    by_cases h60 : l.length = 60
    · have H := Lib.hid (show putFence l f = (l, 7) by unfold putFence; rw [if_neg HF.out, if_neg HO.out, KI.out]; simp [h60])
      have h6I : ((l.length : Int) == 60) = true := by simp; omega
      clear h60
      go_wp2
      go_quiet (fail)
      go_wp2
      go_ret2
      exact PutPost.of H (o1.below (bdrewN (Below.refl _ _) _)) (by omega) (bdrewN b4 _)
    · have h6I : ((l.length : Int) == 60) = false := by simp; omega
      have H := Lib.hid (show putFence l f = (l.take (posF l f) ++ f :: l.drop (posF l f), 0) by unfold putFence; rw [if_neg HF.out, if_neg HO.out, KI.out]; simp [h60])
      clear h60
      go_wp2
      go_quiet (fail)
      obtain ⟨w5, hw5⟩ : ∃ w5, w5 = w4.drewN nq := ⟨_, rfl⟩
      rw [← hw5]
      have b5 : Below w.heap.size w w5 := by rw [hw5]; exact bdrewN b4 _
      replace o1 : Ow fenceE 80 w5 (w.heap.size + 1) (.slice A1 l.length c1) l := by rw [hw5]; exact o1.below (bdrewN (Below.refl _ _) _)
      replace D : FBox w.heap.size f w5 := by rw [hw5]; exact D.below (bdrewN (Below.refl _ _) _)
      clear hw5 b4
      go_wp2
      go_loopw [8] (fun i wr => ∃ k : Nat, k ≤ l.length ∧ i = .int .i64 k ∧ Hid (∀ j (h : j < l.length), j < k → fBe l[j] f = true) ∧ Below w5.heap.size w5 wr) (fun i _ => l.length - (intOf i).toNat)
      case atStart => exact ⟨0, Nat.zero_le _, rfl, fun j _ hj => absurd hj (by omega), Below.refl _ _⟩
      case round =>
        obtain ⟨k, hk, rfl, hrun, c6⟩ := hrel
        have b6 := bnext b5 c6
        replace o1 := o1.below c6
        replace D := D.below c6
        have C6 := Lib.hid c6
        clear b5 c6
        obtain ⟨x0, x1, x2, x3, x4⟩ := D.cells
        have hlc := later_cell wr
        by_cases hlt : k < l.length
        · obtain ⟨b, o, rfl, hbb, y0, y1, y2, y3⟩ := (h0.out _ b6).fence hlt
          have hkI : (k : Int) < (l.length : Int) := by omega
          cases t : fBe l[k] f
          · have HP := Lib.hid (posF_eq l f k hk hrun.out (fun _ => t))
            go_wp2
            refine wp_region_pure (by kernel_rfl) (by kernel_rfl) ?_
            repeat (go_big_quiet_step ((go_at_call 110; rename_i x; have h1 := fBe_any _ (.inr rfl) l[k] f x.1; exact pure_of h1)))
            refine wpQuiet_nil ?_
            rintro w7 ⟨⟨_, c7⟩, rfl⟩
            clear hlc
            replace o1 := o1.below c7
            replace D := D.below c7
            have b7 := bnext b6 c7
            clear b6 c7 x0 x1 x2 x3 x4
            obtain ⟨x0, x1, x2, x3, x4⟩ := D.cells
            have hkc : k ≤ c := Nat.le_trans hk (h0.out _ b7).cap
            have hkcI : (k : Int) ≤ (c : Int) := by omega
            have a0 := Lib.hid (show ∀ W, Below w7.heap.size w7 W → Rd fenceE W W.heap.size (.slice (some ⟨b, o, none⟩) k c) (l.take k) from fun W hW => (h0.out _ (bnext b7 hW)).take hk c hkc)
            have lt1 := Lib.hid (show (l.take k).length ≤ 100 by simp; omega)
            have hx2 := Lib.hid (show ((w7.drew.alloc (.cells #[] 80)).alloc (.cells #[.int .i64 f.run, .int .i64 f.task, .int .i64 f.try_, .string f.text] 80)).heap[w7.heap.size + 1]? = some (.cells (fenceE.cells f).toArray 80 (0, 0)) by have := heap_alloc_new (w7.drew.alloc (.cells #[] 80)) (.cells #[.int .i64 f.run, .int .i64 f.task, .int .i64 f.try_, .string f.text] 80); rw [show (w7.drew.alloc (.cells #[] 80)).heap.size = w7.heap.size + 1 from by simp] at this; exact this)
            have hx3 := Lib.hid (show ((w7.drew.alloc (.cells #[.int .i64 f.run, .int .i64 f.task, .int .i64 f.try_, .string f.text] 80)).alloc (.cells #[] 80)).heap[w7.heap.size]? = some (.cells (fenceE.cells f).toArray 80 (0, 0)) from (Below.heap_alloc _ _ _ (by simp)).trans (heap_alloc_new w7.drew (.cells #[.int .i64 f.run, .int .i64 f.task, .int .i64 f.try_, .string f.text] 80)))
            have a1 := Lib.hid (show ∀ W, Below w7.heap.size w7 W → Rd fenceE W W.heap.size (.slice (some ⟨b, o + k * 4, none⟩) (l.length - k) (c - k)) (l.drop k) from fun W hW => by have := (h0.out _ (bnext b7 hW)).drop k hk; simpa [fenceE, Addr.add_lit] using this)
            go_wp2
            go_region_law (first
                | (refine step_push_all (w7.drew.alloc (.cells #[] 80)) fenceE (by decide) rfl (.tmp 69) (.tmp 72) rfl Try.underlying32 hi0 hz0 hz1 hz2 rfl (v := .slice (some ⟨w7.heap.size, 0, none⟩) 0 0) (l := []) (by simp [Act.eval]) ((Ow.empty fenceE 80 w7.drew rfl).more (base' := w7.heap.size) (Nat.le_refl _)) (A := (some ⟨b, o, none⟩)) (m := k) (c := _) (ys := l.take k) (by simp [Act.eval]) (a0.out _ (((Below.refl w7.heap.size w7).drew).alloc (by simp <;> omega) _)) (by simp) (by have := lt1.out; omega) (by decide) (by simp <;> omega) ?_; intro v8 w8 o8 g8 _; rw [List.nil_append] at o8; have d8 := ((((Below.refl w7.heap.size w7).drew).alloc (by simp <;> omega) _)).grown g8 (by simp <;> omega) (fun g hg => by simp [Value.ownBlock] at hg <;> omega); have hw8 : w7.heap.size ≤ w8.heap.size := d8.size; skip; replace D := D.upto d8 (by omega); obtain ⟨X0, X1, X2, X3, X4⟩ := D.cells)
                | (refine step_push_all ((w7.drew.alloc (.cells #[] 80)).alloc (.cells #[.int .i64 f.run, .int .i64 f.task, .int .i64 f.try_, .string f.text] 80)) fenceE (by decide) rfl (.tmp 69) (.tmp 72) rfl Try.underlying32 hi0 hz0 hz1 hz2 rfl (v := .slice (some ⟨w7.heap.size, 0, none⟩) 0 0) (l := []) (by simp [Act.eval]) (((Ow.empty fenceE 80 w7.drew rfl).more (base' := w7.heap.size) (Nat.le_refl _)).below ((Below.refl _ _).alloc (Nat.le_refl _) _)) (A := (some ⟨b, o, none⟩)) (m := k) (c := _) (ys := l.take k) (by simp [Act.eval]) (a0.out _ ((((Below.refl w7.heap.size w7).drew).alloc (by simp <;> omega) _).alloc (by simp <;> omega) _)) (by simp) (by have := lt1.out; omega) (by decide) (by simp <;> omega) ?_; intro v8 w8 o8 g8 _; rw [List.nil_append] at o8; have d8 := (((((Below.refl w7.heap.size w7).drew).alloc (by simp <;> omega) _).alloc (by simp <;> omega) _)).grown g8 (by simp <;> omega) (fun g hg => by simp [Value.ownBlock] at hg <;> omega); have hw8 : w7.heap.size ≤ w8.heap.size := d8.size; have rx8 := Lib.hid (Rd.of_row fenceE (row_keep g8 hx2.out (by simp [Value.ownBlock])) (B := w8.heap.size + 1) (by have := g8.size; simp at this; omega)); replace D := D.upto d8 (by omega); obtain ⟨X0, X1, X2, X3, X4⟩ := D.cells)
                | (refine step_push_all ((w7.drew.alloc (.cells #[.int .i64 f.run, .int .i64 f.task, .int .i64 f.try_, .string f.text] 80)).alloc (.cells #[] 80)) fenceE (by decide) rfl (.tmp 69) (.tmp 72) rfl Try.underlying32 hi0 hz0 hz1 hz2 rfl (v := .slice (some ⟨w7.heap.size + 1, 0, none⟩) 0 0) (l := []) (by simp [Act.eval]) ((Ow.empty fenceE 80 (w7.drew.alloc (.cells #[.int .i64 f.run, .int .i64 f.task, .int .i64 f.try_, .string f.text] 80)) (g := w7.heap.size + 1) (by simp)).more (base' := w7.heap.size) (by omega)) (A := (some ⟨b, o, none⟩)) (m := k) (c := _) (ys := l.take k) (by simp [Act.eval]) (a0.out _ ((((Below.refl w7.heap.size w7).drew).alloc (by simp <;> omega) _).alloc (by simp <;> omega) _)) (by simp) (by have := lt1.out; omega) (by decide) (by simp <;> omega) ?_; intro v8 w8 o8 g8 _; rw [List.nil_append] at o8; have d8 := (((((Below.refl w7.heap.size w7).drew).alloc (by simp <;> omega) _).alloc (by simp <;> omega) _)).grown g8 (by simp <;> omega) (fun g hg => by simp [Value.ownBlock] at hg <;> omega); have hw8 : w7.heap.size ≤ w8.heap.size := d8.size; have rx8 := Lib.hid (Rd.of_row fenceE (row_keep g8 hx3.out (by simp [Value.ownBlock])) (B := w8.heap.size + 1) (by have := g8.size; simp at this; omega)); replace D := D.upto d8 (by omega); obtain ⟨X0, X1, X2, X3, X4⟩ := D.cells)
                | (refine step_push_all (w8.alloc (.cells #[.int .i64 f.run, .int .i64 f.task, .int .i64 f.try_, .string f.text] 80)) fenceE (by decide) rfl (.tmp 73) (.tmp 75) rfl Try.underlying32 hi0 hz0 hz1 hz2 rfl (v := v8) (l := l.take k) (by simp [Act.eval]) (o8.below ((Below.refl _ _).alloc (Nat.le_refl _) _)) (A := some ⟨w8.heap.size, 0, none⟩) (m := 1) (c := 1) (ys := [f]) (by simp [Act.eval]) (Rd.one fenceE w8 _ f rfl rfl 1 (Nat.le_refl _) (B := w8.heap.size + 1) (by omega)) (by have := lt1.out; omega) (by simp) (by decide) (by first | omega | (simp; omega)) ?_; intro v9 w9 o9 g9 _; have d9 := (d8.alloc d8.size _).grown g9 (by first | omega | (simp; omega)) (fun g hg => (o8.within g hg).1))
                | (refine step_push_all w8 fenceE (by decide) rfl (.tmp 73) (.tmp 75) rfl Try.underlying32 hi0 hz0 hz1 hz2 rfl (v := v8) (l := l.take k) (by simp [Act.eval]) o8 (A := some ⟨w7.heap.size + 1, 0, none⟩) (m := 1) (c := 1) (ys := [f]) (by simp [Act.eval]) rx8.out (by have := lt1.out; omega) (by simp) (by decide) (by first | omega | (simp; omega)) ?_; intro v9 w9 o9 g9 _; have d9 := (d8).grown g9 (by first | omega | (simp; omega)) (fun g hg => (o8.within g hg).1))
                | (refine step_push_all w8 fenceE (by decide) rfl (.tmp 73) (.tmp 75) rfl Try.underlying32 hi0 hz0 hz1 hz2 rfl (v := v8) (l := l.take k) (by simp [Act.eval]) o8 (A := some ⟨w7.heap.size, 0, none⟩) (m := 1) (c := 1) (ys := [f]) (by simp [Act.eval]) rx8.out (by have := lt1.out; omega) (by simp) (by decide) (by first | omega | (simp; omega)) ?_; intro v9 w9 o9 g9 _; have d9 := (d8).grown g9 (by first | omega | (simp; omega)) (fun g hg => (o8.within g hg).1)))
            all_goals
              clear x0 x1 x2 x3 x4 X0 X1 X2 X3 X4 a0 hx2 hx3 g8 g9
              have lt2 := Lib.hid (show (l.take k ++ [f]).length ≤ 100 by simp; omega)
              have lt3 := Lib.hid (show (l.drop k).length ≤ 100 by simp; omega)
              rcases Nat.lt_or_ge k c with hkc2 | hkc2
              · have hck : ¬ c = k := by omega
                go_wp2_with (at_builtin; refine wpList_push_all w9 fenceE (by decide) rfl (.tmp 77) (.tmp 80) rfl Try.underlying32 hi0 hz0 hz1 hz2 rfl (v := v9) (l := l.take k ++ [f]) rfl o9 (A := (some ⟨b, o + k * 4, none⟩)) (m := l.length - k) (c := c - k) (ys := l.drop k) rfl (a1.out _ d9) (by have := lt2.out; omega) (by have := lt3.out; omega) (by decide) (by have := d9.size; omega) ?_; intro v10 w10 o10 g10 _; have d10 := d9.grown g10 (by have := d9.size; omega) (fun g hg => (o9.within g hg).1))
                go_ret2
                exact PutPost.of H (show Ow fenceE 80 w10 w7.heap.size v10 (l.take (posF l f) ++ f :: l.drop (posF l f)) by rw [HP.out]; simpa using o10) b7.size (b7.trans (d10.mono b7.size))
              · obtain rfl : k = c := by omega
                have hlk : l.length ≤ k := (h0.out _ b7).cap
                have a2 := Lib.hid (show Rd fenceE w9 w9.heap.size (.slice (some ⟨b, o, none⟩) 0 0) (l.drop k) by
                  rw [List.drop_eq_nil_of_le hlk]
                  exact ⟨_, 0, rfl, Nat.le_refl _, fun h => absurd h (by simp)⟩)
                go_wp2_with (at_builtin; refine wpList_push_all w9 fenceE (by decide) rfl (.tmp 77) (.tmp 80) rfl Try.underlying32 hi0 hz0 hz1 hz2 rfl (v := v9) (l := l.take k ++ [f]) rfl o9 (A := (some ⟨b, o, none⟩)) (m := 0) (c := 0) (ys := l.drop k) rfl a2.out (by have := lt2.out; omega) (by have := lt3.out; omega) (by decide) (by have := d9.size; omega) ?_; intro v10 w10 o10 g10 _; have d10 := d9.grown g10 (by have := d9.size; omega) (fun g hg => (o9.within g hg).1))
                go_ret2
                exact PutPost.of H (show Ow fenceE 80 w10 w7.heap.size v10 (l.take (posF l f) ++ f :: l.drop (posF l f)) by rw [HP.out]; simpa using o10) b7.size (b7.trans (d10.mono b7.size))
          · have S : Hid (∀ j (h : j < l.length), j < k + 1 → fBe l[j] f = true) := by
              intro j h hj
              by_cases e : j = k
              · subst e; exact t
              · exact hrun.out j h (by omega)
            go_wp2
            refine wp_region_pure (by kernel_rfl) (by kernel_rfl) ?_
            repeat (go_big_quiet_step ((go_at_call 110; rename_i x; have h1 := fBe_any _ (.inr rfl) l[k] f x.1; exact pure_of h1)))
            refine wpQuiet_nil ?_
            rintro w7 ⟨⟨_, c7⟩, rfl⟩
            clear x0 x1 x2 x3 x4
            clear hlc
            go_wp2
            exact ⟨⟨k + 1, by omega, by go_num, S, bnext C6.out c7⟩, by simp [intOf]; omega⟩
        · have HP := Lib.hid (posF_eq l f k hk hrun.out (fun h => absurd h hlt))
          have hkI : decide ((k : Int) < (l.length : Int)) = false := by simp; omega
          go_wp2
          refine wp_region_pure (by kernel_rfl) (by kernel_rfl) ?_
          repeat (go_big_quiet_step (fail))
          refine wpQuiet_nil ?_
          rintro w7 ⟨⟨_, c7⟩, rfl⟩
          clear hlc
          replace o1 := o1.below c7
          replace D := D.below c7
          have b7 := bnext b6 c7
          clear b6 c7 x0 x1 x2 x3 x4
          obtain ⟨x0, x1, x2, x3, x4⟩ := D.cells
          have hkc : k ≤ c := Nat.le_trans hk (h0.out _ b7).cap
          have hkcI : (k : Int) ≤ (c : Int) := by omega
          have a0 := Lib.hid (show ∀ W, Below w7.heap.size w7 W → Rd fenceE W W.heap.size (.slice A k c) (l.take k) from fun W hW => (h0.out _ (bnext b7 hW)).take hk c hkc)
          have lt1 := Lib.hid (show (l.take k).length ≤ 100 by simp; omega)
          have hx2 := Lib.hid (show ((w7.drew.alloc (.cells #[] 80)).alloc (.cells #[.int .i64 f.run, .int .i64 f.task, .int .i64 f.try_, .string f.text] 80)).heap[w7.heap.size + 1]? = some (.cells (fenceE.cells f).toArray 80 (0, 0)) by have := heap_alloc_new (w7.drew.alloc (.cells #[] 80)) (.cells #[.int .i64 f.run, .int .i64 f.task, .int .i64 f.try_, .string f.text] 80); rw [show (w7.drew.alloc (.cells #[] 80)).heap.size = w7.heap.size + 1 from by simp] at this; exact this)
          have hx3 := Lib.hid (show ((w7.drew.alloc (.cells #[.int .i64 f.run, .int .i64 f.task, .int .i64 f.try_, .string f.text] 80)).alloc (.cells #[] 80)).heap[w7.heap.size]? = some (.cells (fenceE.cells f).toArray 80 (0, 0)) from (Below.heap_alloc _ _ _ (by simp)).trans (heap_alloc_new w7.drew (.cells #[.int .i64 f.run, .int .i64 f.task, .int .i64 f.try_, .string f.text] 80)))
          have a1 := Lib.hid (show ∀ W, Below w7.heap.size w7 W → Rd fenceE W W.heap.size (.slice (A.map fun x => x.add (k * 4)) (l.length - k) (c - k)) (l.drop k) from fun W hW => by have := (h0.out _ (bnext b7 hW)).drop k hk; simpa [fenceE, Addr.add_lit] using this)
          go_wp2
          go_region_law (first
              | (refine step_push_all (w7.drew.alloc (.cells #[] 80)) fenceE (by decide) rfl (.tmp 69) (.tmp 72) rfl Try.underlying32 hi0 hz0 hz1 hz2 rfl (v := .slice (some ⟨w7.heap.size, 0, none⟩) 0 0) (l := []) (by simp [Act.eval]) ((Ow.empty fenceE 80 w7.drew rfl).more (base' := w7.heap.size) (Nat.le_refl _)) (A := A) (m := k) (c := _) (ys := l.take k) (by simp [Act.eval]) (a0.out _ (((Below.refl w7.heap.size w7).drew).alloc (by simp <;> omega) _)) (by simp) (by have := lt1.out; omega) (by decide) (by simp <;> omega) ?_; intro v8 w8 o8 g8 _; rw [List.nil_append] at o8; have d8 := ((((Below.refl w7.heap.size w7).drew).alloc (by simp <;> omega) _)).grown g8 (by simp <;> omega) (fun g hg => by simp [Value.ownBlock] at hg <;> omega); have hw8 : w7.heap.size ≤ w8.heap.size := d8.size; skip; replace D := D.upto d8 (by omega); obtain ⟨X0, X1, X2, X3, X4⟩ := D.cells)
              | (refine step_push_all ((w7.drew.alloc (.cells #[] 80)).alloc (.cells #[.int .i64 f.run, .int .i64 f.task, .int .i64 f.try_, .string f.text] 80)) fenceE (by decide) rfl (.tmp 69) (.tmp 72) rfl Try.underlying32 hi0 hz0 hz1 hz2 rfl (v := .slice (some ⟨w7.heap.size, 0, none⟩) 0 0) (l := []) (by simp [Act.eval]) (((Ow.empty fenceE 80 w7.drew rfl).more (base' := w7.heap.size) (Nat.le_refl _)).below ((Below.refl _ _).alloc (Nat.le_refl _) _)) (A := A) (m := k) (c := _) (ys := l.take k) (by simp [Act.eval]) (a0.out _ ((((Below.refl w7.heap.size w7).drew).alloc (by simp <;> omega) _).alloc (by simp <;> omega) _)) (by simp) (by have := lt1.out; omega) (by decide) (by simp <;> omega) ?_; intro v8 w8 o8 g8 _; rw [List.nil_append] at o8; have d8 := (((((Below.refl w7.heap.size w7).drew).alloc (by simp <;> omega) _).alloc (by simp <;> omega) _)).grown g8 (by simp <;> omega) (fun g hg => by simp [Value.ownBlock] at hg <;> omega); have hw8 : w7.heap.size ≤ w8.heap.size := d8.size; have rx8 := Lib.hid (Rd.of_row fenceE (row_keep g8 hx2.out (by simp [Value.ownBlock])) (B := w8.heap.size + 1) (by have := g8.size; simp at this; omega)); replace D := D.upto d8 (by omega); obtain ⟨X0, X1, X2, X3, X4⟩ := D.cells)
              | (refine step_push_all ((w7.drew.alloc (.cells #[.int .i64 f.run, .int .i64 f.task, .int .i64 f.try_, .string f.text] 80)).alloc (.cells #[] 80)) fenceE (by decide) rfl (.tmp 69) (.tmp 72) rfl Try.underlying32 hi0 hz0 hz1 hz2 rfl (v := .slice (some ⟨w7.heap.size + 1, 0, none⟩) 0 0) (l := []) (by simp [Act.eval]) ((Ow.empty fenceE 80 (w7.drew.alloc (.cells #[.int .i64 f.run, .int .i64 f.task, .int .i64 f.try_, .string f.text] 80)) (g := w7.heap.size + 1) (by simp)).more (base' := w7.heap.size) (by omega)) (A := A) (m := k) (c := _) (ys := l.take k) (by simp [Act.eval]) (a0.out _ ((((Below.refl w7.heap.size w7).drew).alloc (by simp <;> omega) _).alloc (by simp <;> omega) _)) (by simp) (by have := lt1.out; omega) (by decide) (by simp <;> omega) ?_; intro v8 w8 o8 g8 _; rw [List.nil_append] at o8; have d8 := (((((Below.refl w7.heap.size w7).drew).alloc (by simp <;> omega) _).alloc (by simp <;> omega) _)).grown g8 (by simp <;> omega) (fun g hg => by simp [Value.ownBlock] at hg <;> omega); have hw8 : w7.heap.size ≤ w8.heap.size := d8.size; have rx8 := Lib.hid (Rd.of_row fenceE (row_keep g8 hx3.out (by simp [Value.ownBlock])) (B := w8.heap.size + 1) (by have := g8.size; simp at this; omega)); replace D := D.upto d8 (by omega); obtain ⟨X0, X1, X2, X3, X4⟩ := D.cells)
              | (refine step_push_all (w8.alloc (.cells #[.int .i64 f.run, .int .i64 f.task, .int .i64 f.try_, .string f.text] 80)) fenceE (by decide) rfl (.tmp 73) (.tmp 75) rfl Try.underlying32 hi0 hz0 hz1 hz2 rfl (v := v8) (l := l.take k) (by simp [Act.eval]) (o8.below ((Below.refl _ _).alloc (Nat.le_refl _) _)) (A := some ⟨w8.heap.size, 0, none⟩) (m := 1) (c := 1) (ys := [f]) (by simp [Act.eval]) (Rd.one fenceE w8 _ f rfl rfl 1 (Nat.le_refl _) (B := w8.heap.size + 1) (by omega)) (by have := lt1.out; omega) (by simp) (by decide) (by first | omega | (simp; omega)) ?_; intro v9 w9 o9 g9 _; have d9 := (d8.alloc d8.size _).grown g9 (by first | omega | (simp; omega)) (fun g hg => (o8.within g hg).1))
              | (refine step_push_all w8 fenceE (by decide) rfl (.tmp 73) (.tmp 75) rfl Try.underlying32 hi0 hz0 hz1 hz2 rfl (v := v8) (l := l.take k) (by simp [Act.eval]) o8 (A := some ⟨w7.heap.size + 1, 0, none⟩) (m := 1) (c := 1) (ys := [f]) (by simp [Act.eval]) rx8.out (by have := lt1.out; omega) (by simp) (by decide) (by first | omega | (simp; omega)) ?_; intro v9 w9 o9 g9 _; have d9 := (d8).grown g9 (by first | omega | (simp; omega)) (fun g hg => (o8.within g hg).1))
              | (refine step_push_all w8 fenceE (by decide) rfl (.tmp 73) (.tmp 75) rfl Try.underlying32 hi0 hz0 hz1 hz2 rfl (v := v8) (l := l.take k) (by simp [Act.eval]) o8 (A := some ⟨w7.heap.size, 0, none⟩) (m := 1) (c := 1) (ys := [f]) (by simp [Act.eval]) rx8.out (by have := lt1.out; omega) (by simp) (by decide) (by first | omega | (simp; omega)) ?_; intro v9 w9 o9 g9 _; have d9 := (d8).grown g9 (by first | omega | (simp; omega)) (fun g hg => (o8.within g hg).1)))
          all_goals
            clear x0 x1 x2 x3 x4 X0 X1 X2 X3 X4 a0 hx2 hx3 g8 g9
            have lt2 := Lib.hid (show (l.take k ++ [f]).length ≤ 100 by simp; omega)
            have lt3 := Lib.hid (show (l.drop k).length ≤ 100 by simp; omega)
            rcases Nat.lt_or_ge k c with hkc2 | hkc2
            · have hck : ¬ c = k := by omega
              go_wp2_with (at_builtin; refine wpList_push_all w9 fenceE (by decide) rfl (.tmp 77) (.tmp 80) rfl Try.underlying32 hi0 hz0 hz1 hz2 rfl (v := v9) (l := l.take k ++ [f]) rfl o9 (A := (A.map fun x => x.add (k * 4))) (m := l.length - k) (c := c - k) (ys := l.drop k) rfl (a1.out _ d9) (by have := lt2.out; omega) (by have := lt3.out; omega) (by decide) (by have := d9.size; omega) ?_; intro v10 w10 o10 g10 _; have d10 := d9.grown g10 (by have := d9.size; omega) (fun g hg => (o9.within g hg).1))
              go_ret2
              exact PutPost.of H (show Ow fenceE 80 w10 w7.heap.size v10 (l.take (posF l f) ++ f :: l.drop (posF l f)) by rw [HP.out]; simpa using o10) b7.size (b7.trans (d10.mono b7.size))
            · obtain rfl : k = c := by omega
              have hlk : l.length ≤ k := (h0.out _ b7).cap
              have a2 := Lib.hid (show Rd fenceE w9 w9.heap.size (.slice A 0 0) (l.drop k) by
                rw [List.drop_eq_nil_of_le hlk]
                exact ⟨_, 0, rfl, Nat.le_refl _, fun h => absurd h (by simp)⟩)
              go_wp2_with (at_builtin; refine wpList_push_all w9 fenceE (by decide) rfl (.tmp 77) (.tmp 80) rfl Try.underlying32 hi0 hz0 hz1 hz2 rfl (v := v9) (l := l.take k ++ [f]) rfl o9 (A := A) (m := 0) (c := 0) (ys := l.drop k) rfl a2.out (by have := lt2.out; omega) (by have := lt3.out; omega) (by decide) (by have := d9.size; omega) ?_; intro v10 w10 o10 g10 _; have d10 := d9.grown g10 (by have := d9.size; omega) (fun g hg => (o9.within g hg).1))
              go_ret2
              exact PutPost.of H (show Ow fenceE 80 w10 w7.heap.size v10 (l.take (posF l f) ++ f :: l.drop (posF l f)) by rw [HP.out]; simpa using o10) b7.size (b7.trans (d10.mono b7.size))
  · obtain ⟨b, o, rfl, hbb, y0, y1, y2, y3⟩ := (h0.out _ b4).fence hk
    have hkI : (k : Int) < (l.length : Int) := by omega
    have hk0 : (0 : Int) ≤ (k : Int) := by omega
    have hg : decide ((0 : Int) ≤ (k : Int)) = true := by simp
    have hgd : l.getD k f = l[k] := by simp [List.getD, hk]
    obtain ⟨x0, x1, x2, x3, x4⟩ := D.cells
    by_cases ht : f.try_ < l[k].try_
    · have H := Lib.hid (show putFence l f = (l, 11) by unfold putFence; rw [if_neg HF.out, if_neg HO.out, KI.out]; simp only [hgd]; rw [if_pos ht])
      clear hgd
      go_wp2
      go_quiet (fail)
      go_wp2
      go_ret2
      exact PutPost.of H (o1.below (bdrewN (Below.refl _ _) _)) (by omega) (bdrewN b4 _)
    · have H := Lib.hid (show putFence l f = (l.set k f, 0) by unfold putFence; rw [if_neg HF.out, if_neg HO.out, KI.out]; simp only [hgd]; rw [if_neg ht])
      clear hgd
      go_wp2
      go_quiet (fail)
      obtain ⟨w5, hw5⟩ : ∃ w5, w5 = w4.drewN nq := ⟨_, rfl⟩
      rw [← hw5]
      have b5 : Below w.heap.size w w5 := by rw [hw5]; exact bdrewN b4 _
      replace o1 : Ow fenceE 80 w5 (w.heap.size + 1) (.slice A1 l.length c1) l := by rw [hw5]; exact o1.below (bdrewN (Below.refl _ _) _)
      replace D : FBox w.heap.size f w5 := by rw [hw5]; exact D.below (bdrewN (Below.refl _ _) _)
      clear hw5 b4
      clear x0 x1 x2 x3 x4
      obtain ⟨x0, x1, x2, x3, x4⟩ := D.cells
      obtain ⟨g, rfl, hg1, hg2⟩ := o1.some_ (by omega)
      have hf := o1.free
      have hp := Lib.hid (Ow.put o1 rfl k hk f)
      obtain ⟨z0, z1, z2, z3⟩ := o1.fence hk
      go_wp2
      go_ret2
      exact PutPost.of H hp.out.1 (by omega) (b5.grown hp.out.2 (by omega) (fun g' hg' => by simp at hg'; omega))

end Go.Proofs.Ytoccmpijfggmkaa
