/-
  FramesOf of both.
-/
import Derived.Test.YtjobmbjadpldfaaVe
namespace Go.Proofs.Ytjobmbjadpldfaa
open Go.RowKit
set_option maxRecDepth 100000
set_option maxHeartbeats 2000000
set_option linter.unusedVariables false
set_option linter.unusedSimpArgs false

/-- a text in a cell -/
def strE : Enc (List UInt8) := { cells := fun x => [strV x], sz := 1, len := fun _ => rfl, one := fun _ u hu => by simp at hu; subst hu; rfl }
theorem str_info : (Try.prog.info? 9).map (fun i => (i.zero, i.size, i.bytes)) = some (some (strV []), 1, 16) := by kernel_rfl
theorem Rd.str {w : World} {B : Nat} {A : Option Addr} {n c : Nat} {l : List (List UInt8)} (h : Rd strE w B (.slice A n c) l) {k : Nat} (hk : k < l.length) :
    ∃ b o, A = some ⟨b, o, none⟩ ∧ b < B ∧ w.cell? ⟨b, o + k, none⟩ = some (strV l[k]) := by
  obtain ⟨A', c', hv, _, hA⟩ := h
  obtain ⟨b, o, hA', hb, hc⟩ := hA (by omega)
  simp only [Value.slice.injEq] at hv
  obtain ⟨rfl, _, _⟩ := hv
  exact ⟨b, o, hA', hb, by simpa [strE] using hc k hk 0 _ rfl⟩
def framesA (acc : List UInt8) : List (List UInt8) → List UInt8
  | [] => acc
  | b :: bs => if (frameOf b).length = 0 ∨ 60000 < acc.length + (frameOf b).length then [] else framesA (acc ++ frameOf b) bs
def framesOf (l : List (List UInt8)) : List UInt8 := framesA [] l
theorem frameOf_len (l : List UInt8) : (frameOf l).length ≤ 409 := by
  unfold frameOf
  split
  · rename_i h
    have h1 := varText_len l.length
    have h2 := fourOf_len (sumOf l)
    simp [inB] at h
    rw [List.length_append, List.length_append]
    omega
  · simp
theorem framesA_step {l : List (List UInt8)} {acc : List UInt8} {k : Nat} (h : k < l.length) : framesA acc (l.drop k) = if (frameOf l[k]).length = 0 ∨ 60000 < acc.length + (frameOf l[k]).length then [] else framesA (acc ++ frameOf l[k]) (l.drop (k + 1)) := by
  rw [List.drop_eq_getElem_cons h]
  rfl
theorem isE_of {l : List UInt8} (h : l.length ≠ 0) : l.isEmpty = false := by cases l with
  | nil => exact absurd rfl h
  | cons a l => rfl

theorem implFramesOf_any (v : Value) (l : List (List UInt8)) (w : World) (hl : l.length ≤ 1000000) (hx : ∀ k (hk : k < l.length), l[k].length ≤ 2000000) (h : Rd strE w w.heap.size v l) :
    Calls Try.prog 39 #[v] w (StrPost (framesOf l) w) := by
  obtain ⟨A, c, rfl, -⟩ := id h
  obtain ⟨i0, hi0, hz0, hz1, hz2⟩ := info_parts byte_info
  go_enter Try.func39, Try.ntmps39
  go_wp2
  go_loopw [3, 9] (fun x q wr => ∃ (k : Nat) (L : List UInt8) (v : Value), k ≤ l.length ∧ L.length ≤ 60000 ∧ v = x ∧ q = .int .i64 k ∧ Hid (framesA L (l.drop k) = framesOf l) ∧ Hid (Ow byteE 5 wr w.heap.size v L) ∧ Below w.heap.size w wr) (fun _ q _ => l.length - (intOf q).toNat)
  case atStart => exact ⟨0, [], _, Nat.zero_le _, by simp, rfl, rfl, rfl, Ow.nil _ _ _ _, Below.refl _ _⟩
  case round =>
    obtain ⟨k, L, v, hk, hL, rfl, rfl, hF, hO, hb⟩ := hrel
    by_cases hlt : k < l.length
    · obtain ⟨b, o, rfl, hbb, d0⟩ := (h.below hb).str hlt
      have hs := framesA_step (acc := L) hlt
      have hfl := frameOf_len l[k]
      have hxk := hx k hlt
      by_cases he : (frameOf l[k]).length = 0
      · rw [if_pos (Or.inl he), hF.out] at hs
        have H := Lib.hid hs
        clear hs hF
        have hE : frameOf l[k] = [] := List.eq_nil_of_length_eq_zero he
        go_wp2_with (go_at_call 64; refine (implFrameOf_any _ _ hxk).mono ?_; rintro e w1 ⟨rfl, hb1⟩)
        go_ret
        exact ⟨by rw [H.out]; rfl, bnext hb hb1⟩
      have hem := isE_of he
      by_cases hg : 60000 < L.length + (frameOf l[k]).length
      · rw [if_pos (Or.inr hg), hF.out] at hs
        have H := Lib.hid hs
        have hgI : (60000 : Int) < (L.length : Int) + ((frameOf l[k]).length : Int) := by omega
        clear hs hF
        have HO := hO.out
        obtain ⟨A9, c9, rfl, -⟩ := id (Rd.of_own HO)
        go_wp2_with (go_at_call 64; refine (implFrameOf_any _ _ hxk).mono ?_; rintro e w1 ⟨rfl, hb1⟩)
        go_ret
        exact ⟨by rw [H.out]; rfl, bnext hb hb1⟩
      rw [if_neg (by omega), hF.out] at hs
      have HF := Lib.hid hs.symm
      have hgI : ¬ (60000 : Int) < (L.length : Int) + ((frameOf l[k]).length : Int) := by omega
      have hL2 : (L ++ frameOf l[k]).length ≤ 60000 := by rw [List.length_append]; omega
      clear hs hF
      have HO := hO.out
      obtain ⟨A9, c9, rfl, -⟩ := id (Rd.of_own HO)
      go_wp2_with (first | (go_at_call 64; refine (implFrameOf_any _ _ hxk).mono ?_; rintro e w1 ⟨rfl, hb1⟩) | (at_builtin; refine wpList_push_str (v := .slice A9 L.length c9) (l := L) (y := frameOf l[k]) rfl (.tmp 25) (.tmp 26) rfl Try.underlying128 Try.underlying9 hi0 hz0 hz1 hz2 rfl rfl (HO.below hb1) rfl (by omega) (by omega) (by have := (bnext hb hb1).size; omega) ?_; intro v5 w5 o5 g5 f5; have hb5 := (bnext hb hb1).grown g5 (bnext hb hb1).size (fun g hg => (HO.within g hg).1)))
      exact ⟨⟨k + 1, _, _, by omega, hL2, rfl, by go_num, HF, o5, hb5⟩, by simp [intOf]; omega⟩
    · have H := Lib.hid (show framesOf l = L by rw [← hF.out, List.drop_of_length_le (by omega)]; rfl)
      have HO := hO.out
      obtain ⟨A9, c9, rfl, -⟩ := id (Rd.of_own HO)
      have cv := conv_own HO
      clear hF
      go_wp2
      go_ret
      exact ⟨by rw [H.out]; rfl, hb⟩

theorem specFramesOf_any (v : Value) (l : List (List UInt8)) (w : World) (hl : l.length ≤ 1000000) (hx : ∀ k (hk : k < l.length), l[k].length ≤ 2000000) (h : Rd strE w w.heap.size v l) :
    Calls Try.prog 36 #[v] w (StrPost (framesOf l) w) := by
  obtain ⟨A, c, rfl, -⟩ := id h
  obtain ⟨i0, hi0, hz0, hz1, hz2⟩ := info_parts byte_info
  go_enter Try.func36, Try.ntmps36
  go_wp2
  go_loopw [3, 4] (fun x q wr => ∃ (k : Nat) (L : List UInt8) (v : Value), k ≤ l.length ∧ L.length ≤ 60000 ∧ v = x ∧ q = .int .i64 k ∧ Hid (framesA L (l.drop k) = framesOf l) ∧ Hid (Ow byteE 5 wr w.heap.size v L) ∧ Below w.heap.size w wr) (fun _ q _ => l.length - (intOf q).toNat)
  case atStart => exact ⟨0, [], _, Nat.zero_le _, by simp, rfl, rfl, rfl, Ow.empty byteE 5 w (g := w.heap.size) (by simp), (Below.refl _ _).alloc (Nat.le_refl _) _⟩
  case round =>
    obtain ⟨k, L, v, hk, hL, rfl, rfl, hF, hO, hb⟩ := hrel
    by_cases hlt : k < l.length
    · obtain ⟨b, o, rfl, hbb, d0⟩ := (h.below hb).str hlt
      have hs := framesA_step (acc := L) hlt
      have hfl := frameOf_len l[k]
      have hxk := hx k hlt
      by_cases he : (frameOf l[k]).length = 0
      · rw [if_pos (Or.inl he), hF.out] at hs
        have H := Lib.hid hs
        clear hs hF
        have hE : frameOf l[k] = [] := List.eq_nil_of_length_eq_zero he
        go_wp2_with (go_at_call 58; refine (specFrameOf_any _ _ hxk).mono ?_; rintro e w1 ⟨rfl, hb1⟩)
        go_ret
        exact ⟨by rw [H.out]; rfl, bnext hb hb1⟩
      have hem := isE_of he
      by_cases hg : 60000 < L.length + (frameOf l[k]).length
      · rw [if_pos (Or.inr hg), hF.out] at hs
        have H := Lib.hid hs
        have hgI : (60000 : Int) < (L.length : Int) + ((frameOf l[k]).length : Int) := by omega
        clear hs hF
        have HO := hO.out
        obtain ⟨A9, c9, rfl, -⟩ := id (Rd.of_own HO)
        go_wp2_with (go_at_call 58; refine (specFrameOf_any _ _ hxk).mono ?_; rintro e w1 ⟨rfl, hb1⟩)
        go_ret
        exact ⟨by rw [H.out]; rfl, bnext hb hb1⟩
      rw [if_neg (by omega), hF.out] at hs
      have HF := Lib.hid hs.symm
      have hgI : ¬ (60000 : Int) < (L.length : Int) + ((frameOf l[k]).length : Int) := by omega
      have hL2 : (L ++ frameOf l[k]).length ≤ 60000 := by rw [List.length_append]; omega
      clear hs hF
      have HO := hO.out
      obtain ⟨A9, c9, rfl, -⟩ := id (Rd.of_own HO)
      go_wp2_with (first | (go_at_call 58; refine (specFrameOf_any _ _ hxk).mono ?_; rintro e w1 ⟨rfl, hb1⟩) | (at_builtin; refine wpList_push_str (v := .slice A9 L.length c9) (l := L) (y := frameOf l[k]) rfl (.tmp 28) (.tmp 29) rfl Try.underlying128 Try.underlying9 hi0 hz0 hz1 hz2 rfl rfl (HO.below hb1) rfl (by omega) (by omega) (by have := (bnext hb hb1).size; omega) ?_; intro v5 w5 o5 g5 f5; have hb5 := (bnext hb hb1).grown g5 (bnext hb hb1).size (fun g hg => (HO.within g hg).1)))
      exact ⟨⟨k + 1, _, _, by omega, hL2, rfl, by go_num, HF, o5, hb5⟩, by simp [intOf]; omega⟩
    · have H := Lib.hid (show framesOf l = L by rw [← hF.out, List.drop_of_length_le (by omega)]; rfl)
      have HO := hO.out
      obtain ⟨A9, c9, rfl, -⟩ := id (Rd.of_own HO)
      have cv := conv_own HO
      clear hF
      go_wp2
      go_ret
      exact ⟨by rw [H.out]; rfl, hb⟩
end Go.Proofs.Ytjobmbjadpldfaa
