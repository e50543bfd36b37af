/-
  vars, l02Vars: numbers as bytes, one behind the other.
-/
import Derived.Test.YtjobmbjadpldfaaVd
namespace Go.Proofs.Ytjobmbjadpldfaa
open Go.RowKit
set_option maxRecDepth 100000
set_option maxHeartbeats 2000000
set_option linter.unusedVariables false
set_option linter.unusedSimpArgs false

def varsOf (l : List Int) : List UInt8 := l.flatMap varText
theorem varsOf_len (l : List Int) : (varsOf l).length ≤ 5 * l.length := by
  induction l with
  | nil => simp [varsOf]
  | cons a l ih =>
    have := varText_len a
    rw [show varsOf (a :: l) = varText a ++ varsOf l from rfl, List.length_append, List.length_cons]
    omega
theorem varsOf_take (l : List Int) (k : Nat) (h : k < l.length) : varsOf (l.take (k + 1)) = varsOf (l.take k) ++ varText l[k] := by
  rw [List.take_succ_eq_append_getElem h]
  simp only [varsOf, List.flatMap_append, List.flatMap_cons, List.flatMap_nil, List.append_nil]

theorem implVars_any (v : Value) (l : List Int) (w : World) (hl : l.length ≤ 500000) (h : Rd intE w w.heap.size v l) :
    Calls Try.prog 62 #[v] w (StrPost (varsOf l) w) := by
  obtain ⟨A, c, rfl, -⟩ := id h
  obtain ⟨i0, hi0, hz0, hz1, hz2⟩ := info_parts byte_info
  go_enter Try.func62, Try.ntmps62
  go_wp2
  go_loopw [3, 8] (fun x q wr => ∃ (k : Nat) (v : Value), k ≤ l.length ∧ v = x ∧ q = .int .i64 k ∧ Hid (Ow byteE 5 wr w.heap.size v (varsOf (l.take k))) ∧ Below w.heap.size w wr) (fun _ q _ => l.length - (intOf q).toNat)
  case atStart => exact ⟨0, _, Nat.zero_le _, rfl, rfl, by rw [List.take_zero]; exact Ow.nil _ _ _ _, Below.refl _ _⟩
  case round =>
    obtain ⟨k, v, hk, rfl, rfl, hO, hb⟩ := hrel
    have hvl := varsOf_len (l.take k)
    rw [List.length_take] at hvl
    by_cases hlt : k < l.length
    · obtain ⟨b, o, rfl, hbb, d0⟩ := (h.below hb).int hlt
      have HT := Lib.hid (varsOf_take l k hlt)
      have hvt := varText_len l[k]
      generalize varsOf (l.take k) = L at *
      go_wp2_with (first | (go_at_call 91; refine (implVarText_any _ _).mono ?_; rintro e w1 ⟨rfl, hb1⟩) | (at_builtin; refine wpList_push_str (v := v) (l := L) (y := varText l[k]) rfl (.tmp 12) (.tmp 14) rfl Try.underlying128 Try.underlying9 hi0 hz0 hz1 hz2 rfl rfl (hO.out.below hb1) rfl (by omega) (by omega) (by have := (bnext hb hb1).size; omega) ?_; intro v5 w5 o5 g5 f5; have hb5 := (bnext hb hb1).grown g5 (bnext hb hb1).size (fun g hg => (hO.out.within g hg).1)))
      exact ⟨⟨k + 1, _, by omega, rfl, by go_num, by rw [HT.out]; exact o5, hb5⟩, by simp [intOf]; omega⟩
    · have H := Lib.hid (show varsOf l = varsOf (l.take k) by rw [List.take_of_length_le (by omega)])
      have HO := hO.out
      clear hO
      generalize varsOf (l.take k) = L at *
      obtain ⟨A9, c9, rfl, -⟩ := id (Rd.of_own HO)
      have cv := conv_own HO
      go_wp2
      go_ret
      exact ⟨by rw [H.out]; rfl, hb⟩

theorem specVars_any (v : Value) (l : List Int) (w : World) (hl : l.length ≤ 500000) (h : Rd intE w w.heap.size v l) :
    Calls Try.prog 57 #[v] w (StrPost (varsOf l) w) := by
  obtain ⟨A, c, rfl, -⟩ := id h
  go_enter Try.func57, Try.ntmps57
  go_wp2
  go_loopw [3, 4] (fun x q wr => ∃ (k : Nat), k ≤ l.length ∧ x = strV (varsOf (l.take k)) ∧ q = .int .i64 k ∧ Below w.heap.size w wr) (fun _ q _ => l.length - (intOf q).toNat)
  case atStart => exact ⟨0, Nat.zero_le _, by rw [List.take_zero]; rfl, rfl, Below.refl _ _⟩
  case round =>
    obtain ⟨k, hk, rfl, rfl, hb⟩ := hrel
    have hvl := varsOf_len (l.take k)
    rw [List.length_take] at hvl
    by_cases hlt : k < l.length
    · obtain ⟨b, o, rfl, hbb, d0⟩ := (h.below hb).int hlt
      have HT := Lib.hid (varsOf_take l k hlt)
      have hvt := varText_len l[k]
      generalize varsOf (l.take k) = L at *
      have hg : ¬ 9223372036854775807 < L.length + (varText l[k]).length := by omega
      go_wp2_with (go_at_call 85; refine (specVarText_any _ _).mono ?_; rintro e w1 ⟨rfl, hb1⟩)
      exact ⟨⟨k + 1, by omega, by rw [HT.out]; first | rfl | rw [cat_bytes], by go_num, bnext hb hb1⟩, by simp [intOf]; omega⟩
    · have H := Lib.hid (show varsOf l = varsOf (l.take k) by rw [List.take_of_length_le (by omega)])
      generalize varsOf (l.take k) = L at *
      go_wp2
      go_ret
      exact ⟨by rw [H.out]; rfl, hb⟩
end Go.Proofs.Ytjobmbjadpldfaa
