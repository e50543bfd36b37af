/-
  FourOf, FrameOf of both.
-/
import Derived.Test.YtjobmbjadpldfaaVb
namespace Go.Proofs.Ytjobmbjadpldfaa
open Go.RowKit
set_option maxRecDepth 100000
set_option maxHeartbeats 2000000
set_option linter.unusedVariables false
set_option linter.unusedSimpArgs false

def fourL (n : Nat) : List UInt8 := [UInt8.ofNat (n / 16777216), UInt8.ofNat (n / 65536 % 256), UInt8.ofNat (n / 256 % 256), UInt8.ofNat (n % 256)]
def fourOf (n : Int) : List UInt8 := if inB n 0 4294967295 then fourL n.toNat else []
/-- a body with its length and its sum ahead -/
def frameOf (l : List UInt8) : List UInt8 := if inB (l.length : Int) 1 400 then varText l.length ++ fourOf (sumOf l) ++ l else []
theorem four_eq {n : Int} (h : 0 ≤ n ∧ n ≤ 4294967295) : [n / 16777216, n / 65536 % 256, n / 256 % 256, n % 256] = (fourL n.toNat).map fun b => (b.toNat : Int) := by
  obtain ⟨m, rfl⟩ := Int.eq_ofNat_of_zero_le h.1
  simp only [fourL, List.map, Int.toNat_natCast, List.cons.injEq, and_true]
  refine ⟨?_, ?_, ?_, ?_⟩ <;> simp <;> omega
/-- a row of bytes that was just laid, made a text -/
theorem conv_new (w : World) (ns : List Int) (l : List UInt8) (h : ns = l.map fun b => (b.toNat : Int)) (c : Nat) (T : TypeId) :
    (convert 128 9 (.slice (some ⟨w.heap.size, 0, none⟩) l.length c)).run Try.prog (w.alloc (.cells (ns.map (Value.int .u8)).toArray T)) = .ok (strV l) (w.alloc (.cells (ns.map (Value.int .u8)).toArray T)) := by
  subst h
  refine run_convert_bytes_back (P := Try.prog) _ 128 9 5 ⟨w.heap.size, 0, none⟩ c l Try.underlying128 Try.underlying5 Try.underlying9 (fun j hj => ?_)
  have e : (⟨w.heap.size, 0, none⟩ : Addr).add j = ⟨w.heap.size, j, none⟩ := by unfold Addr.add; split <;> simp_all
  rw [e]
  simp [go_sem, hj]

theorem implFourOf_any (n : Int) (w : World) :
    Calls Try.prog 92 #[.int .i64 n] w (StrPost (fourOf n) w) := by
  by_cases hi : inB n 0 4294967295 = true
  case neg =>
    have hif : inB n 0 4294967295 = false := by simpa using hi
    have H := Lib.hid (show fourOf n = [] by unfold fourOf; rw [if_neg hi])
    go_enter Try.func92, Try.ntmps92
    go_wp2_with (go_at_call 61; refine (within_any _ _ _ _).mono ?_; rintro e w3 ⟨rfl, rfl⟩)
    go_ret
    exact ⟨by rw [H.out]; rfl, Below.refl _ _⟩
  have H := Lib.hid (show fourOf n = fourL n.toNat by unfold fourOf; rw [if_pos hi])
  have hn0 : 0 ≤ n ∧ n ≤ 4294967295 := by simpa [inB] using hi
  have cv : (convert 128 9 (.slice (some ⟨w.heap.size, 0, none⟩) 4 4)).run Try.prog (w.alloc (.cells #[.int .u8 (n / 16777216), .int .u8 (n / 65536 % 256), .int .u8 (n / 256 % 256), .int .u8 (n % 256)] 5)) = .ok (strV (fourL n.toNat)) (w.alloc (.cells #[.int .u8 (n / 16777216), .int .u8 (n / 65536 % 256), .int .u8 (n / 256 % 256), .int .u8 (n % 256)] 5)) := conv_new w [n / 16777216, n / 65536 % 256, n / 256 % 256, n % 256] (fourL n.toNat) (four_eq hn0) 4 5
  go_enter Try.func92, Try.ntmps92
  go_wp2_with (go_at_call 61; refine (within_any _ _ _ _).mono ?_; rintro e w3 ⟨rfl, rfl⟩)
  go_ret
  exact ⟨by rw [H.out]; rfl, (Below.refl _ _).alloc (Nat.le_refl _) _⟩

theorem specFourOf_any (n : Int) (w : World) :
    Calls Try.prog 86 #[.int .i64 n] w (StrPost (fourOf n) w) := by
  by_cases hi : inB n 0 4294967295 = true
  case neg =>
    have hif : inB n 0 4294967295 = false := by simpa using hi
    have H := Lib.hid (show fourOf n = [] by unfold fourOf; rw [if_neg hi])
    go_enter Try.func86, Try.ntmps86
    go_wp2_with (go_at_call 56; refine (l01In_any _ _ _ _).mono ?_; rintro e w3 ⟨rfl, rfl⟩)
    go_ret
    exact ⟨by rw [H.out]; rfl, Below.refl _ _⟩
  have H := Lib.hid (show fourOf n = fourL n.toNat by unfold fourOf; rw [if_pos hi])
  have hn0 : 0 ≤ n ∧ n ≤ 4294967295 := by simpa [inB] using hi
  have cv : (convert 128 9 (.slice (some ⟨w.heap.size, 0, none⟩) 4 4)).run Try.prog (w.alloc (.cells #[.int .u8 (n / 16777216), .int .u8 (n / 65536 % 256), .int .u8 (n / 256 % 256), .int .u8 (n % 256)] 5)) = .ok (strV (fourL n.toNat)) (w.alloc (.cells #[.int .u8 (n / 16777216), .int .u8 (n / 65536 % 256), .int .u8 (n / 256 % 256), .int .u8 (n % 256)] 5)) := conv_new w [n / 16777216, n / 65536 % 256, n / 256 % 256, n % 256] (fourL n.toNat) (four_eq hn0) 4 5
  go_enter Try.func86, Try.ntmps86
  go_wp2_with (go_at_call 56; refine (l01In_any _ _ _ _).mono ?_; rintro e w3 ⟨rfl, rfl⟩)
  go_ret
  exact ⟨by rw [H.out]; rfl, (Below.refl _ _).alloc (Nat.le_refl _) _⟩

theorem fourOf_len (n : Int) : (fourOf n).length ≤ 4 := by
  unfold fourOf
  split <;> simp [fourL]
theorem cat_bytes (a b : List UInt8) : ((⟨a.toArray⟩ : ByteArray) ++ (⟨b.toArray⟩ : ByteArray)) = ⟨(a ++ b).toArray⟩ := by
  apply ByteArray.ext
  rw [ByteArray.data_append]
  simp

theorem implFrameOf_any (l : List UInt8) (w : World) (hl : l.length ≤ 2000000) :
    Calls Try.prog 64 #[strV l] w (StrPost (frameOf l) w) := by
  have hsz : (⟨l.toArray⟩ : ByteArray).size = l.length := by simp [ByteArray.size]
  by_cases hi : inB (l.length : Int) 1 400 = true
  case neg =>
    have hif : inB (l.length : Int) 1 400 = false := by simpa using hi
    have H := Lib.hid (show frameOf l = [] by unfold frameOf; rw [if_neg hi])
    go_enter Try.func64, Try.ntmps64
    go_wp2_with (go_at_call 61; refine (within_any _ _ _ _).mono ?_; rintro e w3 ⟨rfl, rfl⟩)
    go_ret
    exact ⟨by rw [H.out]; rfl, Below.refl _ _⟩
  have H := Lib.hid (show frameOf l = varText l.length ++ fourOf (sumOf l) ++ l by unfold frameOf; rw [if_pos hi])
  have hvl := varText_len l.length
  have hfl := fourOf_len (sumOf l)
  have g1 : ¬ 9223372036854775807 < (varText l.length).length + (fourOf (sumOf l)).length := by omega
  have g2 : ¬ 9223372036854775807 < (varText l.length).length + (fourOf (sumOf l)).length + l.length := by omega
  go_enter Try.func64, Try.ntmps64
  go_wp2_with (first | (go_at_call 91; refine (implVarText_any _ _).mono ?_; rintro e w1 ⟨rfl, hb1⟩; have c1 := cat_bytes (varText l.length) (fourOf (sumOf l))) | (go_at_call 93; refine (implSumOf_any _ _ hl).mono ?_; rintro e w2 ⟨rfl, hb2⟩) | (go_at_call 92; refine (implFourOf_any _ _).mono ?_; rintro e w3 ⟨rfl, hb3⟩; have c2 := cat_bytes (varText l.length ++ fourOf (sumOf l)) l) | (go_at_call 61; refine (within_any _ _ _ _).mono ?_; rintro e w9 ⟨rfl, rfl⟩))
  go_ret
  exact ⟨by rw [H.out, List.append_assoc]; rfl, bnext hb1 (bnext hb2 hb3)⟩

theorem specFrameOf_any (l : List UInt8) (w : World) (hl : l.length ≤ 2000000) :
    Calls Try.prog 58 #[strV l] w (StrPost (frameOf l) w) := by
  have hsz : (⟨l.toArray⟩ : ByteArray).size = l.length := by simp [ByteArray.size]
  by_cases hi : inB (l.length : Int) 1 400 = true
  case neg =>
    have hif : inB (l.length : Int) 1 400 = false := by simpa using hi
    have H := Lib.hid (show frameOf l = [] by unfold frameOf; rw [if_neg hi])
    by_cases h0 : l.length = 0
    · obtain rfl : l = [] := List.eq_nil_of_length_eq_zero h0
      go_enter Try.func58, Try.ntmps58
      go_wp2
      go_ret
      exact ⟨by rw [H.out]; rfl, Below.refl _ _⟩
    · have h4 : (400 : Int) < (l.length : Int) := by simp [inB] at hif; omega
      have hem : l.isEmpty = false := by cases l with
        | nil => exact absurd rfl h0
        | cons a l => rfl
      go_enter Try.func58, Try.ntmps58
      go_wp2
      go_ret
      exact ⟨by rw [H.out]; rfl, Below.refl _ _⟩
  have H := Lib.hid (show frameOf l = varText l.length ++ fourOf (sumOf l) ++ l by unfold frameOf; rw [if_pos hi])
  have hvl := varText_len l.length
  have hfl := fourOf_len (sumOf l)
  have g1 : ¬ 9223372036854775807 < (varText l.length).length + (fourOf (sumOf l)).length := by omega
  have g2 : ¬ 9223372036854775807 < (varText l.length).length + (fourOf (sumOf l)).length + l.length := by omega
  have h0 : 1 ≤ l.length ∧ l.length ≤ 400 := by simp [inB] at hi; omega
  have h4 : ¬ (400 : Int) < (l.length : Int) := by omega
  have hem : l.isEmpty = false := by cases l with
    | nil => simp at h0
    | cons a l => rfl
  go_enter Try.func58, Try.ntmps58
  go_wp2_with (first | (go_at_call 85; refine (specVarText_any _ _).mono ?_; rintro e w1 ⟨rfl, hb1⟩; have c1 := cat_bytes (varText l.length) (fourOf (sumOf l))) | (go_at_call 87; refine (specSumOf_any _ _ hl).mono ?_; rintro e w2 ⟨rfl, hb2⟩) | (go_at_call 86; refine (specFourOf_any _ _).mono ?_; rintro e w3 ⟨rfl, hb3⟩; have c2 := cat_bytes (varText l.length ++ fourOf (sumOf l)) l))
  go_ret
  exact ⟨by rw [H.out, List.append_assoc]; rfl, bnext hb1 (bnext hb2 hb3)⟩
end Go.Proofs.Ytjobmbjadpldfaa
