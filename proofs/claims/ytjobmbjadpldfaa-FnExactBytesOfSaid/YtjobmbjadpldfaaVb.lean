/-
  SumOf, FourOf, FrameOf of both.
-/
import Derived.Test.YtjobmbjadpldfaaVa
namespace Go.Proofs.Ytjobmbjadpldfaa
open Go.RowKit
set_option maxRecDepth 100000
set_option maxHeartbeats 2000000
set_option linter.unusedVariables false
set_option linter.unusedSimpArgs false

theorem xor_i64 (a b : Nat) (ha : a < 9223372036854775808) (hb : b < 9223372036854775808) : bits .xor .i64 (a : Int) (b : Int) = ((a ^^^ b : Nat) : Int) := by
  have hx : a ^^^ b < 2 ^ 63 := Nat.xor_lt_two_pow (by omega) (by omega)
  have h1 : (BitVec.ofInt 64 (a : Int)).toNat = a := by
    rw [BitVec.ofInt_natCast, BitVec.toNat_ofNat]; exact Nat.mod_eq_of_lt (by omega)
  have h2 : (BitVec.ofInt 64 (b : Int)).toNat = b := by
    rw [BitVec.ofInt_natCast, BitVec.toNat_ofNat]; exact Nat.mod_eq_of_lt (by omega)
  show IntKind.i64.wrap ((BitVec.ofInt 64 (a : Int) ^^^ BitVec.ofInt 64 (b : Int)).toNat : Int) = _
  rw [BitVec.toNat_xor, h1, h2, IntKind.wrap_i64]
  generalize a ^^^ b = y at *
  have hy : y < 9223372036854775808 := hx
  clear h1 h2 hx
  rw [Int.emod_eq_of_lt (by omega) (by omega), Int.add_sub_cancel]
def crcStep (x : Nat) : Nat := if x % 2 = 1 then (x / 2) ^^^ 3988292384 else x / 2
def crcSteps : Nat → Nat → Nat
  | 0, x => x
  | k + 1, x => crcStep (crcSteps k x)
def crcByte (x : Nat) (b : UInt8) : Nat := crcSteps 8 (x ^^^ b.toNat)
def sumOf (l : List UInt8) : Int := ((l.foldl crcByte 4294967295 ^^^ 4294967295 : Nat) : Int)
theorem crcStep_lt {x : Nat} (h : x < 4294967296) : crcStep x < 4294967296 := by
  unfold crcStep
  split
  · exact Nat.xor_lt_two_pow (n := 32) (by omega) (by omega)
  · omega
theorem crcSteps_lt (k : Nat) {x : Nat} (h : x < 4294967296) : crcSteps k x < 4294967296 := by
  induction k with
  | zero => exact h
  | succ k ih => exact crcStep_lt ih
theorem crcByte_lt {x : Nat} (h : x < 4294967296) (b : UInt8) : crcByte x b < 4294967296 := by
  have hb : b.toNat < 256 := b.toNat_lt
  exact crcSteps_lt 8 (Nat.xor_lt_two_pow (n := 32) h (by omega))
theorem crcFold_lt (l : List UInt8) : ∀ {x : Nat}, x < 4294967296 → l.foldl crcByte x < 4294967296 := by
  induction l with
  | nil => intro x h; exact h
  | cons b l ih => intro x h; exact ih (crcByte_lt h b)
theorem sumOf_bd (l : List UInt8) : 0 ≤ sumOf l ∧ sumOf l ≤ 4294967295 := by
  have h : l.foldl crcByte 4294967295 ^^^ 4294967295 < 4294967296 := Nat.xor_lt_two_pow (n := 32) (crcFold_lt l (by omega)) (by omega)
  unfold sumOf
  omega

theorem implSumOf_any (l : List UInt8) (w : World) (hl : l.length ≤ 2000000) :
    Calls Try.prog 93 #[strV l] w fun e w' => e = .returned (.int .i64 (sumOf l)) ∧ Below w.heap.size w w' := by
  have hsz : (⟨l.toArray⟩ : ByteArray).size = l.length := by simp [ByteArray.size]
  go_enter Try.func93, Try.ntmps93
  go_wp2
  go_loopw [3, 4] (fun s i wr => ∃ (x k : Nat), k ≤ l.length ∧ x < 4294967296 ∧ s = .int .i64 x ∧ i = .int .i64 k ∧ Hid ((l.take k).foldl crcByte 4294967295 = x) ∧ Below w.heap.size w wr) (fun _ i _ => l.length - (intOf i).toNat)
  case atStart => exact ⟨4294967295, 0, Nat.zero_le _, by decide, rfl, rfl, by rw [List.take_zero]; rfl, Below.refl _ _⟩
  case round =>
    obtain ⟨x, k, hk, hx, rfl, rfl, hF, hb⟩ := hrel
    by_cases hlt : k < l.length
    · have hltI : (k : Int) < (l.length : Int) := by omega
      have hc : l[k].toNat < 256 := l[k].toNat_lt
      have ex := xor_i64 x l[k].toNat (by omega) (by omega)
      have hX0 : x ^^^ l[k].toNat < 4294967296 := Nat.xor_lt_two_pow (n := 32) hx (by omega)
      have hex : bits .xor .i64 (x : Int) (wrap64 (((⟨l.toArray⟩ : ByteArray)[k]'(by rw [hsz]; exact hlt)).toNat : Int)) = ((x ^^^ l[k].toNat : Nat) : Int) := by
        rw [← ex]
        congr 1
        show wrap64 (l[k].toNat : Int) = _
        generalize l[k].toNat = q at *
        unfold wrap64
        omega
      have HF := Lib.hid (show (l.take (k + 1)).foldl crcByte 4294967295 = crcSteps 8 (x ^^^ l[k].toNat) by
        rw [List.take_succ_eq_append_getElem hlt, List.foldl_append, hF.out]
        rfl)
      clear hF
      go_wp2
      generalize x ^^^ l[k].toNat = z at *
      go_loopw [3, 5] (fun s q wr => ∃ (y j : Nat), j ≤ 8 ∧ y < 4294967296 ∧ s = .int .i64 y ∧ q = .int .i64 j ∧ Hid (crcSteps j z = y) ∧ Below w.heap.size w wr) (fun _ q _ => 8 - (intOf q).toNat)
      case atStart => exact ⟨z, 0, by omega, hX0, by first | rfl | rw [hex], rfl, rfl, hb⟩
      case round =>
        clear hb
        obtain ⟨y, j, hj, hy, rfl, rfl, hC, hb⟩ := hrel
        by_cases hj8 : j < 8
        · have hj8I : (j : Int) < 8 := by omega
          have eo : bits .xor .i64 ((y : Int) / 2) 3988292384 = ((y / 2 ^^^ 3988292384 : Nat) : Int) := by
            have := xor_i64 (y / 2) 3988292384 (by omega) (by omega)
            rw [← this]
            congr 1 <;> omega
          have hlt2 : y / 2 ^^^ 3988292384 < 4294967296 := Nat.xor_lt_two_pow (n := 32) (by omega) (by omega)
          by_cases ho : y % 2 = 1
          · have hoI : (y : Int) % 2 = 1 := by omega
            have HC := Lib.hid (show crcSteps (j + 1) z = y / 2 ^^^ 3988292384 by
              show crcStep (crcSteps j z) = _
              rw [hC.out]
              unfold crcStep
              rw [if_pos ho])
            clear ho hC
            go_wp2
            exact ⟨⟨_, j + 1, by omega, hlt2, rfl, by go_num, HC, hb⟩, by simp [intOf]; omega⟩
          · have hoI : (y : Int) % 2 = 0 := by omega
            have HC := Lib.hid (show crcSteps (j + 1) z = y / 2 by
              show crcStep (crcSteps j z) = _
              rw [hC.out]
              unfold crcStep
              rw [if_neg ho])
            clear ho hC
            go_wp2
            exact ⟨⟨y / 2, j + 1, by omega, by omega, by go_num, by go_num, HC, hb⟩, by simp [intOf]; omega⟩
        · have HE := Lib.hid (show (l.take (k + 1)).foldl crcByte 4294967295 = y by
            rw [HF.out, ← hC.out, show j = 8 by omega])
          have hj8I : ¬ (j : Int) < 8 := by omega
          clear hC HF
          go_wp2
          exact ⟨⟨y, k + 1, by omega, hy, rfl, by go_num, HE, hb⟩, by simp [intOf]; omega⟩
    · have H := Lib.hid (show sumOf l = ((x ^^^ 4294967295 : Nat) : Int) by
        have := hF.out
        rw [List.take_of_length_le (by omega)] at this
        unfold sumOf
        rw [this])
      have ex : bits .xor .i64 (x : Int) 4294967295 = ((x ^^^ 4294967295 : Nat) : Int) := xor_i64 x 4294967295 (by omega) (by omega)
      go_wp2
      go_ret
      exact ⟨by rw [H.out]; rfl, hb⟩

theorem specSumOf_any (l : List UInt8) (w : World) (hl : l.length ≤ 2000000) :
    Calls Try.prog 87 #[strV l] w fun e w' => e = .returned (.int .i64 (sumOf l)) ∧ Below w.heap.size w w' := by
  have hsz : (⟨l.toArray⟩ : ByteArray).size = l.length := by simp [ByteArray.size]
  go_enter Try.func87, Try.ntmps87
  go_wp2
  go_loopw [3, 4] (fun s i wr => ∃ (x k : Nat), k ≤ l.length ∧ x < 4294967296 ∧ s = .int .i64 x ∧ i = .int .i64 k ∧ Hid ((l.take k).foldl crcByte 4294967295 = x) ∧ Below w.heap.size w wr) (fun _ i _ => l.length - (intOf i).toNat)
  case atStart => exact ⟨4294967295, 0, Nat.zero_le _, by decide, rfl, rfl, by rw [List.take_zero]; rfl, Below.refl _ _⟩
  case round =>
    obtain ⟨x, k, hk, hx, rfl, rfl, hF, hb⟩ := hrel
    by_cases hlt : k < l.length
    · have hltI : (k : Int) < (l.length : Int) := by omega
      have hc : l[k].toNat < 256 := l[k].toNat_lt
      have ex := xor_i64 x l[k].toNat (by omega) (by omega)
      have hX0 : x ^^^ l[k].toNat < 4294967296 := Nat.xor_lt_two_pow (n := 32) hx (by omega)
      have hex : bits .xor .i64 (x : Int) (wrap64 (((⟨l.toArray⟩ : ByteArray)[k]'(by rw [hsz]; exact hlt)).toNat : Int)) = ((x ^^^ l[k].toNat : Nat) : Int) := by
        rw [← ex]
        congr 1
        show wrap64 (l[k].toNat : Int) = _
        generalize l[k].toNat = q at *
        unfold wrap64
        omega
      have HF := Lib.hid (show (l.take (k + 1)).foldl crcByte 4294967295 = crcSteps 8 (x ^^^ l[k].toNat) by
        rw [List.take_succ_eq_append_getElem hlt, List.foldl_append, hF.out]
        rfl)
      clear hF
      go_wp2
      generalize x ^^^ l[k].toNat = z at *
      go_loopw [3, 5] (fun s q wr => ∃ (y j : Nat), j ≤ 8 ∧ y < 4294967296 ∧ s = .int .i64 y ∧ q = .int .i64 j ∧ Hid (crcSteps j z = y) ∧ Below w.heap.size w wr) (fun _ q _ => 8 - (intOf q).toNat)
      case atStart => exact ⟨z, 0, by omega, hX0, by first | rfl | rw [hex], rfl, rfl, hb⟩
      case round =>
        clear hb
        obtain ⟨y, j, hj, hy, rfl, rfl, hC, hb⟩ := hrel
        by_cases hj8 : j < 8
        · have hj8I : (j : Int) < 8 := by omega
          have eo : bits .xor .i64 ((y : Int) / 2) 3988292384 = ((y / 2 ^^^ 3988292384 : Nat) : Int) := by
            have := xor_i64 (y / 2) 3988292384 (by omega) (by omega)
            rw [← this]
            congr 1 <;> omega
          have hlt2 : y / 2 ^^^ 3988292384 < 4294967296 := Nat.xor_lt_two_pow (n := 32) (by omega) (by omega)
          by_cases ho : y % 2 = 1
          · have hoI : (y : Int) % 2 = 1 := by omega
            have HC := Lib.hid (show crcSteps (j + 1) z = y / 2 ^^^ 3988292384 by
              show crcStep (crcSteps j z) = _
              rw [hC.out]
              unfold crcStep
              rw [if_pos ho])
            clear ho hC
            go_wp2
            exact ⟨⟨_, j + 1, by omega, hlt2, rfl, by go_num, HC, hb⟩, by simp [intOf]; omega⟩
          · have hoI : (y : Int) % 2 = 0 := by omega
            have HC := Lib.hid (show crcSteps (j + 1) z = y / 2 by
              show crcStep (crcSteps j z) = _
              rw [hC.out]
              unfold crcStep
              rw [if_neg ho])
            clear ho hC
            go_wp2
            exact ⟨⟨y / 2, j + 1, by omega, by omega, by go_num, by go_num, HC, hb⟩, by simp [intOf]; omega⟩
        · have HE := Lib.hid (show (l.take (k + 1)).foldl crcByte 4294967295 = y by
            rw [HF.out, ← hC.out, show j = 8 by omega])
          have hj8I : ¬ (j : Int) < 8 := by omega
          clear hC HF
          go_wp2
          exact ⟨⟨y, k + 1, by omega, hy, rfl, by go_num, HE, hb⟩, by simp [intOf]; omega⟩
    · have H := Lib.hid (show sumOf l = ((x ^^^ 4294967295 : Nat) : Int) by
        have := hF.out
        rw [List.take_of_length_le (by omega)] at this
        unfold sumOf
        rw [this])
      have ex : bits .xor .i64 (x : Int) 4294967295 = ((x ^^^ 4294967295 : Nat) : Int) := xor_i64 x 4294967295 (by omega) (by omega)
      go_wp2
      go_ret
      exact ⟨by rw [H.out]; rfl, hb⟩
end Go.Proofs.Ytjobmbjadpldfaa
