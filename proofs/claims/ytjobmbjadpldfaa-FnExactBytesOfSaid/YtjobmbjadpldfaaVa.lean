/-
  Numbers as bytes: VarText of both.
-/
import Derived.Test.YtjobmbjadpldfaaDr
import Derived.Test.YtjobmbjadpldfaaWi
import Derived.Test.YtjobmbjadpldfaaAp
namespace Go.Proofs.Ytjobmbjadpldfaa
open Go.RowKit
set_option maxRecDepth 100000
set_option maxHeartbeats 2000000
set_option linter.unusedVariables false
set_option linter.unusedSimpArgs false

/-- a text -/
abbrev strV (l : List UInt8) : Value := .string ⟨l.toArray⟩
/-- a number as bytes, seven bits each -/
def varL (n : Nat) : List UInt8 := if h : n < 128 then [UInt8.ofNat n] else UInt8.ofNat (n % 128 + 128) :: varL (n / 128)
termination_by n
decreasing_by omega
def varText (n : Int) : List UInt8 := if inB n 0 1000000000 then varL n.toNat else []
theorem varL_len (n k : Nat) (h : n < 128 ^ (k + 1)) : (varL n).length ≤ k + 1 := by
  induction k generalizing n with
  | zero => rw [varL, dif_pos (by simpa using h)]; simp
  | succ k ih =>
    rw [varL]
    split
    · simp
    · rw [List.length_cons]
      have := ih (n / 128) (by rw [Nat.div_lt_iff_lt_mul (by decide)]; rw [Nat.pow_succ] at h; exact h)
      omega
theorem varText_len (n : Int) : (varText n).length ≤ 5 := by
  unfold varText
  split
  · rename_i h
    refine varL_len _ 4 ?_
    simp [inB] at h
    omega
  · simp
theorem byte_info : (Try.prog.info? 5).map (fun i => (i.zero, i.size, i.bytes)) = some (some (.int .u8 0), 1, 1) := by kernel_rfl
theorem wrap_u8 (n : Int) (h : 0 ≤ n ∧ n < 256) : IntKind.u8.wrap n = n := by
  rw [IntKind.wrap_u8]
  omega
/-- what stands behind is a text that was there -/
def StrPost (l : List UInt8) (w : World) (e : Ending) (w' : World) : Prop := e = .returned (strV l) ∧ Below w.heap.size w w'
/-- bytes of the call's own, made a text -/
theorem conv_own {base n c : Nat} {A : Option Addr} {l : List UInt8} {w : World} (h : Ow byteE 5 w base (.slice A n c) l) :
    (convert 128 9 (.slice A n c)).run Try.prog w = .ok (strV l) w := by
  rcases h.form with ⟨h1, rfl⟩ | ⟨g, cap, h1, _, _, _, _, _, hc⟩
  · simp only [Value.slice.injEq] at h1
    obtain ⟨rfl, rfl, rfl⟩ := h1
    rw [run_convert_bytes_string w _ _ 5 none 0 0 Try.underlying128 Try.underlying5 Try.underlying9]
    rfl
  · simp only [Value.slice.injEq] at h1
    obtain ⟨rfl, rfl, rfl⟩ := h1
    exact run_convert_bytes_back (P := Try.prog) w 128 9 5 ⟨g, 0, none⟩ c l Try.underlying128 Try.underlying5 Try.underlying9 (fun j hj => by
      have := hc j hj 0 _ rfl
      have e : (⟨g, 0, none⟩ : Addr).add j = ⟨g, j, none⟩ := by unfold Addr.add; split <;> simp_all
      rw [e]
      simpa [byteE] using this)

theorem news_byte (w : World) (n : Int) (x : UInt8) (h : (x.toNat : Int) = n) (T : TypeId) : ∀ (j : Nat) (u : Value), (byteE.cells x)[j]? = some u → (w.alloc (.cells #[.int .u8 n] T)).cell? ((⟨w.heap.size, 0, none⟩ : Addr).add j) = some u := by
  subst h
  exact news_new _ #[_] _ (by simp)

theorem implVarText_any (n : Int) (w : World) :
    Calls Try.prog 91 #[.int .i64 n] w (StrPost (varText n) w) := by
  by_cases hi : inB n 0 1000000000 = true
  case neg =>
    have hif : inB n 0 1000000000 = false := by simpa using hi
    have H := Lib.hid (show varText n = [] by unfold varText; rw [if_neg hi])
    go_enter Try.func91, Try.ntmps91
    go_wp2_with (go_at_call 61; refine (within_any _ _ _ _).mono ?_; rintro e w3 ⟨rfl, rfl⟩)
    go_ret
    exact ⟨by rw [H.out]; rfl, Below.refl _ _⟩
  obtain ⟨i0, hi0, hz0, hz1, hz2⟩ := info_parts byte_info
  have hV := Lib.hid (show varText n = varL n.toNat by unfold varText; rw [if_pos hi])
  have hn0 : 0 ≤ n ∧ n ≤ 1000000000 := by simpa [inB] using hi
  go_enter Try.func91, Try.ntmps91
  go_wp2_with (go_at_call 61; refine (within_any _ _ _ _).mono ?_; rintro e w3 ⟨rfl, rfl⟩)
  go_loopw [0, 3] (fun q x wr => ∃ (m : Nat) (l : List UInt8) (v : Value), Hid (l ++ varL m = varL n.toNat) ∧ Hid (∃ k, m < 128 ^ k ∧ l.length + k = 5) ∧ m ≤ 1000000000 ∧ q = .int .i64 m ∧ v = x ∧ Hid (Ow byteE 5 wr w.heap.size v l) ∧ Below w.heap.size w wr) (fun q _ _ => (intOf q).toNat)
  case atStart => exact ⟨n.toNat, [], _, rfl, ⟨5, by omega, rfl⟩, by omega, by rw [Int.toNat_of_nonneg (by omega)], rfl, Ow.nil _ _ _ _, Below.refl _ _⟩
  case round =>
    obtain ⟨m, l, v, hl, hlen, hm, rfl, rfl, hO, hb⟩ := hrel
    have hll : l.length ≤ 5 := by obtain ⟨k, _, hk⟩ := hlen.out; omega
    by_cases h8 : m < 128
    · have h8' : ¬ (128 : Int) ≤ (m : Int) := by omega
      have hv : ((UInt8.ofNat m).toNat : Int) = (m : Int) := by simp; omega
      have H := Lib.hid (show varText n = l ++ [UInt8.ofNat m] by rw [hV.out, ← hl.out, varL, dif_pos h8])
      go_wp2_with (at_builtin; refine wpList_push (v := v) byteE (by decide) rfl (.tmp 18) (.tmp 21) rfl Try.underlying128 hi0 hz0 hz1 hz2 rfl (UInt8.ofNat m) rfl (hO.out.below ((Below.refl wr.heap.size wr).alloc (by simp) _)) ⟨wr.heap.size, 0, none⟩ 1 rfl (news_byte _ _ _ hv _) (by omega) (by decide) (by have := hb.size; simp; omega) ?_; intro v5 w5 o5 g5; obtain ⟨A9, c9, rfl, -⟩ := id (Rd.of_own o5); simp only [List.length_append, List.length_singleton] at o5; have cv := conv_own o5; have hb5 := (hb.alloc hb.size (.cells #[.int .u8 ((m : Int))] 5)).grown g5 (by have := hb.size; simp; omega) (fun g hg => (hO.out.within g hg).1))
      go_ret
      exact ⟨by rw [H.out]; rfl, hb5⟩
    · have h8' : (128 : Int) ≤ (m : Int) := by omega
      have hl2 := Lib.hid (show ∃ k, m / 128 < 128 ^ k ∧ (l ++ [UInt8.ofNat (m % 128 + 128)]).length + k = 5 by
        obtain ⟨k, hk, hk'⟩ := hlen.out
        obtain ⟨k, rfl⟩ : ∃ k', k = k' + 1 := by
          cases k with
          | zero => simp at hk; omega
          | succ k => exact ⟨k, rfl⟩
        refine ⟨k, ?_, ?_⟩
        · rw [Nat.div_lt_iff_lt_mul (by decide), ← Nat.pow_succ]; exact hk
        · rw [List.length_append, List.length_singleton]; omega)
      have hv : ((UInt8.ofNat (m % 128 + 128)).toNat : Int) = (m : Int) % 128 + 128 := by simp; omega
      have S : Hid ((l ++ [UInt8.ofNat (m % 128 + 128)]) ++ varL (m / 128) = varL n.toNat) := by
        show _ = _
        rw [← hl.out, List.append_assoc]
        conv => rhs; rw [varL, dif_neg h8]
        rfl
      go_wp2_with (at_builtin; refine wpList_push (v := v) byteE (by decide) rfl (.tmp 9) (.tmp 14) rfl Try.underlying128 hi0 hz0 hz1 hz2 rfl (UInt8.ofNat (m % 128 + 128)) rfl (hO.out.below ((Below.refl wr.heap.size wr).alloc (by simp) _)) ⟨wr.heap.size, 0, none⟩ 1 rfl (news_byte _ _ _ hv _) (by omega) (by decide) (by have := hb.size; simp; omega) ?_; intro v5 w5 o5 g5; obtain ⟨A9, c9, rfl, -⟩ := id (Rd.of_own o5); simp only [List.length_append, List.length_singleton] at o5; have cv := conv_own o5; have hb5 := (hb.alloc hb.size (.cells #[.int .u8 ((m : Int) % 128 + 128)] 5)).grown g5 (by have := hb.size; simp; omega) (fun g hg => (hO.out.within g hg).1))
      exact ⟨⟨m / 128, _, _, S, hl2, by omega, by go_num, rfl, o5, hb5⟩, by simp [intOf]; omega⟩
theorem specVarText_any (n : Int) (w : World) :
    Calls Try.prog 85 #[.int .i64 n] w (StrPost (varText n) w) := by
  by_cases hi : inB n 0 1000000000 = true
  case neg =>
    have hif : inB n 0 1000000000 = false := by simpa using hi
    have H := Lib.hid (show varText n = [] by unfold varText; rw [if_neg hi])
    go_enter Try.func85, Try.ntmps85
    go_wp2_with (go_at_call 56; refine (l01In_any _ _ _ _).mono ?_; rintro e w3 ⟨rfl, rfl⟩)
    go_ret
    exact ⟨by rw [H.out]; rfl, Below.refl _ _⟩
  obtain ⟨i0, hi0, hz0, hz1, hz2⟩ := info_parts byte_info
  have hV := Lib.hid (show varText n = varL n.toNat by unfold varText; rw [if_pos hi])
  have hn0 : 0 ≤ n ∧ n ≤ 1000000000 := by simpa [inB] using hi
  go_enter Try.func85, Try.ntmps85
  go_wp2_with (go_at_call 56; refine (l01In_any _ _ _ _).mono ?_; rintro e w3 ⟨rfl, rfl⟩)
  go_loopw [0, 3] (fun q x wr => ∃ (m : Nat) (l : List UInt8) (v : Value), Hid (l ++ varL m = varL n.toNat) ∧ Hid (∃ k, m < 128 ^ k ∧ l.length + k = 5) ∧ m ≤ 1000000000 ∧ q = .int .i64 m ∧ v = x ∧ Hid (Ow byteE 5 wr w.heap.size v l) ∧ Below w.heap.size w wr) (fun q _ _ => (intOf q).toNat)
  case atStart => exact ⟨n.toNat, [], _, rfl, ⟨5, by omega, rfl⟩, by omega, by rw [Int.toNat_of_nonneg (by omega)], rfl, Ow.empty byteE 5 w (g := w.heap.size) (by simp), (Below.refl _ _).alloc (Nat.le_refl _) _⟩
  case round =>
    obtain ⟨m, l, v, hl, hlen, hm, rfl, rfl, hO, hb⟩ := hrel
    have hll : l.length ≤ 5 := by obtain ⟨k, _, hk⟩ := hlen.out; omega
    by_cases h8 : m < 128
    · have h8' : ¬ (127 : Int) < (m : Int) := by omega
      have hv : ((UInt8.ofNat m).toNat : Int) = (m : Int) := by simp; omega
      have H := Lib.hid (show varText n = l ++ [UInt8.ofNat m] by rw [hV.out, ← hl.out, varL, dif_pos h8])
      go_wp2_with (at_builtin; refine wpList_push (v := v) byteE (by decide) rfl (.tmp 19) (.tmp 22) rfl Try.underlying128 hi0 hz0 hz1 hz2 rfl (UInt8.ofNat m) rfl (hO.out.below ((Below.refl wr.heap.size wr).alloc (by simp) _)) ⟨wr.heap.size, 0, none⟩ 1 rfl (news_byte _ _ _ hv _) (by omega) (by decide) (by have := hb.size; simp; omega) ?_; intro v5 w5 o5 g5; obtain ⟨A9, c9, rfl, -⟩ := id (Rd.of_own o5); simp only [List.length_append, List.length_singleton] at o5; have cv := conv_own o5; have hb5 := (hb.alloc hb.size (.cells #[.int .u8 ((m : Int))] 5)).grown g5 (by have := hb.size; simp; omega) (fun g hg => (hO.out.within g hg).1))
      go_ret
      exact ⟨by rw [H.out]; rfl, hb5⟩
    · have h8' : (127 : Int) < (m : Int) := by omega
      have hl2 := Lib.hid (show ∃ k, m / 128 < 128 ^ k ∧ (l ++ [UInt8.ofNat (m % 128 + 128)]).length + k = 5 by
        obtain ⟨k, hk, hk'⟩ := hlen.out
        obtain ⟨k, rfl⟩ : ∃ k', k = k' + 1 := by
          cases k with
          | zero => simp at hk; omega
          | succ k => exact ⟨k, rfl⟩
        refine ⟨k, ?_, ?_⟩
        · rw [Nat.div_lt_iff_lt_mul (by decide), ← Nat.pow_succ]; exact hk
        · rw [List.length_append, List.length_singleton]; omega)
      have hv : ((UInt8.ofNat (m % 128 + 128)).toNat : Int) = 128 + (m : Int) % 128 := by simp; omega
      have S : Hid ((l ++ [UInt8.ofNat (m % 128 + 128)]) ++ varL (m / 128) = varL n.toNat) := by
        show _ = _
        rw [← hl.out, List.append_assoc]
        conv => rhs; rw [varL, dif_neg h8]
        rfl
      go_wp2_with (at_builtin; refine wpList_push (v := v) byteE (by decide) rfl (.tmp 10) (.tmp 15) rfl Try.underlying128 hi0 hz0 hz1 hz2 rfl (UInt8.ofNat (m % 128 + 128)) rfl (hO.out.below ((Below.refl wr.heap.size wr).alloc (by simp) _)) ⟨wr.heap.size, 0, none⟩ 1 rfl (news_byte _ _ _ hv _) (by omega) (by decide) (by have := hb.size; simp; omega) ?_; intro v5 w5 o5 g5; obtain ⟨A9, c9, rfl, -⟩ := id (Rd.of_own o5); simp only [List.length_append, List.length_singleton] at o5; have cv := conv_own o5; have hb5 := (hb.alloc hb.size (.cells #[.int .u8 (128 + (m : Int) % 128)] 5)).grown g5 (by have := hb.size; simp; omega) (fun g hg => (hO.out.within g hg).1))
      exact ⟨⟨m / 128, _, _, S, hl2, by omega, by go_num, rfl, o5, hb5⟩, by simp [intOf]; omega⟩
end Go.Proofs.Ytjobmbjadpldfaa
