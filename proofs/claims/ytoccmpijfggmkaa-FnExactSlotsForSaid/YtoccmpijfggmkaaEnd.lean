/-
  EndOf: the reference's and the program's, by walks; and the law.
-/
import Derived.Test.YtoccmpijfggmkaaSl
namespace Go.Proofs.Ytoccmpijfggmkaa
open Go.RowKit
set_option maxRecDepth 100000
set_option maxHeartbeats 400000

def endOf : List Slot → Int
  | [] => 0
  | s :: r => r.foldl (fun n x => if n < x.to then x.to else n) s.to
theorem endOf_snoc (r : List Slot) (s : Slot) : endOf (r ++ [s]) = if r = [] then s.to else if endOf r < s.to then s.to else endOf r := by
  cases r with
  | nil => rfl
  | cons x r => rw [if_neg (by simp)]; show (r ++ [s]).foldl _ x.to = _; rw [List.foldl_append]; rfl

theorem specEndOf_any (v : Value) (l : List Slot) (w : World) (hl : l.length ≤ 2000000) (h : Rd slotE w w.heap.size v l) :
    Calls Try.prog 30 #[v] w fun e w' => e = .returned (.int .i64 (endOf l)) ∧ w = w' := by
  obtain ⟨A, c, rfl, -⟩ := id h
  go_enter Try.func30, Try.ntmps30
  go_wp2
  go_loop [3, 4] (fun t i => ∃ k : Nat, k ≤ l.length ∧ i = .int .i64 k ∧ t = .int .i64 (endOf (l.take k))) (fun _ i => l.length - (intOf i).toNat)
  case atStart => exact ⟨0, Nat.zero_le _, rfl, rfl⟩
  case round =>
    obtain ⟨k, hk, rfl, rfl⟩ := hrel
    by_cases hlt : k < l.length
    · obtain ⟨b, o, rfl, hbb, c0, c1, c2, c3⟩ := h.slot hlt
      have hs := Lib.hid (endOf_snoc (l.take k) l[k])
      have ht := Lib.hid (take_snoc l k hlt)
      by_cases hk0 : k = 0
      · subst hk0
        simp only [Nat.zero_mul, Nat.add_zero] at c0 c1 c2 c3
        go_wp2
        go_round
        case rel => exact ⟨1, by omega, by go_num, by rw [ht.out, hs.out, if_pos (by simp)]⟩
        case measure => simp [intOf]; omega
      · have hkb : ((k : Int) == 0) = false := by simp [hk0]
        have hne : ¬ l.take k = [] := by
          intro e
          have := congrArg List.length e
          simp only [List.length_take, List.length_nil] at this
          omega
        by_cases hgt : endOf (l.take k) < l[k].to
        all_goals
          go_wp2
          go_round
          case rel => exact ⟨k + 1, by omega, by go_num, by rw [ht.out, hs.out, if_neg hne]; simp [hgt]⟩
          case measure => simp [intOf]; omega
    · go_wp2
      go_ret
      exact ⟨ret_int (by rw [List.take_of_length_le (by omega)]), rfl⟩

theorem implEndOf_any (v : Value) (l : List Slot) (w : World) (hl : l.length ≤ 2000000) (h : Rd slotE w w.heap.size v l) :
    Calls Try.prog 32 #[v] w fun e w' => e = .returned (.int .i64 (endOf l)) ∧ Below w.heap.size w w' := by
  obtain ⟨A, c, rfl, -⟩ := id h
  by_cases h0 : l.length = 0
  · have hnil : l = [] := List.eq_nil_of_length_eq_zero h0
    subst hnil
    go_enter Try.func32, Try.ntmps32
    go_wp2
    go_ret
    exact ⟨rfl, Below.refl _ _⟩
  · have h0' : ((l.length : Int) == 0) = false := beq_eq_false_iff_ne.2 (by omega)
    have hpos : 0 < l.length := by omega
    obtain ⟨b, o, rfl, hbb, c0, c1, c2, c3⟩ := h.slot hpos
    simp only [Nat.zero_mul, Nat.add_zero] at c0 c1 c2 c3
    have h1 : endOf (l.take 1) = l[0].to := by rw [take_snoc l 0 hpos]; rfl
    have H1 := Lib.hid h1
    clear h1
    go_enter Try.func32, Try.ntmps32
    go_wp2
    go_loopw [3, 15] (fun t i wr => ∃ k : Nat, k ≤ l.length ∧ i = .int .i64 k ∧ t = .int .i64 (endOf (l.take (max k 1))) ∧ Below w.heap.size w wr) (fun _ i _ => l.length - (intOf i).toNat)
    case atStart => exact ⟨0, Nat.zero_le _, rfl, by show _ = Value.int _ (endOf (l.take 1)); rw [H1.out], Below.refl _ _⟩
    case round =>
      obtain ⟨k, hk, rfl, rfl, hb⟩ := hrel
      by_cases hlt : k < l.length
      · obtain ⟨b', o', he, hbb, d0, d1, d2, d3⟩ := (h.below hb).slot hlt
        simp only [Option.some.injEq, Addr.mk.injEq, and_true] at he
        obtain ⟨rfl, rfl⟩ := he
        have ht : Hid (endOf (l.take (max (k + 1) 1)) = if endOf (l.take (max k 1)) < l[k].to then l[k].to else endOf (l.take (max k 1))) := by
          unfold Hid
          by_cases hk0 : k = 0
          · subst hk0
            rw [show max (0 + 1) 1 = 1 from rfl, show max 0 1 = 1 from rfl, H1.out]
            split <;> rfl
          · rw [show max (k + 1) 1 = k + 1 from by omega, show max k 1 = k from by omega, take_snoc l k hlt, endOf_snoc, if_neg]
            intro e
            have := congrArg List.length e
            simp only [List.length_take, List.length_nil] at this
            omega
        go_wp2
        refine ⟨⟨k + 1, by omega, by go_num, by rw [ht.out], hb.alloc hb.size _⟩, by simp [intOf]; omega⟩
      · go_wp2
        go_ret
        exact ⟨ret_int (by rw [List.take_of_length_le (by omega)]), hb⟩
end Go.Proofs.Ytoccmpijfggmkaa
