/-
  Walks of the helpers of the laws on values of the type Slot: to, eq, and the slices' own. Written by program (flat.py).
-/
import Derived.Test.YtoccmpijfggmkaaLib
namespace Go.Proofs.Ytoccmpijfggmkaa
open Go.RowKit
set_option maxRecDepth 100000
set_option maxHeartbeats 400000

structure Slot where
  task : Int
  worker : Int
  fr : Int
  to : Int
deriving DecidableEq, Inhabited

def slotE : Enc Slot := { cells := fun s => [.int .i64 s.task, .int .i64 s.worker, .int .i64 s.fr, .int .i64 s.to], sz := 4, len := fun _ => rfl, one := fun _ u hu => by simp at hu; rcases hu with rfl | rfl | rfl | rfl <;> rfl }
@[go_sem] def slotV (s : Slot) : Value := .agg #[.int .i64 s.task, .int .i64 s.worker, .int .i64 s.fr, .int .i64 s.to]

theorem toSlot_any (s : Slot) (w : World) :
    Calls Try.prog 104 #[slotV s] w fun e w' => e = .returned (slotV s) ∧ Below w.heap.size w w' := by
  unfold slotV
  go_enter Try.func104, Try.ntmps104
  go_wp2
  refine bodyPost_ret (v := slotV s) (by simp [slotV, results, Try.results104, go_sem]) rfl ⟨rfl, ?_⟩
  repeat (first | exact Below.refl _ _ | refine Below.alloc ?_ (by simp <;> omega) _)

theorem eqSlot_any (s t : Slot) (w : World) :
    Calls Try.prog 105 #[slotV s, slotV t] w fun e w' => e = .returned (.bool (decide (s = t))) ∧ Below w.heap.size w w' := by
  unfold slotV
  obtain ⟨a0, a1, a2, a3⟩ := s
  obtain ⟨b0, b1, b2, b3⟩ := t
  go_enter Try.func105, Try.ntmps105
  go_wp2
  all_goals (go_ret; refine ⟨ret_bool ?_, by repeat (first | exact Below.refl _ _ | refine Below.alloc ?_ (by simp <;> omega) _)⟩; simp_all)

theorem Rd.slot {w : World} {B : Nat} {A : Option Addr} {n c : Nat} {l : List Slot} (h : Rd slotE w B (.slice A n c) l) {k : Nat} (hk : k < l.length) :
    ∃ b o, A = some ⟨b, o, none⟩ ∧ b < B ∧ w.cell? ⟨b, o + k * 4, none⟩ = some (.int .i64 l[k].task) ∧ w.cell? ⟨b, o + k * 4 + 1, none⟩ = some (.int .i64 l[k].worker) ∧ w.cell? ⟨b, o + k * 4 + 2, none⟩ = some (.int .i64 l[k].fr) ∧ w.cell? ⟨b, o + k * 4 + 3, none⟩ = some (.int .i64 l[k].to) := by
  obtain ⟨A', c', hv, _, hA⟩ := h
  obtain ⟨b, o, hA', hb, hc⟩ := hA (by omega)
  simp only [Value.slice.injEq] at hv
  obtain ⟨rfl, _, _⟩ := hv
  exact ⟨b, o, hA', hb, hc k hk 0 _ rfl, hc k hk 1 _ rfl, hc k hk 2 _ rfl, hc k hk 3 _ rfl⟩

theorem Ow.slot {E : TypeId} {w : World} {base g n cap : Nat} {l : List Slot} (h : Ow slotE E w base (.slice (some ⟨g, 0, none⟩) n cap) l) {k : Nat} (hk : k < l.length) :
    w.cell? ⟨g, k * 4, none⟩ = some (.int .i64 l[k].task) ∧ w.cell? ⟨g, k * 4 + 1, none⟩ = some (.int .i64 l[k].worker) ∧ w.cell? ⟨g, k * 4 + 2, none⟩ = some (.int .i64 l[k].fr) ∧ w.cell? ⟨g, k * 4 + 3, none⟩ = some (.int .i64 l[k].to) := by
  rcases h.form with ⟨h1, _⟩ | ⟨g', cap', hv, _, _, _, _, _, hc⟩
  · simp at h1
  · simp only [Value.slice.injEq, Option.some.injEq, Addr.mk.injEq, and_true] at hv
    obtain ⟨rfl, _, _⟩ := hv
    exact ⟨hc k hk 0 _ rfl, hc k hk 1 _ rfl, hc k hk 2 _ rfl, hc k hk 3 _ rfl⟩

theorem eqSlotS_any (v v' : Value) (l l' : List Slot) (w : World) (hl : l.length ≤ 2000000) (hl' : l'.length ≤ 2000000) (h : Rd slotE w w.heap.size v l) (h' : Rd slotE w w.heap.size v' l') :
    Calls Try.prog 33 #[v, v'] w fun e w' => e = .returned (.bool (decide (l = l'))) ∧ Below w.heap.size w w' := by
  obtain ⟨A, c, rfl, -⟩ := id h
  obtain ⟨A', c', rfl, -⟩ := id h'
  by_cases hne : l.length = l'.length
  · have hb0 : ((l.length : Int) != (l'.length : Int)) = false := by simp [hne]
    have Hne := Lib.hid hne
    clear hne
    go_enter Try.func33, Try.ntmps33
    go_wp2
    go_loopw [5] (fun i wr => ∃ k : Nat, k ≤ l.length ∧ i = .int .i64 k ∧ Hid (l.take k = l'.take k) ∧ Below w.heap.size w wr) (fun i _ => l.length - (intOf i).toNat)
    case atStart => exact ⟨0, Nat.zero_le _, rfl, rfl, Below.refl _ _⟩
    case round =>
      obtain ⟨k, hk, rfl, heq, hb⟩ := hrel
      by_cases hlt : k < l.length
      · have hlt' : k < l'.length := by rw [← Hne.out]; exact hlt
        obtain ⟨b, o, rfl, hbb, c0, c1, c2, c3⟩ := (h.below hb).slot hlt
        obtain ⟨b', o', rfl, hbb', d0, d1, d2, d3⟩ := (h'.below hb).slot hlt'
        go_wp2
        go_still_tail 8, (by kernel_rfl)
        go_wp2_with (go_at_call 105; refine (eqSlot_any l[k] l'[k] _).mono ?_; rintro e w1 ⟨rfl, hb1⟩)
        · rename_i hd
          go_ret
          refine ⟨ret_bool ?_, (hb.drew).trans (hb1.mono hb.size)⟩
          simp only [Bool.false_eq, decide_eq_false_iff_not]
          intro e
          subst e
          simp at hd
        · rename_i hd
          refine ⟨⟨k + 1, by omega, by go_num, ?_, (hb.drew).trans (hb1.mono hb.size)⟩, by simp [intOf]; omega⟩
          show List.take (k + 1) l = List.take (k + 1) l'
          rw [take_snoc l k hlt, take_snoc l' k hlt', heq.out]
          simp at hd
          rw [hd]
      · go_wp2
        go_ret
        refine ⟨ret_bool ?_, hb⟩
        have h1 := heq.out
        rw [List.take_of_length_le (by omega), List.take_of_length_le (by rw [← Hne.out]; omega)] at h1
        simp [h1]
  · have hb0 : ((l.length : Int) != (l'.length : Int)) = true := by simp; omega
    go_enter Try.func33, Try.ntmps33
    go_wp2
    go_ret
    refine ⟨ret_bool ?_, Below.refl _ _⟩
    simp only [Bool.false_eq, decide_eq_false_iff_not]
    intro e
    exact hne (by rw [e])

theorem slot_info : (Try.prog.info? 62).map (fun i => (i.zero, i.size, i.bytes)) = some (some (slotV ⟨0, 0, 0, 0⟩), 4, 32) := by kernel_rfl

theorem toSlotS_any (v : Value) (l : List Slot) (w : World) (hl : l.length ≤ 2000000) (h : Rd slotE w w.heap.size v l) :
    Calls Try.prog 31 #[v] w fun e w' => ∃ v', e = .returned v' ∧ Ow slotE 62 w' w.heap.size v' l ∧ Below w.heap.size w w' := by
  obtain ⟨A, c, rfl, -⟩ := id h
  obtain ⟨i0, hi0, hz0, hz1, hz2⟩ := info_parts slot_info
  have hmk : ∀ w : World, (Instr.makeSlice 25 (.int .i64 (l.length : Int)) (.int .i64 (l.length : Int))).run Try.prog w = .ok (.slice (some ⟨w.heap.size, 0, none⟩) l.length l.length) (w.alloc (.cells (madeCells #[.int .i64 0, .int .i64 0, .int .i64 0, .int .i64 0] (l.length * 4)) 62)) := by
    intro w
    have := run_make (P := Try.prog) w 25 62 i0 _ Try.underlying25 hi0 hz0 .i64 .i64 l.length l.length (by omega) (by omega) (by rw [hz2]; omega) (by omega)
    rw [hz1] at this
    simpa [slotV, Value.cells] using this
  go_enter Try.func31, Try.ntmps31
  go_wp2
  go_loopw [4] (fun i wr => ∃ k : Nat, k ≤ l.length ∧ i = .int .i64 k ∧ Ow slotE 62 wr w.heap.size (.slice (some ⟨w.heap.size, 0, none⟩) l.length l.length) (l.take k ++ List.replicate (l.length - k) ⟨0, 0, 0, 0⟩) ∧ Below w.heap.size w wr) (fun i _ => l.length - (intOf i).toNat)
  case atStart => exact ⟨0, Nat.zero_le _, rfl, by rw [List.take_zero, List.nil_append, Nat.sub_zero]; exact Ow.made slotE 62 w ⟨0, 0, 0, 0⟩ l.length (by decide) (by simp [maxLen]; omega) rfl rfl, (Below.refl _ _).alloc (Nat.le_refl _) _⟩
  case round =>
    obtain ⟨k, hk, rfl, hown, hb⟩ := hrel
    by_cases hlt : k < l.length
    · obtain ⟨b, o, rfl, hbb, c0, c1, c2, c3⟩ := (h.below hb).slot hlt
      have hlen : (l.take k ++ List.replicate (l.length - k) (⟨0, 0, 0, 0⟩ : Slot)).length = l.length := by simp; omega
      go_wp2_with (go_at_call 104; refine (toSlot_any l[k] _).mono ?_; rintro e w1 ⟨rfl, hb1⟩; have hown1 := hown.below hb1; have hf := hown1.free; obtain ⟨d0, d1, d2, d3⟩ := hown1.slot (k := k) (by rw [hlen]; exact hlt))
      have hp := Ow.put hown1 hlen k hlt l[k]
      rw [mix_set l _ k hlt] at hp
      exact ⟨⟨k + 1, by omega, by go_num, hp.1, (hb.trans (hb1.mono hb.size)).grown hp.2 (Nat.le_trans hb.size hb1.size) (fun g hg => by simp at hg; omega)⟩, by simp [intOf]; omega⟩
    · go_wp2
      go_ret
      refine ⟨_, rfl, ?_, hb⟩
      rwa [List.take_of_length_le (by omega), show l.length - k = 0 from by omega, List.replicate_zero, List.append_nil] at hown

theorem szSlotS_any (v : Value) (l : List Slot) (left : Int) (w : World) (h0 : 0 ≤ left) (h1 : left ≤ 2000000) (hl : l.length ≤ 9223372036854775807) (hv : Rd slotE w w.heap.size v l) :
    Calls Try.prog 29 #[v, .int .i64 left] w (SzPost left l.length w) := by
  obtain ⟨A, c, rfl, -⟩ := hv
  generalize l.length = n at *
  by_cases h : left < n
  · go_enter Try.func29, Try.ntmps29
    go_wp2
    go_ret
    exact ⟨-1, rfl, .inl rfl, Below.refl _ _⟩
  · go_enter Try.func29, Try.ntmps29
    go_wp2
    go_ret
    exact ⟨_, rfl, .inr ⟨by omega, by omega⟩, Below.refl _ _⟩

end Go.Proofs.Ytoccmpijfggmkaa
