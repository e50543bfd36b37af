/-
  Walks of the helpers of the laws on values of the type Fence: to, eq, and the slices' own. Written by program (flat.py).
-/
import Derived.Test.YtoccmpijfggmkaaLib
namespace Go.Proofs.Ytoccmpijfggmkaa
open Go.RowKit
set_option maxRecDepth 100000
set_option maxHeartbeats 400000

structure Fence where
  run : Int
  task : Int
  try_ : Int
  text : ByteArray
deriving DecidableEq, Inhabited

def fenceE : Enc Fence := { cells := fun s => [.int .i64 s.run, .int .i64 s.task, .int .i64 s.try_, .string s.text], sz := 4, len := fun _ => rfl, one := fun _ u hu => by simp at hu; rcases hu with rfl | rfl | rfl | rfl <;> rfl }
@[go_sem] def fenceV (s : Fence) : Value := .agg #[.int .i64 s.run, .int .i64 s.task, .int .i64 s.try_, .string s.text]

theorem toFence_any (s : Fence) (w : World) :
    Calls Try.prog 85 #[fenceV s] w fun e w' => e = .returned (fenceV s) ∧ Below w.heap.size w w' := by
  unfold fenceV
  go_enter Try.func85, Try.ntmps85
  go_wp2
  refine bodyPost_ret (v := fenceV s) (by simp [fenceV, results, Try.results85, go_sem]) rfl ⟨rfl, ?_⟩
  repeat (first | exact Below.refl _ _ | refine Below.alloc ?_ (by simp <;> omega) _)

theorem eqFence_any (s t : Fence) (w : World) :
    Calls Try.prog 108 #[fenceV s, fenceV t] w fun e w' => e = .returned (.bool (decide (s = t))) ∧ Below w.heap.size w w' := by
  unfold fenceV
  obtain ⟨a0, a1, a2, a3⟩ := s
  obtain ⟨b0, b1, b2, b3⟩ := t
  by_cases h0 : a0 = b0
  case neg =>
    have t0 : (a0 != b0) = true := by simpa using h0
    go_enter Try.func108, Try.ntmps108
    go_wp2
    go_ret
    exact ⟨ret_bool (by simp [h0]), by repeat (first | exact Below.refl _ _ | refine Below.alloc ?_ (by simp <;> omega) _)⟩
  have t0 : (a0 != b0) = false := by simpa using h0
  by_cases h1 : a1 = b1
  case neg =>
    have t1 : (a1 != b1) = true := by simpa using h1
    go_enter Try.func108, Try.ntmps108
    go_wp2
    go_ret
    exact ⟨ret_bool (by simp [h1]), by repeat (first | exact Below.refl _ _ | refine Below.alloc ?_ (by simp <;> omega) _)⟩
  have t1 : (a1 != b1) = false := by simpa using h1
  by_cases h2 : a2 = b2
  case neg =>
    have t2 : (a2 != b2) = true := by simpa using h2
    go_enter Try.func108, Try.ntmps108
    go_wp2
    go_ret
    exact ⟨ret_bool (by simp [h2]), by repeat (first | exact Below.refl _ _ | refine Below.alloc ?_ (by simp <;> omega) _)⟩
  have t2 : (a2 != b2) = false := by simpa using h2
  by_cases h3 : a3 = b3
  case neg =>
    have t3 : (a3.toList == b3.toList) = false := bytes_ne h3
    go_enter Try.func108, Try.ntmps108
    go_wp2
    go_ret
    exact ⟨ret_bool (by simp [h3]), by repeat (first | exact Below.refl _ _ | refine Below.alloc ?_ (by simp <;> omega) _)⟩

  subst h0
  subst h1
  subst h2
  subst h3
  go_enter Try.func108, Try.ntmps108
  go_wp2
  go_ret
  exact ⟨ret_bool (by simp), by repeat (first | exact Below.refl _ _ | refine Below.alloc ?_ (by simp <;> omega) _)⟩

theorem Rd.fence {w : World} {B : Nat} {A : Option Addr} {n c : Nat} {l : List Fence} (h : Rd fenceE w B (.slice A n c) l) {k : Nat} (hk : k < l.length) :
    ∃ b o, A = some ⟨b, o, none⟩ ∧ b < B ∧ w.cell? ⟨b, o + k * 4, none⟩ = some (.int .i64 l[k].run) ∧ w.cell? ⟨b, o + k * 4 + 1, none⟩ = some (.int .i64 l[k].task) ∧ w.cell? ⟨b, o + k * 4 + 2, none⟩ = some (.int .i64 l[k].try_) ∧ w.cell? ⟨b, o + k * 4 + 3, none⟩ = some (.string l[k].text) := by
  obtain ⟨A', c', hv, _, hA⟩ := h
  obtain ⟨b, o, hA', hb, hc⟩ := hA (by omega)
  simp only [Value.slice.injEq] at hv
  obtain ⟨rfl, _, _⟩ := hv
  exact ⟨b, o, hA', hb, hc k hk 0 _ rfl, hc k hk 1 _ rfl, hc k hk 2 _ rfl, hc k hk 3 _ rfl⟩

theorem Ow.fence {E : TypeId} {w : World} {base g n cap : Nat} {l : List Fence} (h : Ow fenceE E w base (.slice (some ⟨g, 0, none⟩) n cap) l) {k : Nat} (hk : k < l.length) :
    w.cell? ⟨g, k * 4, none⟩ = some (.int .i64 l[k].run) ∧ w.cell? ⟨g, k * 4 + 1, none⟩ = some (.int .i64 l[k].task) ∧ w.cell? ⟨g, k * 4 + 2, none⟩ = some (.int .i64 l[k].try_) ∧ w.cell? ⟨g, k * 4 + 3, none⟩ = some (.string l[k].text) := by
  rcases h.form with ⟨h1, _⟩ | ⟨g', cap', hv, _, _, _, _, _, hc⟩
  · simp at h1
  · simp only [Value.slice.injEq, Option.some.injEq, Addr.mk.injEq, and_true] at hv
    obtain ⟨rfl, _, _⟩ := hv
    exact ⟨hc k hk 0 _ rfl, hc k hk 1 _ rfl, hc k hk 2 _ rfl, hc k hk 3 _ rfl⟩

theorem eqFenceS_any (v v' : Value) (l l' : List Fence) (w : World) (hl : l.length ≤ 2000000) (hl' : l'.length ≤ 2000000) (h : Rd fenceE w w.heap.size v l) (h' : Rd fenceE w w.heap.size v' l') :
    Calls Try.prog 38 #[v, v'] w fun e w' => e = .returned (.bool (decide (l = l'))) ∧ Below w.heap.size w w' := by
  obtain ⟨A, c, rfl, -⟩ := id h
  obtain ⟨A', c', rfl, -⟩ := id h'
  by_cases hne : l.length = l'.length
  · have hb0 : ((l.length : Int) != (l'.length : Int)) = false := by simp [hne]
    have Hne := Lib.hid hne
    clear hne
    go_enter Try.func38, Try.ntmps38
    go_wp2
    go_loopw [5] (fun i wr => ∃ k : Nat, k ≤ l.length ∧ i = .int .i64 k ∧ Hid (l.take k = l'.take k) ∧ Below w.heap.size w wr) (fun i _ => l.length - (intOf i).toNat)
    case atStart => exact ⟨0, Nat.zero_le _, rfl, rfl, Below.refl _ _⟩
    case round =>
      obtain ⟨k, hk, rfl, heq, hb⟩ := hrel
      by_cases hlt : k < l.length
      · have hlt' : k < l'.length := by rw [← Hne.out]; exact hlt
        obtain ⟨b, o, rfl, hbb, c0, c1, c2, c3⟩ := (h.below hb).fence hlt
        obtain ⟨b', o', rfl, hbb', d0, d1, d2, d3⟩ := (h'.below hb).fence hlt'
        go_wp2
        go_still_tail 8, (by kernel_rfl)
        go_wp2_with (go_at_call 108; refine (eqFence_any l[k] l'[k] _).mono ?_; rintro e w1 ⟨rfl, hb1⟩)
        · rename_i hd
          go_ret
          refine ⟨ret_bool ?_, (hb.drew).trans (hb1.mono hb.size)⟩
          simp only [Bool.false_eq, decide_eq_false_iff_not]
          intro e
          subst e
          simp at hd
        · rename_i hd
          refine ⟨⟨k + 1, by omega, by go_num, ?_, (hb.drew).trans (hb1.mono hb.size)⟩, by simp [intOf]; omega⟩
          show List.take (k + 1) l = List.take (k + 1) l'
          rw [take_snoc l k hlt, take_snoc l' k hlt', heq.out]
          simp at hd
          rw [hd]
      · go_wp2
        go_ret
        refine ⟨ret_bool ?_, hb⟩
        have h1 := heq.out
        rw [List.take_of_length_le (by omega), List.take_of_length_le (by rw [← Hne.out]; omega)] at h1
        simp [h1]
  · have hb0 : ((l.length : Int) != (l'.length : Int)) = true := by simp; omega
    go_enter Try.func38, Try.ntmps38
    go_wp2
    go_ret
    refine ⟨ret_bool ?_, Below.refl _ _⟩
    simp only [Bool.false_eq, decide_eq_false_iff_not]
    intro e
    exact hne (by rw [e])

theorem fence_info : (Try.prog.info? 80).map (fun i => (i.zero, i.size, i.bytes)) = some (some (fenceV ⟨0, 0, 0, ⟨#[]⟩⟩), 4, 40) := by kernel_rfl

theorem toFenceS_any (v : Value) (l : List Fence) (w : World) (hl : l.length ≤ 2000000) (h : Rd fenceE w w.heap.size v l) :
    Calls Try.prog 36 #[v] w fun e w' => ∃ v', e = .returned v' ∧ Ow fenceE 80 w' w.heap.size v' l ∧ Below w.heap.size w w' := by
  obtain ⟨A, c, rfl, -⟩ := id h
  obtain ⟨i0, hi0, hz0, hz1, hz2⟩ := info_parts fence_info
  have hmk : ∀ w : World, (Instr.makeSlice 32 (.int .i64 (l.length : Int)) (.int .i64 (l.length : Int))).run Try.prog w = .ok (.slice (some ⟨w.heap.size, 0, none⟩) l.length l.length) (w.alloc (.cells (madeCells #[.int .i64 0, .int .i64 0, .int .i64 0, .string ⟨#[]⟩] (l.length * 4)) 80)) := by
    intro w
    have := run_make (P := Try.prog) w 32 80 i0 _ Try.underlying32 hi0 hz0 .i64 .i64 l.length l.length (by omega) (by omega) (by rw [hz2]; omega) (by omega)
    rw [hz1] at this
    simpa [fenceV, Value.cells] using this
  go_enter Try.func36, Try.ntmps36
  go_wp2
  go_loopw [4] (fun i wr => ∃ k : Nat, k ≤ l.length ∧ i = .int .i64 k ∧ Ow fenceE 80 wr w.heap.size (.slice (some ⟨w.heap.size, 0, none⟩) l.length l.length) (l.take k ++ List.replicate (l.length - k) ⟨0, 0, 0, ⟨#[]⟩⟩) ∧ Below w.heap.size w wr) (fun i _ => l.length - (intOf i).toNat)
  case atStart => exact ⟨0, Nat.zero_le _, rfl, by rw [List.take_zero, List.nil_append, Nat.sub_zero]; exact Ow.made fenceE 80 w ⟨0, 0, 0, ⟨#[]⟩⟩ l.length (by decide) (by simp [maxLen]; omega) rfl rfl, (Below.refl _ _).alloc (Nat.le_refl _) _⟩
  case round =>
    obtain ⟨k, hk, rfl, hown, hb⟩ := hrel
    by_cases hlt : k < l.length
    · obtain ⟨b, o, rfl, hbb, c0, c1, c2, c3⟩ := (h.below hb).fence hlt
      have hlen : (l.take k ++ List.replicate (l.length - k) (⟨0, 0, 0, ⟨#[]⟩⟩ : Fence)).length = l.length := by simp; omega
      go_wp2_with (go_at_call 85; refine (toFence_any l[k] _).mono ?_; rintro e w1 ⟨rfl, hb1⟩; have hown1 := hown.below hb1; have hf := hown1.free; obtain ⟨d0, d1, d2, d3⟩ := hown1.fence (k := k) (by rw [hlen]; exact hlt))
      have hp := Ow.put hown1 hlen k hlt l[k]
      rw [mix_set l _ k hlt] at hp
      exact ⟨⟨k + 1, by omega, by go_num, hp.1, (hb.trans (hb1.mono hb.size)).grown hp.2 (Nat.le_trans hb.size hb1.size) (fun g hg => by simp at hg; omega)⟩, by simp [intOf]; omega⟩
    · go_wp2
      go_ret
      refine ⟨_, rfl, ?_, hb⟩
      rwa [List.take_of_length_le (by omega), show l.length - k = 0 from by omega, List.replicate_zero, List.append_nil] at hown

theorem szFence_any (s : Fence) (left : Int) (w : World) (h0 : 0 ≤ left) (h1 : left ≤ 2000000) (hs : s.text.size ≤ 9223372036854775807) :
    Calls Try.prog 83 #[fenceV s, .int .i64 left] w (SzPost left s.text.size w) := by
  unfold fenceV
  by_cases h : left < s.text.size
  · go_enter Try.func83, Try.ntmps83
    go_wp2
    go_ret
    exact ⟨-1, rfl, .inl rfl, by repeat (first | exact Below.refl _ _ | refine Below.alloc ?_ (by simp <;> omega) _)⟩
  · go_enter Try.func83, Try.ntmps83
    go_wp2
    go_ret
    exact ⟨_, rfl, .inr ⟨by omega, by omega⟩, by repeat (first | exact Below.refl _ _ | refine Below.alloc ?_ (by simp <;> omega) _)⟩

theorem szFenceS_any (v : Value) (l : List Fence) (left : Int) (w : World) (h0 : 0 ≤ left) (h1 : left ≤ 2000000) (hl : l.length ≤ 9223372036854775807) (hok : ∀ s ∈ l, s.text.size ≤ 9223372036854775807) (hv : Rd fenceE w w.heap.size v l) :
    Calls Try.prog 34 #[v, .int .i64 left] w (SzPost left l.length w) := by
  obtain ⟨A, c, rfl, -⟩ := id hv
  by_cases h : left < l.length
  · go_enter Try.func34, Try.ntmps34
    go_wp2
    go_ret
    exact ⟨-1, rfl, .inl rfl, Below.refl _ _⟩
  · have Hok := Lib.hid hok
    clear hok
    go_enter Try.func34, Try.ntmps34
    go_wp2
    go_loopw [1, 5] (fun t i wr => ∃ k : Nat, ∃ m : Int, k ≤ l.length ∧ i = .int .i64 k ∧ t = .int .i64 m ∧ 0 ≤ m ∧ m + l.length ≤ left ∧ Below w.heap.size w wr) (fun _ i _ => l.length - (intOf i).toNat)
    case atStart => exact ⟨0, _, Nat.zero_le _, rfl, rfl, by omega, by omega, Below.refl _ _⟩
    case round =>
      obtain ⟨k, m, hk, rfl, rfl, m0, m1, hb⟩ := hrel
      by_cases hlt : k < l.length
      · obtain ⟨b, o, rfl, hbb, c0, c1, c2, c3⟩ := (hv.below hb).fence hlt
        have hsz : l[k].text.size ≤ 9223372036854775807 := Hok.out _ (List.getElem_mem hlt)
        go_wp2_with fail
        refine (szFence_any l[k] m _ m0 (by omega) hsz).mono ?_
        rintro e w1 ⟨r, rfl, hr, hb1⟩
        rcases hr with rfl | ⟨r0, r1⟩
        · go_wp2
          go_ret
          exact ⟨-1, rfl, .inl rfl, bnext hb hb1⟩
        · go_wp2
          exact ⟨⟨k + 1, r, by omega, by go_num, rfl, r0, by omega, bnext hb hb1⟩, by simp [intOf]; omega⟩
      · go_wp2
        go_ret
        exact ⟨_, rfl, .inr ⟨by omega, by omega⟩, hb⟩

end Go.Proofs.Ytoccmpijfggmkaa
