/-
  Walks of the helpers of the laws on values of the type Edge: to, eq, and the slices' own. Written by program (flat.py).
-/
import Derived.Test.YtjobmbjadpldfaaLib
namespace Go.Proofs.Ytjobmbjadpldfaa
open Go.RowKit
set_option maxRecDepth 100000
set_option maxHeartbeats 400000

structure Edge where
  fr : Int
  to : Int
deriving DecidableEq, Inhabited

def edgeE : Enc Edge := { cells := fun s => [.int .i64 s.fr, .int .i64 s.to], sz := 2, len := fun _ => rfl, one := fun _ u hu => by simp at hu; rcases hu with rfl | rfl <;> rfl }
@[go_sem] def edgeV (s : Edge) : Value := .agg #[.int .i64 s.fr, .int .i64 s.to]

theorem toEdge_any (s : Edge) (w : World) :
    Calls Try.prog 102 #[edgeV s] w fun e w' => e = .returned (edgeV s) ∧ Below w.heap.size w w' := by
  unfold edgeV
  go_enter Try.func102, Try.ntmps102
  go_wp2
  refine bodyPost_ret (v := edgeV s) (by simp [edgeV, results, Try.results102, go_sem]) rfl ⟨rfl, ?_⟩
  repeat (first | exact Below.refl _ _ | refine Below.alloc ?_ (by simp <;> omega) _)

theorem eqEdge_any (s t : Edge) (w : World) :
    Calls Try.prog 103 #[edgeV s, edgeV t] w fun e w' => e = .returned (.bool (decide (s = t))) ∧ Below w.heap.size w w' := by
  unfold edgeV
  obtain ⟨a0, a1⟩ := s
  obtain ⟨b0, b1⟩ := t
  go_enter Try.func103, Try.ntmps103
  go_wp2
  all_goals (go_ret; refine ⟨ret_bool ?_, by repeat (first | exact Below.refl _ _ | refine Below.alloc ?_ (by simp <;> omega) _)⟩; simp_all)

theorem Rd.edge {w : World} {B : Nat} {A : Option Addr} {n c : Nat} {l : List Edge} (h : Rd edgeE w B (.slice A n c) l) {k : Nat} (hk : k < l.length) :
    ∃ b o, A = some ⟨b, o, none⟩ ∧ b < B ∧ w.cell? ⟨b, o + k * 2, none⟩ = some (.int .i64 l[k].fr) ∧ w.cell? ⟨b, o + k * 2 + 1, none⟩ = some (.int .i64 l[k].to) := by
  obtain ⟨A', c', hv, _, hA⟩ := h
  obtain ⟨b, o, hA', hb, hc⟩ := hA (by omega)
  simp only [Value.slice.injEq] at hv
  obtain ⟨rfl, _, _⟩ := hv
  exact ⟨b, o, hA', hb, hc k hk 0 _ rfl, hc k hk 1 _ rfl⟩

theorem Ow.edge {E : TypeId} {w : World} {base g n cap : Nat} {l : List Edge} (h : Ow edgeE E w base (.slice (some ⟨g, 0, none⟩) n cap) l) {k : Nat} (hk : k < l.length) :
    w.cell? ⟨g, k * 2, none⟩ = some (.int .i64 l[k].fr) ∧ w.cell? ⟨g, k * 2 + 1, none⟩ = some (.int .i64 l[k].to) := by
  rcases h.form with ⟨h1, _⟩ | ⟨g', cap', hv, _, _, _, _, _, hc⟩
  · simp at h1
  · simp only [Value.slice.injEq, Option.some.injEq, Addr.mk.injEq, and_true] at hv
    obtain ⟨rfl, _, _⟩ := hv
    exact ⟨hc k hk 0 _ rfl, hc k hk 1 _ rfl⟩

theorem eqEdgeS_any (v v' : Value) (l l' : List Edge) (w : World) (hl : l.length ≤ 2000000) (hl' : l'.length ≤ 2000000) (h : Rd edgeE w w.heap.size v l) (h' : Rd edgeE w w.heap.size v' l') :
    Calls Try.prog 94 #[v, v'] w fun e w' => e = .returned (.bool (decide (l = l'))) ∧ Below w.heap.size w w' := by
  obtain ⟨A, c, rfl, -⟩ := id h
  obtain ⟨A', c', rfl, -⟩ := id h'
  by_cases hne : l.length = l'.length
  · have hb0 : ((l.length : Int) != (l'.length : Int)) = false := by simp [hne]
    have Hne := Lib.hid hne
    clear hne
    go_enter Try.func94, Try.ntmps94
    go_wp2
    go_loopw [5] (fun i wr => ∃ k : Nat, k ≤ l.length ∧ i = .int .i64 k ∧ Hid (l.take k = l'.take k) ∧ Below w.heap.size w wr) (fun i _ => l.length - (intOf i).toNat)
    case atStart => exact ⟨0, Nat.zero_le _, rfl, rfl, Below.refl _ _⟩
    case round =>
      obtain ⟨k, hk, rfl, heq, hb⟩ := hrel
      by_cases hlt : k < l.length
      · have hlt' : k < l'.length := by rw [← Hne.out]; exact hlt
        obtain ⟨b, o, rfl, hbb, c0, c1⟩ := (h.below hb).edge hlt
        obtain ⟨b', o', rfl, hbb', d0, d1⟩ := (h'.below hb).edge hlt'
        go_wp2
        go_still_tail 8, (by kernel_rfl)
        go_wp2_with (go_at_call 103; refine (eqEdge_any l[k] l'[k] _).mono ?_; rintro e w1 ⟨rfl, hb1⟩)
        · rename_i hd
          go_ret
          refine ⟨ret_bool ?_, (hb.drew).trans (hb1.mono hb.size)⟩
          simp only [Bool.false_eq, decide_eq_false_iff_not]
          intro e
          subst e
          simp at hd
        · rename_i hd
          refine ⟨⟨k + 1, by omega, by go_num, ?_, (hb.drew).trans (hb1.mono hb.size)⟩, by simp [intOf]; omega⟩
          show List.take (k + 1) l = List.take (k + 1) l'
          rw [take_snoc l k hlt, take_snoc l' k hlt', heq.out]
          simp at hd
          rw [hd]
      · go_wp2
        go_ret
        refine ⟨ret_bool ?_, hb⟩
        have h1 := heq.out
        rw [List.take_of_length_le (by omega), List.take_of_length_le (by rw [← Hne.out]; omega)] at h1
        simp [h1]
  · have hb0 : ((l.length : Int) != (l'.length : Int)) = true := by simp; omega
    go_enter Try.func94, Try.ntmps94
    go_wp2
    go_ret
    refine ⟨ret_bool ?_, Below.refl _ _⟩
    simp only [Bool.false_eq, decide_eq_false_iff_not]
    intro e
    exact hne (by rw [e])

theorem edge_info : (Try.prog.info? 126).map (fun i => (i.zero, i.size, i.bytes)) = some (some (edgeV ⟨0, 0⟩), 2, 16) := by kernel_rfl

theorem toEdgeS_any (v : Value) (l : List Edge) (w : World) (hl : l.length ≤ 2000000) (h : Rd edgeE w w.heap.size v l) :
    Calls Try.prog 88 #[v] w fun e w' => ∃ v', e = .returned v' ∧ Ow edgeE 126 w' w.heap.size v' l ∧ Below w.heap.size w w' := by
  obtain ⟨A, c, rfl, -⟩ := id h
  obtain ⟨i0, hi0, hz0, hz1, hz2⟩ := info_parts edge_info
  have hmk : ∀ w : World, (Instr.makeSlice 70 (.int .i64 (l.length : Int)) (.int .i64 (l.length : Int))).run Try.prog w = .ok (.slice (some ⟨w.heap.size, 0, none⟩) l.length l.length) (w.alloc (.cells (madeCells #[.int .i64 0, .int .i64 0] (l.length * 2)) 126)) := by
    intro w
    have := run_make (P := Try.prog) w 70 126 i0 _ Try.underlying70 hi0 hz0 .i64 .i64 l.length l.length (by omega) (by omega) (by rw [hz2]; omega) (by omega)
    rw [hz1] at this
    simpa [edgeV, Value.cells] using this
  go_enter Try.func88, Try.ntmps88
  go_wp2
  go_loopw [4] (fun i wr => ∃ k : Nat, k ≤ l.length ∧ i = .int .i64 k ∧ Ow edgeE 126 wr w.heap.size (.slice (some ⟨w.heap.size, 0, none⟩) l.length l.length) (l.take k ++ List.replicate (l.length - k) ⟨0, 0⟩) ∧ Below w.heap.size w wr) (fun i _ => l.length - (intOf i).toNat)
  case atStart => exact ⟨0, Nat.zero_le _, rfl, by rw [List.take_zero, List.nil_append, Nat.sub_zero]; exact Ow.made edgeE 126 w ⟨0, 0⟩ l.length (by decide) (by simp [maxLen]; omega) rfl rfl, (Below.refl _ _).alloc (Nat.le_refl _) _⟩
  case round =>
    obtain ⟨k, hk, rfl, hown, hb⟩ := hrel
    by_cases hlt : k < l.length
    · obtain ⟨b, o, rfl, hbb, c0, c1⟩ := (h.below hb).edge hlt
      have hlen : (l.take k ++ List.replicate (l.length - k) (⟨0, 0⟩ : Edge)).length = l.length := by simp; omega
      go_wp2_with (go_at_call 102; refine (toEdge_any l[k] _).mono ?_; rintro e w1 ⟨rfl, hb1⟩; have hown1 := hown.below hb1; have hf := hown1.free; obtain ⟨d0, d1⟩ := hown1.edge (k := k) (by rw [hlen]; exact hlt))
      have hp := Ow.put hown1 hlen k hlt l[k]
      rw [mix_set l _ k hlt] at hp
      exact ⟨⟨k + 1, by omega, by go_num, hp.1, (hb.trans (hb1.mono hb.size)).grown hp.2 (Nat.le_trans hb.size hb1.size) (fun g hg => by simp at hg; omega)⟩, by simp [intOf]; omega⟩
    · go_wp2
      go_ret
      refine ⟨_, rfl, ?_, hb⟩
      rwa [List.take_of_length_le (by omega), show l.length - k = 0 from by omega, List.replicate_zero, List.append_nil] at hown

theorem szEdgeS_any (v : Value) (l : List Edge) (left : Int) (w : World) (h0 : 0 ≤ left) (h1 : left ≤ 2000000) (hl : l.length ≤ 9223372036854775807) (hv : Rd edgeE w w.heap.size v l) :
    Calls Try.prog 81 #[v, .int .i64 left] w (SzPost left l.length w) := by
  obtain ⟨A, c, rfl, -⟩ := hv
  generalize l.length = n at *
  by_cases h : left < n
  · go_enter Try.func81, Try.ntmps81
    go_wp2
    go_ret
    exact ⟨-1, rfl, .inl rfl, Below.refl _ _⟩
  · go_enter Try.func81, Try.ntmps81
    go_wp2
    go_ret
    exact ⟨_, rfl, .inr ⟨by omega, by omega⟩, Below.refl _ _⟩

end Go.Proofs.Ytjobmbjadpldfaa
