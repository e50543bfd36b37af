/-
  PutAll of the program and of the reference. Written by program (pa.py).
-/
import Derived.Test.YtoccmpijfggmkaaPf
namespace Go.Proofs.Ytoccmpijfggmkaa
open Go.RowKit
set_option maxRecDepth 100000
set_option maxHeartbeats 2000000

/-- what PutAll answers -/
noncomputable def putAll (l more : List Fence) : List Fence := more.foldl (fun a f => (putFence a f).1) l
theorem putFence_max (l : List Fence) (f : Fence) : (putFence l f).1.length ≤ max l.length 61 := by
  by_cases h : fencesOk l = false
  · unfold putFence
    rw [if_pos h]
    exact Nat.le_max_left _ _
  · have h1 := putFence_len l f
    have h2 : l.length ≤ 60 := by
      have h3 : fencesOk l = true := by simpa using h
      simp only [fencesOk, Bool.and_eq_true, decide_eq_true_eq] at h3
      exact h3.1
    omega
theorem putAll_max : ∀ (more l : List Fence), (putAll l more).length ≤ max l.length 61
  | [], l => Nat.le_max_left _ _
  | f :: more, l => by
    have h1 := putAll_max more (putFence l f).1
    have h2 := putFence_max l f
    show (putAll (putFence l f).1 more).length ≤ _
    omega
theorem putAll_len (l more : List Fence) (h : l.length ≤ 2000000) : (putAll l more).length ≤ 2000000 := by
  have := putAll_max more l
  omega
theorem putAll_snoc (l more : List Fence) (k : Nat) (h : k < more.length) : putAll l (more.take (k + 1)) = (putFence (putAll l (more.take k)) more[k]).1 := by
  unfold putAll
  rw [take_snoc more k h, List.foldl_append]
  rfl


theorem implPutAll_any (v : Value) (l : List Fence) (vm : Value) (more : List Fence) (w : World) (hl : l.length ≤ 2000000) (hm : more.length ≤ 2000000) (h : Rd fenceE w w.heap.size v l) (hr : Rd fenceE w w.heap.size vm more) :
    Calls Try.prog 90 #[v, vm] w fun e w' => ∃ v', e = .returned v' ∧ Ow fenceE 80 w' w.heap.size v' (putAll l more) ∧ Below w.heap.size w w' := by
  obtain ⟨A, c, rfl, -⟩ := id h
  obtain ⟨Am, cm, rfl, -⟩ := id hr
  obtain ⟨i0, hi0, hz0, hz1, hz2⟩ := info_parts fence_info
  go_enter Try.func90, Try.ntmps90
  go_wp2_with (at_builtin; refine wpList_push_all _ fenceE (by decide) rfl (.const (.slice none 0 0)) (.tmp 8) rfl Try.underlying32 hi0 hz0 hz1 hz2 rfl (v := .slice none 0 0) (l := []) rfl (Ow.nil fenceE 80 _ w.heap.size) rfl h (by simp) (by omega) (by decide) (by simp) ?_; intro v1 w1 o1 g1 _; rw [List.nil_append] at o1; have b1 := (Below.refl w.heap.size _).grown g1 (by simp <;> omega) (fun k hk => by simp [Value.ownBlock] at hk <;> omega); clear g1)
  go_loopw [5, 12] (fun q i wr => ∃ k : Nat, k ≤ more.length ∧ i = .int .i64 k ∧ Ow fenceE 80 wr w.heap.size q (putAll l (more.take k)) ∧ Below w.heap.size w wr) (fun _ i _ => more.length - (intOf i).toNat)
  case atStart => exact ⟨0, Nat.zero_le _, rfl, by simpa [putAll] using o1, b1⟩
  case round =>
    obtain ⟨k, hk, rfl, o, hb⟩ := hrel
    by_cases hlt : k < more.length
    · obtain ⟨b, o', rfl, hbb, y0, y1, y2, y3⟩ := (hr.below hb).fence hlt
      have hkI : (k : Int) < (more.length : Int) := by omega
      have hbw : b < wr.heap.size := Nat.lt_of_lt_of_le hbb hb.size
      have ob := o.below ((Below.refl wr.heap.size wr).alloc (Nat.le_refl _) (.cells #[.int .i64 more[k].run, .int .i64 more[k].task, .int .i64 more[k].try_, .string more[k].text] 80))
      have bb := hb.alloc hb.size (.cells #[.int .i64 more[k].run, .int .i64 more[k].task, .int .i64 more[k].try_, .string more[k].text] 80)
      have S := Lib.hid (putAll_snoc l more k hlt)
      have hle := putAll_len l (more.take k) hl
      go_wp2_with fail
      refine (implPutFence_any _ (putAll l (more.take k)) more[k] _ hle (Rd.of_own ob)).mono ?_
      rintro e w2 ⟨v2, rfl, o2, c2⟩
      rw [← S.out] at o2
      have o3 := o2.more (base' := w.heap.size) bb.size
      have b3 := Lib.hid (bnext bb c2)
      clear o2 c2 hb
      go_wp2
      exact ⟨⟨k + 1, by omega, by go_num, o3, b3.out⟩, by simp [intOf]; omega⟩
    · have hke : k = more.length := by omega
      rw [hke, List.take_length] at o
      clear hke
      go_wp2
      go_ret
      exact ⟨_, rfl, o, hb⟩


theorem specPutAll_any (v : Value) (l : List Fence) (vm : Value) (more : List Fence) (w : World) (hl : l.length ≤ 2000000) (hm : more.length ≤ 2000000) (h : Rd fenceE w w.heap.size v l) (hr : Rd fenceE w w.heap.size vm more) :
    Calls Try.prog 89 #[v, vm] w fun e w' => ∃ v', e = .returned v' ∧ Ow fenceE 80 w' w.heap.size v' (putAll l more) ∧ Below w.heap.size w w' := by
  obtain ⟨A, c, rfl, -⟩ := id h
  obtain ⟨Am, cm, rfl, -⟩ := id hr
  obtain ⟨i0, hi0, hz0, hz1, hz2⟩ := info_parts fence_info
  go_enter Try.func89, Try.ntmps89
  go_wp2_with (at_builtin; refine wpList_push_all _ fenceE (by decide) rfl (.tmp 7) (.tmp 8) rfl Try.underlying32 hi0 hz0 hz1 hz2 rfl (v := .slice (some ⟨w.heap.size, 0, none⟩) 0 0) (l := []) rfl (Ow.empty fenceE 80 w rfl) rfl ((h.below ((Below.refl _ _).alloc (Nat.le_refl _) _)).more (B' := w.heap.size + 1) (by omega)) (by simp) (by omega) (by decide) (by simp) ?_; intro v1 w1 o1 g1 _; rw [List.nil_append] at o1; have b1 := ((Below.refl w.heap.size _).alloc (Nat.le_refl _) _).grown g1 (by simp <;> omega) (fun k hk => by simp [Value.ownBlock] at hk <;> omega); clear g1)
  go_loopw [5, 6] (fun q i wr => ∃ k : Nat, k ≤ more.length ∧ i = .int .i64 k ∧ Ow fenceE 80 wr w.heap.size q (putAll l (more.take k)) ∧ Below w.heap.size w wr) (fun _ i _ => more.length - (intOf i).toNat)
  case atStart => exact ⟨0, Nat.zero_le _, rfl, by simpa [putAll] using o1, b1⟩
  case round =>
    obtain ⟨k, hk, rfl, o, hb⟩ := hrel
    by_cases hlt : k < more.length
    · obtain ⟨b, o', rfl, hbb, y0, y1, y2, y3⟩ := (hr.below hb).fence hlt
      have hkI : (k : Int) < (more.length : Int) := by omega
      have hbw : b < wr.heap.size := Nat.lt_of_lt_of_le hbb hb.size
      have S := Lib.hid (putAll_snoc l more k hlt)
      have hle := putAll_len l (more.take k) hl
      go_wp2_with fail
      refine (specPutFence_any _ (putAll l (more.take k)) more[k] _ hle (Rd.of_own o)).mono ?_
      rintro e w2 ⟨v2, rfl, o2, c2⟩
      rw [← S.out] at o2
      have o3 := o2.more (base' := w.heap.size) hb.size
      have b3 := Lib.hid (bnext hb c2)
      clear o2 c2 hb
      go_wp2
      exact ⟨⟨k + 1, by omega, by go_num, o3, b3.out⟩, by simp [intOf]; omega⟩
    · have hke : k = more.length := by omega
      rw [hke, List.take_length] at o
      clear hke
      go_wp2
      go_ret
      exact ⟨_, rfl, o, hb⟩

end Go.Proofs.Ytoccmpijfggmkaa
