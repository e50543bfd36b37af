/-
  SlackOf of both.
-/
import Derived.Test.YtoccmpijfggmkaaLs
namespace Go.Proofs.Ytoccmpijfggmkaa
open Go.RowKit
set_option maxRecDepth 100000
set_option maxHeartbeats 2000000

def slackL (E L : List Int) (k : Nat) : List Int := (List.range k).map fun j => L.getD j 0 - E.getD j 0
noncomputable def slackOf (p : Plan) (l : List Int) : List Int := slackL (earliestOf p l) (latestOf p l) (latestOf p l).length
theorem slackL_len (E L : List Int) (k : Nat) : (slackL E L k).length = k := by simp [slackL]
theorem slackL_succ {E L : List Int} {k : Nat} (hE : k < E.length) (hL : k < L.length) : slackL E L (k + 1) = slackL E L k ++ [L[k] - E[k]] := by
  unfold slackL
  rw [List.range_succ, List.map_append]
  simp [List.getD_eq_getElem?_getD, hE, hL]
theorem slackOf_len (p : Plan) (l : List Int) : (slackOf p l).length ≤ 12 := by
  unfold slackOf
  rw [slackL_len]
  exact latestOf_len p l
theorem both_len (p : Plan) (l : List Int) : (earliestOf p l).length = (latestOf p l).length := by
  unfold earliestOf latestOf
  split
  · rw [earL_len, latL_len]
  · rfl
/-- the slacks so far, the latest starts from there on -/
def slackMix (E L : List Int) (k : Nat) : List Int := slackL E L k ++ L.drop k
theorem slackMix_len (E L : List Int) {k : Nat} (h : k ≤ L.length) : (slackMix E L k).length = L.length := by
  unfold slackMix
  rw [List.length_append, slackL_len, List.length_drop]
  omega
theorem slackMix_get {E L : List Int} {k : Nat} (h : k < L.length) : (slackMix E L k)[k]? = some L[k] := by
  unfold slackMix
  rw [List.getElem?_append_right (by rw [slackL_len]; exact Nat.le_refl _), slackL_len, Nat.sub_self, List.getElem?_drop]
  simp
theorem slackMix_succ {E L : List Int} {k : Nat} (hE : k < E.length) (hL : k < L.length) : slackMix E L (k + 1) = (slackMix E L k).set k (L[k] - E[k]) := by
  unfold slackMix
  rw [slackL_succ hE hL, List.set_append_right _ _ (by rw [slackL_len]; exact Nat.le_refl _), slackL_len, Nat.sub_self, List.drop_eq_getElem_cons hL, List.set_cons_zero, List.append_assoc]
  rfl

theorem implSlack_any (p : Plan) (ve v : Value) (l : List Int) (w : World) (hl : p.edges.length ≤ 2000000) (hl2 : l.length ≤ 2000000) (h : Rd edgeE w w.heap.size ve p.edges) (h2 : Rd intE w w.heap.size v l) :
    Calls Try.prog 99 #[planV p ve, v] w fun e w' => ∃ u, e = .returned u ∧ Ow intE 3 w' w.heap.size u (slackOf p l) ∧ Below w.heap.size w w' := by
  have hb0 := planBox_below 47 p ve w
  have D0 := BoxAt.new 47 p ve w
  have H := Lib.hid (show slackOf p l = slackL (earliestOf p l) (latestOf p l) (latestOf p l).length from rfl)
  have hEb := Lib.hid (earliestOf_bd p l)
  have hLb := Lib.hid (latestOf_bd p l)
  have hLen := both_len p l
  have hL12 := latestOf_len p l
  obtain ⟨j0, hj0, jz0, jz1, jz2⟩ := info_parts int_info
  unfold planV
  go_enter Try.func99, Try.ntmps99
  go_wp2_with fail
  refine (implEarliest_any p ve v l _ hl hl2 ((h.below hb0).more hb0.size) ((h2.below hb0).more hb0.size)).mono ?_
  rintro e w1 ⟨u1, rfl, o1, hb1⟩
  have D := D0.below hb1
  have hb := bnext hb0 hb1
  clear hb0 hb1 D0
  obtain ⟨x0, x1, x2, x3, x4, xs⟩ := D.cells
  go_wp2_with fail
  clear x0 x1 x2 x3 x4 xs
  refine (implLatest_any p ve v l _ hl hl2 ((h.below hb).more hb.size) ((h2.below hb).more hb.size)).mono ?_
  rintro e w2 ⟨u2, rfl, o2, hb2⟩
  have o1 := o1.below hb2
  have hb := bnext hb hb2
  have hsz := hb.size
  clear hb2 D
  generalize earliestOf p l = E at *
  generalize latestOf p l = L at *
  obtain ⟨A1, c1, rfl, -⟩ := id (Rd.of_own o1)
  obtain ⟨A2, c2, rfl, -⟩ := id (Rd.of_own o2)
  have O0 := Ow.nil intE 3 w2 w2.heap.size
  go_wp2
  go_loopw [6, 16] (fun vl i wr => ∃ k : Nat, k ≤ L.length ∧ i = .int .i64 k ∧ Ow intE 3 wr w2.heap.size vl (slackL E L k) ∧ Below w2.heap.size w2 wr) (fun _ i _ => L.length - (intOf i).toNat)
  case atStart => exact ⟨0, Nat.zero_le _, rfl, O0, Below.refl _ _⟩
  case round =>
    clear O0
    obtain ⟨k, hk, rfl, ho, hb2⟩ := hrel
    have o1 := o1.below hb2
    have o2 := o2.below hb2
    have hsz2 := hb2.size
    by_cases hlt : k < L.length
    · have hltI : (k : Int) < (L.length : Int) := by omega
      have hkE : k < E.length := by omega
      have hkEI : (k : Int) < (E.length : Int) := by omega
      have hs := Lib.hid (slackL_succ hkE hlt)
      have hsl := slackL_len E L k
      have he := hEb.out _ (List.getElem_mem hkE)
      have hla := hLb.out _ (List.getElem_mem hlt)
      have hwr : IntKind.i64.wrap (L[k] - E[k]) = L[k] - E[k] := IntWalk.i64_in _ (by omega)
      obtain ⟨g1, rfl, _, _⟩ := o1.some_ (by omega)
      obtain ⟨g2, rfl, _, _⟩ := o2.some_ (by omega)
      have ce := o1.int hkE
      have cl := o2.int hlt
      clear he hla
      have ha : Hid (∀ w : World, Below w.heap.size w (w.alloc (.cells #[.int .i64 (L[k] - E[k])] 3))) := fun w => (Below.refl _ _).alloc (Nat.le_refl _) _
      go_wp2_with (at_builtin; refine wpList_push_all _ intE (by decide) rfl (.tmp 21) (.tmp 28) rfl Try.underlying50 hj0 jz0 jz1 jz2 rfl (l := slackL E L k) rfl (ho.below (ha.out _)) rfl (Rd.one intE _ _ (L[k] - E[k]) rfl rfl 1 (Nat.le_refl _) (Nat.lt_succ_self _)) (by rw [hsl]; omega) (by simp) (by decide) (by simp; omega) ?_; intro v5 w5 o5 g5 _)
      have hb' := bnext hb2 (ha.out _)
      have W5 := hb'.grown g5 hb'.size (fun g hg => by have := ho.within _ hg; omega)
      exact ⟨⟨k + 1, by omega, by go_num, by rw [hs.out]; exact o5, W5⟩, by simp [intOf]; omega⟩
    · have hltI : ¬ (k : Int) < (L.length : Int) := by omega
      have hk' : k = L.length := by omega
      have hbF := hb
      have hb2F := hb2
      subst hk'
      go_wp2
      go_ret
      exact ⟨_, rfl, by rw [H.out]; exact ho.more hsz, bnext hbF hb2F⟩

theorem specSlack_any (p : Plan) (ve v : Value) (l : List Int) (w : World) (hl : p.edges.length ≤ 2000000) (hl2 : l.length ≤ 2000000) (h : Rd edgeE w w.heap.size ve p.edges) (h2 : Rd intE w w.heap.size v l) :
    Calls Try.prog 100 #[planV p ve, v] w fun e w' => ∃ u, e = .returned u ∧ Ow intE 3 w' w.heap.size u (slackOf p l) ∧ Below w.heap.size w w' := by
  have hb0 := planBox_below 47 p ve w
  have D0 := BoxAt.new 47 p ve w
  have H := Lib.hid (show slackOf p l = slackL (earliestOf p l) (latestOf p l) (latestOf p l).length from rfl)
  have hEb := Lib.hid (earliestOf_bd p l)
  have hLb := Lib.hid (latestOf_bd p l)
  have hLen := both_len p l
  have hL12 := latestOf_len p l
  unfold planV
  go_enter Try.func100, Try.ntmps100
  go_wp2_with fail
  refine (specEarliest_any p ve v l _ hl hl2 ((h.below hb0).more hb0.size) ((h2.below hb0).more hb0.size)).mono ?_
  rintro e w1 ⟨u1, rfl, o1, hb1⟩
  have D := D0.below hb1
  have hb := bnext hb0 hb1
  clear hb0 hb1 D0
  obtain ⟨x0, x1, x2, x3, x4, xs⟩ := D.cells
  go_wp2_with fail
  clear x0 x1 x2 x3 x4 xs
  refine (specLatest_any p ve v l _ hl hl2 ((h.below hb).more hb.size) ((h2.below hb).more hb.size)).mono ?_
  rintro e w2 ⟨u2, rfl, o2, hb2⟩
  have q1 := o1.within
  have o1 := o1.below hb2
  have hsz := hb.size
  have hb := bnext hb hb2
  clear hb2 D
  generalize earliestOf p l = E at *
  generalize latestOf p l = L at *
  obtain ⟨A1, c1, rfl, -⟩ := id (Rd.of_own o1)
  obtain ⟨A2, c2, rfl, -⟩ := id (Rd.of_own o2)
  go_wp2
  go_loopw [7] (fun i wr => ∃ k : Nat, k ≤ L.length ∧ i = .int .i64 k ∧ Ow intE 3 wr w1.heap.size (.slice A2 L.length c2) (slackMix E L k) ∧ Ow intE 3 wr (w.heap.size + 1) (.slice A1 E.length c1) E ∧ Below w.heap.size w wr) (fun i _ => L.length - (intOf i).toNat)
  case atStart => exact ⟨0, Nat.zero_le _, rfl, o2, o1.more (by rw [planBox_size]; exact Nat.le_refl _), hb⟩
  case round =>
    clear o1 o2 hb
    obtain ⟨k, hk, rfl, o2, o1, hb⟩ := hrel
    by_cases hlt : k < L.length
    · have hltI : (k : Int) < (L.length : Int) := by omega
      have hkE : k < E.length := by omega
      have hkEI : (k : Int) < (E.length : Int) := by omega
      have hs := Lib.hid (slackMix_succ hkE hlt)
      have hsl := slackMix_len E L hk
      have hg := slackMix_get (E := E) hlt
      generalize slackMix E L k = M at *
      have he := hEb.out _ (List.getElem_mem hkE)
      have hla := hLb.out _ (List.getElem_mem hlt)
      have hkM : k < M.length := by omega
      have hMk : M[k] = L[k] := by rw [List.getElem?_eq_getElem hkM] at hg; exact Option.some.inj hg
      have hwr : IntKind.i64.wrap (L[k] - E[k]) = L[k] - E[k] := IntWalk.i64_in _ (by omega)
      obtain ⟨g1, rfl, _, _⟩ := o1.some_ (by omega)
      obtain ⟨g2, rfl, hg2, _⟩ := o2.some_ (by omega)
      have q2 := q1 g1 rfl
      have ce := o1.int hkE
      have cl := o2.int hkM
      rw [hMk] at cl
      have hput := Lib.hid (Ow.put o2 hsl k hlt (L[k] - E[k]))
      have hf := o2.free
      clear he hla hg hMk
      go_wp2
      go_still_tail 12, (by kernel_rfl)
      change wpList _ _ _ _ _ wr.drew
      go_wp2
      have hdr : ∀ w : World, Below w.heap.size w w.drew := fun w => (Below.refl _ _).drew
      refine ⟨⟨k + 1, by omega, by go_num, ?_, (o1.setOther (by simp [Value.ownBlock]; omega) _).below (hdr _), (hb.setCell (by simp; omega) _).drew⟩, by simp [intOf]; omega⟩
      rw [hs.out]
      have := hput.out.1
      simp only [intE, Nat.mul_one] at this
      exact this.below (hdr _)
    · have hltI : ¬ (k : Int) < (L.length : Int) := by omega
      have hk' : k = L.length := by omega
      have hbF := hb
      have H2 := Lib.hid (show slackMix E L L.length = slackL E L L.length by unfold slackMix; rw [List.drop_length, List.append_nil])
      subst hk'
      go_wp2
      go_ret
      exact ⟨_, rfl, by rw [H.out, ← H2.out]; exact o2.more hsz, hbF⟩
end Go.Proofs.Ytoccmpijfggmkaa
