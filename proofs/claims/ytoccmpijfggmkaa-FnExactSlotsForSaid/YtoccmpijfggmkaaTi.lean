/-
  TightOf of both.
-/
import Derived.Test.YtoccmpijfggmkaaSk
namespace Go.Proofs.Ytoccmpijfggmkaa
open Go.RowKit
set_option maxRecDepth 100000
set_option maxHeartbeats 2000000

def tightL (S : List Int) : Nat → List Int
  | 0 => []
  | k + 1 => tightL S k ++ if S.getD k 0 = 0 then [(k : Int)] else []
noncomputable def tightOf (p : Plan) (l : List Int) : List Int := tightL (slackOf p l) (slackOf p l).length
theorem tightL_len (S : List Int) : ∀ k, (tightL S k).length ≤ k
  | 0 => Nat.le_refl _
  | k + 1 => by
    have := tightL_len S k
    rw [tightL, List.length_append]
    split <;> simp <;> omega
theorem tightL_yes {S : List Int} {k : Nat} (h : k < S.length) (h0 : S[k] = 0) : tightL S (k + 1) = tightL S k ++ [(k : Int)] := by
  rw [tightL, if_pos (by simp [List.getD_eq_getElem?_getD, h, h0])]
theorem tightL_no {S : List Int} {k : Nat} (h : k < S.length) (h0 : ¬ S[k] = 0) : tightL S (k + 1) = tightL S k := by
  rw [tightL, if_neg (by simpa [List.getD_eq_getElem?_getD, h] using h0), List.append_nil]
theorem tightOf_len (p : Plan) (l : List Int) : (tightOf p l).length ≤ 12 := Nat.le_trans (tightL_len _ _) (slackOf_len p l)

theorem implTight_any (p : Plan) (ve v : Value) (l : List Int) (w : World) (hl : p.edges.length ≤ 2000000) (hl2 : l.length ≤ 2000000) (h : Rd edgeE w w.heap.size ve p.edges) (h2 : Rd intE w w.heap.size v l) :
    Calls Try.prog 101 #[planV p ve, v] w fun e w' => ∃ u, e = .returned u ∧ Ow intE 3 w' w.heap.size u (tightOf p l) ∧ Below w.heap.size w w' := by
  have hb0 := planBox_below 47 p ve w
  have D0 := BoxAt.new 47 p ve w
  have H := Lib.hid (show tightOf p l = tightL (slackOf p l) (slackOf p l).length from rfl)
  have hL12 := slackOf_len p l
  obtain ⟨j0, hj0, jz0, jz1, jz2⟩ := info_parts int_info
  unfold planV
  go_enter Try.func101, Try.ntmps101
  go_wp2_with fail
  refine (implSlack_any p ve v l _ hl hl2 ((h.below hb0).more hb0.size) ((h2.below hb0).more hb0.size)).mono ?_
  rintro e w2 ⟨u2, rfl, o2, hb1⟩
  have hb := bnext hb0 hb1
  have hsz := hb.size
  clear hb0 hb1 D0
  generalize slackOf p l = L at *
  obtain ⟨A2, c2, rfl, -⟩ := id (Rd.of_own o2)
  have O0 := Ow.nil intE 3 w2 w2.heap.size
  go_wp2
  go_loopw [5, 12] (fun vl i wr => ∃ k : Nat, k ≤ L.length ∧ i = .int .i64 k ∧ Ow intE 3 wr w2.heap.size vl (tightL L k) ∧ Below w2.heap.size w2 wr) (fun _ i _ => L.length - (intOf i).toNat)
  case atStart => exact ⟨0, Nat.zero_le _, rfl, O0, Below.refl _ _⟩
  case round =>
    clear O0
    obtain ⟨k, hk, rfl, ho, hb2⟩ := hrel
    have o2 := o2.below hb2
    have hsz2 := hb2.size
    by_cases hlt : k < L.length
    · have hltI : (k : Int) < (L.length : Int) := by omega
      have hsl := tightL_len L k
      obtain ⟨g2, rfl, _, _⟩ := o2.some_ (by omega)
      have cl := o2.int hlt
      by_cases h0 : L[k] = 0
      · have hs := Lib.hid (tightL_yes hlt h0)
        have hbq : (L[k] == 0) = true := by simpa using h0
        have ha : Hid (∀ w : World, Below w.heap.size w (w.alloc (.cells #[.int .i64 (k : Int)] 3))) := fun w => (Below.refl _ _).alloc (Nat.le_refl _) _
        clear h0
        go_wp2_with (at_builtin; refine wpList_push_all _ intE (by decide) rfl (.tmp 19) (.tmp 21) rfl Try.underlying50 hj0 jz0 jz1 jz2 rfl (l := tightL L k) rfl (ho.below (ha.out _)) rfl (Rd.one intE _ _ (k : Int) rfl rfl 1 (Nat.le_refl _) (Nat.lt_succ_self _)) (by omega) (by simp) (by decide) (by simp; omega) ?_; intro v5 w5 o5 g5 _)
        have hb' := bnext hb2 (ha.out _)
        have W5 := hb'.grown g5 hb'.size (fun g hg => by have := ho.within _ hg; omega)
        exact ⟨⟨k + 1, by omega, by go_num, by rw [hs.out]; exact o5, W5⟩, by simp [intOf]; omega⟩
      · have hs := Lib.hid (tightL_no hlt h0)
        have hbq : (L[k] == 0) = false := by simpa using h0
        clear h0
        go_wp2
        exact ⟨⟨k + 1, by omega, by go_num, by rw [hs.out]; exact ho, hb2⟩, by simp [intOf]; omega⟩
    · have hltI : ¬ (k : Int) < (L.length : Int) := by omega
      have hk' : k = L.length := by omega
      have hbF := hb
      have hb2F := hb2
      subst hk'
      go_wp2
      go_ret
      exact ⟨_, rfl, by rw [H.out]; exact ho.more hsz, bnext hbF hb2F⟩

theorem specTight_any (p : Plan) (ve v : Value) (l : List Int) (w : World) (hl : p.edges.length ≤ 2000000) (hl2 : l.length ≤ 2000000) (h : Rd edgeE w w.heap.size ve p.edges) (h2 : Rd intE w w.heap.size v l) :
    Calls Try.prog 103 #[planV p ve, v] w fun e w' => ∃ u, e = .returned u ∧ Ow intE 3 w' w.heap.size u (tightOf p l) ∧ Below w.heap.size w w' := by
  have ha0 : ∀ w : World, Below w.heap.size w (w.alloc (.cells #[] 3)) := fun w => (Below.refl _ _).alloc (Nat.le_refl _) _
  have hb0 := bnext (planBox_below 47 p ve w) (ha0 _)
  have D0 := (BoxAt.new 47 p ve w).below (ha0 _)
  have O0 := Ow.empty intE 3 (planBox 47 p ve w) (g := w.heap.size + 1) (by rw [planBox_size])
  clear ha0
  have H := Lib.hid (show tightOf p l = tightL (slackOf p l) (slackOf p l).length from rfl)
  have hL12 := slackOf_len p l
  obtain ⟨j0, hj0, jz0, jz1, jz2⟩ := info_parts int_info
  obtain ⟨x0, x1, x2, x3, x4, xs⟩ := D0.cells
  unfold planV
  go_enter Try.func103, Try.ntmps103
  go_wp2_with fail
  clear x0 x1 x2 x3 x4 xs
  refine (specSlack_any p ve v l _ hl hl2 ((h.below hb0).more hb0.size) ((h2.below hb0).more hb0.size)).mono ?_
  rintro e w2 ⟨u2, rfl, o2, hb1⟩
  have q0 := O0.within
  have O0 := O0.below hb1
  have hb := bnext hb0 hb1
  have hsz := hb.size
  have q2 := o2.within
  have hsz0 := hb0.size
  clear hb0 hb1 D0
  generalize slackOf p l = L at *
  obtain ⟨A2, c2, rfl, -⟩ := id (Rd.of_own o2)
  go_wp2
  go_loopw [5, 7] (fun vl i wr => ∃ k : Nat, k ≤ L.length ∧ i = .int .i64 k ∧ Ow intE 3 wr (w.heap.size + 1) vl (tightL L k) ∧ Ow intE 3 wr w.heap.size (.slice A2 L.length c2) L ∧ Hid ((Value.slice A2 L.length c2).ownBlock = none ∨ (Value.slice A2 L.length c2).ownBlock ≠ vl.ownBlock) ∧ Below w.heap.size w wr) (fun _ i _ => L.length - (intOf i).toNat)
  case atStart => exact ⟨0, Nat.zero_le _, rfl, O0, o2.more hsz0, q2.apart q0 (.inr (Nat.le_refl _)), hb⟩
  case round =>
    clear O0 o2 hb hsz q2 q0
    obtain ⟨k, hk, rfl, ho, o2, hap, hb⟩ := hrel
    have hsz := hb.size
    have hsz2 := ho.within
    by_cases hlt : k < L.length
    · have hltI : (k : Int) < (L.length : Int) := by omega
      have hsl := tightL_len L k
      obtain ⟨g2, rfl, hg2, hg2'⟩ := o2.some_ (by omega)
      have cl := o2.int hlt
      by_cases h0 : L[k] = 0
      · have hs := Lib.hid (tightL_yes hlt h0)
        have hbq : (L[k] == 0) = true := by simpa using h0
        have ha : Hid (∀ w : World, Below w.heap.size w (w.alloc (.cells #[.int .i64 (k : Int)] 3))) := fun w => (Below.refl _ _).alloc (Nat.le_refl _) _
        clear h0
        go_wp2_with (at_builtin; refine wpList_push_all _ intE (by decide) rfl (.tmp 23) (.tmp 25) rfl Try.underlying50 hj0 jz0 jz1 jz2 rfl (l := tightL L k) rfl (ho.below (ha.out _)) rfl (Rd.one intE _ _ (k : Int) rfl rfl 1 (Nat.le_refl _) (Nat.lt_succ_self _)) (by omega) (by simp) (by decide) (by simp; omega) ?_; intro v5 w5 o5 g5 f5)
        have hb' := bnext hb (ha.out _)
        have W5 := hb'.grown g5 hb'.size (fun g hg => by have := ho.within _ hg; omega)
        refine ⟨⟨k + 1, by omega, by go_num, by rw [hs.out]; exact o5, (o2.below (ha.out _)).grown g5 hap.out, ?_, W5⟩, by simp [intOf]; omega⟩
        rcases f5 with f5 | f5
        · rw [f5]; exact hap.out
        · refine .inr ?_
          rw [f5]
          simp [Value.ownBlock]
          omega
      · have hs := Lib.hid (tightL_no hlt h0)
        have hbq : (L[k] == 0) = false := by simpa using h0
        clear h0
        go_wp2
        exact ⟨⟨k + 1, by omega, by go_num, by rw [hs.out]; exact ho, o2, hap, hb⟩, by simp [intOf]; omega⟩
    · have hltI : ¬ (k : Int) < (L.length : Int) := by omega
      have hk' : k = L.length := by omega
      have hbF := hb
      subst hk'
      go_wp2
      go_ret
      exact ⟨_, rfl, by rw [H.out]; exact ho.more (by omega), hbF⟩
end Go.Proofs.Ytoccmpijfggmkaa
