/-
  Behind of the program.
-/
import Derived.Test.YtoccmpijfggmkaaBe
import Derived.Test.YtoccmpijfggmkaaSc
import Derived.IntWalk
namespace Go.Proofs.Ytoccmpijfggmkaa
open Go.RowKit
set_option maxRecDepth 100000
set_option maxHeartbeats 2000000

def crossE (t : Int) (a b : Nat) : Edge := ⟨(a : Int), (b : Int) + t⟩
def crossRow (t : Int) (B : List Nat) (a : Nat) : List Edge := B.map (crossE t a)
def crossL (t : Int) (A B : List Nat) : List Edge := A.flatMap (crossRow t B)
noncomputable def moreL (p q : Plan) : List Edge := crossL p.tasks (sinksOf p) (sourcesOf q)
theorem crossL_len (t : Int) (A B : List Nat) : (crossL t A B).length = A.length * B.length := by
  induction A with
  | nil => simp [crossL]
  | cons a A ih =>
    unfold crossL at *
    rw [List.flatMap_cons, List.length_append, ih, List.length_cons, Nat.succ_mul]
    simp [crossRow]
    omega
theorem crossL_small (t : Int) {A B : List Nat} (hA : A.length ≤ 12) (hB : B.length ≤ 12) : (crossL t A B).length ≤ 144 := by
  rw [crossL_len]
  exact Nat.mul_le_mul hA hB
theorem moreL_len (p q : Plan) : (moreL p q).length ≤ 144 := crossL_small _ (sinksOf_len p) (sourcesOf_len q)
/-- what is laid so far: the rows of k tasks, and j of the next one's -/
def crossK (t : Int) (A B : List Nat) (k : Nat) : List Edge := crossL t (A.take k) B
theorem crossK_succ (t : Int) (A B : List Nat) {k : Nat} (h : k < A.length) : crossK t A B (k + 1) = crossK t A B k ++ crossRow t B A[k] := by
  unfold crossK crossL
  rw [take_snoc A k h, List.flatMap_append, List.flatMap_singleton]
theorem crossRow_succ (t : Int) (B : List Nat) (a : Nat) {j : Nat} (h : j < B.length) : crossRow t (B.take (j + 1)) a = crossRow t (B.take j) a ++ [crossE t a B[j]] := by
  unfold crossRow
  rw [take_snoc B j h, List.map_append]
  rfl
theorem crossK_len (t : Int) {A B : List Nat} (hA : A.length ≤ 12) (hB : B.length ≤ 12) (k : Nat) : (crossK t A B k).length ≤ 144 := by
  refine crossL_small t ?_ hB
  have := List.length_take_le' k A
  omega
theorem endsL_lt (f : Nat → List Nat) (k : Nat) : ∀ x ∈ endsL f k, x < k := fun x hx => by simp [endsL] at hx; exact hx.1
theorem sinksOf_pos {p : Plan} (h : 0 < (sinksOf p).length) : 1 ≤ p.tasks ∧ p.tasks ≤ 12 := by
  unfold sinksOf at h
  split at h
  · rename_i hf
    exact manyOk_tasks (planFault_zero.1 hf).1
  · simp at h
theorem sourcesOf_lt (p : Plan) : ∀ x ∈ sourcesOf p, x < 12 := by
  unfold sourcesOf
  split
  · rename_i hf
    have := manyOk_tasks (planFault_zero.1 hf).1
    intro x hx
    have := endsL_lt _ _ x hx
    omega
  · intro x hx; cases hx

theorem implJBehind_any (p : Plan) (ve : Value) (q : Plan) (vf : Value) (w : World) (hl : p.edges.length ≤ 2000000) (hl' : q.edges.length ≤ 2000000) (h : Rd edgeE w w.heap.size ve p.edges) (h' : Rd edgeE w w.heap.size vf q.edges) :
    Calls Try.prog 78 #[planV p ve, planV q vf] w (JoinPost (joined p q (moreL p q)) w) := by
  obtain ⟨W, hWe, D, E, Z, hW, hsz⟩ := threeBox_at p ve q vf w
  unfold twoBox planBox at hWe
  have HWe := Lib.hid hWe
  have Hsz := Lib.hid hsz
  clear hWe hsz
  have HM := Lib.hid (show moreL p q = crossL p.tasks (sinksOf p) (sourcesOf q) from rfl)
  have hA12 := sinksOf_len p
  have hB12 := sourcesOf_len q
  have hApos := Lib.hid (fun x => sinksOf_pos (p := p) x)
  have hBlt := Lib.hid (sourcesOf_lt q)
  obtain ⟨i0, hi0, hz0, hz1, hz2⟩ := info_parts edge_info
  unfold planV
  go_enter Try.func78, Try.ntmps78
  go_wp2_with fail
  rw [← HWe.out]
  refine (implSinks_any p ve _ hl ((h.below hW).more hW.size)).mono ?_
  rintro e w1 ⟨v1, rfl, o1, b1⟩
  have hZl := Z.lt
  have hW := bnext hW b1
  have D := D.below b1
  have E := E.below b1
  have Z := Z.below b1
  have hs1 := b1.size
  clear b1
  generalize sinksOf p = A at *
  generalize hBe : sourcesOf q = B at *
  have HBe := Lib.hid hBe
  clear hBe
  generalize moreL p q = M at *
  have D1 := Lib.hid D
  obtain ⟨A1, c1, rfl, -⟩ := id (Rd.of_own o1)
  have O0 := Ow.nil edgeE 91 w1 w1.heap.size
  go_wp2
  go_loopw [6, 14] (fun vl i wr => ∃ k : Nat, k ≤ A.length ∧ i = .int .i64 k ∧ Ow edgeE 91 wr w1.heap.size vl (crossK p.tasks A B k) ∧ Below w1.heap.size w1 wr) (fun _ i _ => A.length - (intOf i).toNat)
  case atStart => exact ⟨0, Nat.zero_le _, rfl, O0, Below.refl _ _⟩
  case round =>
    clear O0
    obtain ⟨k, hk, rfl, ho, hb2⟩ := hrel
    have o1 := o1.below hb2
    have D := D.below hb2
    have E := E.below hb2
    have Z := Z.below hb2
    have hW := bnext hW hb2
    have hs2 := hb2.size
    by_cases hlt : k < A.length
    · have hltI : (k : Int) < (A.length : Int) := by omega
      obtain ⟨pt1, pt2⟩ := hApos.out (by omega)
      have S0 := Lib.hid (crossK_succ p.tasks A B hlt)
      have hKl := crossK_len p.tasks hA12 hB12 k
      obtain ⟨g1, rfl, _, _⟩ := o1.some_ (by omega)
      have ca := o1.nat hlt
      generalize A[k] = a at *
      generalize hKK : crossK p.tasks A B k = K at *
      have HKK := Lib.hid hKK
      clear hKK
      obtain ⟨x0, x1, x2, x3, x4, xs⟩ := E.cells
      go_wp2_with fail
      clear x0 x1 x2 x3 x4 xs ca
      refine (implSources_any q vf _ hl' ((h'.below hW).more hW.size)).mono ?_
      rintro e w2 ⟨v2, rfl, o2, b2⟩
      rw [HBe.out] at o2
      have q2 := o2.within
      have hqq := ho.within
      have ho := ho.below b2
      have D := D.below b2
      have hb2 := bnext hb2 b2
      have hap : Hid (v2.ownBlock = none ∨ v2.ownBlock ≠ _) := q2.apart hqq (.inr (Nat.le_refl _))
      have o2 := o2.more hs2
      have hyz := D.lt
      clear b2 q2 hqq hW E Z o1
      obtain ⟨A2, c2, rfl, -⟩ := id (Rd.of_own o2)
      go_wp2
      go_loopw [6, 21] (fun vl i wr => ∃ j : Nat, j ≤ B.length ∧ i = .int .i64 j ∧ Ow edgeE 91 wr w1.heap.size vl (K ++ crossRow p.tasks (B.take j) a) ∧ Ow natE 3 wr w1.heap.size (.slice A2 B.length c2) B ∧ Hid ((Value.slice A2 B.length c2).ownBlock = none ∨ (Value.slice A2 B.length c2).ownBlock ≠ vl.ownBlock) ∧ Below w1.heap.size w1 wr) (fun _ i _ => B.length - (intOf i).toNat)
      case atStart => exact ⟨0, Nat.zero_le _, rfl, by simpa [crossRow] using ho, o2, hap, hb2⟩
      case round =>
        clear ho o2 hap hb2 D
        obtain ⟨j, hj, rfl, ho, o2, hap, hb2⟩ := hrel
        by_cases hjt : j < B.length
        · have hjI : (j : Int) < (B.length : Int) := by omega
          have D := D1.out.below hb2
          have hs3 := hb2.size
          have Sj := Lib.hid (crossRow_succ p.tasks B a hjt)
          have hbl := hBlt.out _ (List.getElem_mem hjt)
          obtain ⟨g2, rfl, hg2, hg2'⟩ := o2.some_ (by omega)
          have cb := o2.nat hjt
          generalize B[j] = b at *
          have hwr : IntKind.i64.wrap ((b : Int) + p.tasks) = (b : Int) + p.tasks := IntWalk.i64_in _ (by omega)
          have hRl : (K ++ crossRow p.tasks (B.take j) a).length ≤ 3000000 := by
            rw [List.length_append]
            unfold crossRow
            have := List.length_take_le' j B
            simp only [List.length_map]
            omega
          generalize hRR : K ++ crossRow p.tasks (B.take j) a = R at *
          have HRR := Lib.hid hRR
          clear hRR
          obtain ⟨x0, x1, x2, x3, x4, xs⟩ := D.cells
          have ha : Hid (∀ w : World, Below w.heap.size w (w.alloc (.cells #[.int .i64 (a : Int), .int .i64 ((b : Int) + p.tasks)] 91))) := fun w => (Below.refl _ _).alloc (Nat.le_refl _) _
          go_wp2_with (at_builtin; refine wpList_push_all _ edgeE (by decide) rfl (.tmp 25) (.tmp 32) rfl Try.underlying45 hi0 hz0 hz1 hz2 rfl (l := R) rfl (ho.below (ha.out _)) rfl (Rd.one edgeE _ _ (crossE p.tasks a b) rfl rfl 1 (Nat.le_refl _) (Nat.lt_succ_self _)) hRl (by simp) (by decide) (by simp; omega) ?_; intro v5 w5 o5 g5 f5)
          have hb' := bnext hb2 (ha.out _)
          have W5 := hb'.grown g5 hb'.size (fun g hg => by have := ho.within _ hg; omega)
          refine ⟨⟨j + 1, by omega, by go_num, by rw [Sj.out, ← List.append_assoc, HRR.out]; exact o5, (o2.below (ha.out _)).grown g5 hap.out, ?_, W5⟩, by simp [intOf]; omega⟩
          rcases f5 with f5 | f5
          · rw [f5]; exact hap.out
          · refine .inr ?_
            rw [f5]
            simp [Value.ownBlock]
            omega
        · have hjI : ¬ (j : Int) < (B.length : Int) := by omega
          have hj' : j = B.length := by omega
          have hb2F := hb2
          subst hj'
          rw [List.take_length] at ho
          go_wp2
          exact ⟨⟨k + 1, by omega, by go_num, by rw [S0.out]; exact ho, hb2F⟩, by simp [intOf]; omega⟩
    · have hltI : ¬ (k : Int) < (A.length : Int) := by omega
      have hk' : k = A.length := by omega
      have hWF := hW
      have hKl := crossK_len p.tasks hA12 hB12 A.length
      have HF := Lib.hid (show crossK p.tasks A B A.length = M by rw [HM.out]; unfold crossK; rw [List.take_length])
      subst hk'
      rw [HF.out] at ho hKl
      obtain ⟨x0, x1, x2, x3, x4, xs⟩ := E.cells
      obtain ⟨y0, y1, y2, y3, y4, ys⟩ := D.cells
      go_wp2_with fail
      clear x0 x1 x2 x3 x4 xs y0 y1 y2 y3 y4 ys
      refine (implJoined_any p ve q vf _ M _ hl hl' (by omega) ((h.below hWF).more hWF.size) ((h'.below hWF).more hWF.size) (Rd.of_own ho)).mono ?_
      rintro e w3 ⟨v3, rfl, o3, b3⟩
      obtain ⟨A3, c3, rfl, -⟩ := id (Rd.of_own o3)
      have hz := Z.lt
      have o3 := o3.more (base' := w.heap.size + 3) (by have := Hsz.out; omega)
      obtain ⟨z0, z1, z2, z3, z4, zs⟩ := (Z.below b3).cells
      have zf := (Z.below b3).free
      have hWF := bnext hWF b3
      go_wp2
      refine bodyPost_ret (v := .tuple #[planV (joined p q M).1 (.slice A3 (joined p q M).1.edges.length c3), .bool (joined p q M).2]) ?_ rfl ⟨.slice A3 (joined p q M).1.edges.length c3, rfl, ?_, ?_⟩
      · simp [planV, zeroPlan, results, Try.results78, go_sem, *]
      · refine Ow.more (base := w.heap.size + 3) ?_ (by omega)
        unfold Ow at o3 ⊢
        repeat (first | (with_reducible exact o3) | refine ownsRow_setCell_below ?_ (by simp <;> omega) _)
      · repeat (first | (with_reducible exact hWF) | refine Below.setCell ?_ (by simp <;> omega) _)
end Go.Proofs.Ytoccmpijfggmkaa
