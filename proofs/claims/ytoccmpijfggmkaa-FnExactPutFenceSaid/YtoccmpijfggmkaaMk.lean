/-
  Walks of the helpers of the laws that mark memory and look at the marks: on lists of ints, of flat structs, on plans. Written by program (mark.py).
-/
import Derived.Test.YtoccmpijfggmkaaBx
import Derived.Test.YtoccmpijfggmkaaIn
import Derived.Test.YtoccmpijfggmkaaSl
namespace Go.Proofs.Ytoccmpijfggmkaa
open Go.RowKit
set_option maxRecDepth 100000
set_option maxHeartbeats 1000000

theorem Rd.grown {α : Type} {e : Enc α} {w w' : World} {B : Nat} {v : Value} {l : List α} {row : Option Nat} (h : Rd e w B v l) (hg : w.grownBy w' row) (hB : B ≤ w.heap.size) (hr : ∀ g, row = some g → B ≤ g) : Rd e w' B v l :=
  h.below ((Below.refl B w).grown hg hB hr)

/-- what a marking leaves -/
def MarkPost {α : Type} (e : Enc α) (E : TypeId) (base : Nat) (v : Value) (l : List α) (r : Int) (w : World) (en : Ending) (w' : World) : Prop :=
  en = .returned (.int .i64 r) ∧ Ow e E w' base v l ∧ w.grownBy w' v.ownBlock ∧ Below base w w'


def mkInt (k : Int) : Int := k
/-- the marks from k on -/
def mkInts : Nat → Int → List Int
  | 0, _ => []
  | n + 1, k => mkInt k :: mkInts n (k + 1)
theorem mkInts_length : ∀ (n : Nat) (k : Int), (mkInts n k).length = n
  | 0, _ => rfl
  | n + 1, k => by simp [mkInts, mkInts_length n]
theorem mkInts_get : ∀ (n : Nat) (k : Int) (j : Nat) (h : j < (mkInts n k).length), (mkInts n k)[j] = mkInt (k + 1 * j)
  | 0, _, _, h => absurd h (by simp [mkInts])
  | n + 1, k, 0, _ => by simp [mkInts]
  | n + 1, k, j + 1, h => by
    have := mkInts_get n (k + 1) j (by simpa [mkInts] using h)
    simp only [mkInts, List.getElem_cons_succ]
    have e : k + 1 + 1 * (j : Int) = k + 1 * ((j + 1 : Nat) : Int) := by push_cast; omega
    rw [this, e]
theorem mkInts_snoc : ∀ (n : Nat) (k : Int), mkInts (n + 1) k = mkInts n k ++ [mkInt (k + 1 * n)]
  | 0, k => by simp [mkInts]
  | n + 1, k => by
    have e : k + 1 + 1 * (n : Int) = k + 1 * ((n + 1 : Nat) : Int) := by push_cast; omega
    rw [mkInts, mkInts_snoc n (k + 1), e]
    simp only [mkInts, List.cons_append]
theorem mkInts_set (l : List Int) (k : Int) (j : Nat) (h : j < l.length) : (mkInts j k ++ l.drop j).set j (mkInt (k + 1 * j)) = mkInts (j + 1) k ++ l.drop (j + 1) := by
  rw [List.set_append_right _ _ (by rw [mkInts_length]; exact Nat.le_refl _), mkInts_length, Nat.sub_self, mkInts_snoc, List.append_assoc, ← List.getElem_cons_drop h, List.set_cons_zero, List.singleton_append]


theorem markIntS_any (v : Value) (l : List Int) (k : Int) (base : Nat) (w : World) (hl : l.length ≤ 2000000) (hk0 : 0 ≤ k) (hk1 : k ≤ 1000000000) (hbase : base ≤ w.heap.size) (ho : Ow intE 3 w base v l) :
    Calls Try.prog 91 #[v, .int .i64 k] w (MarkPost intE 3 base v (mkInts l.length k) (k + 1 * l.length) w) := by
  rcases ho.form with ⟨rfl, rfl⟩ | ⟨g, cap, rfl, hg0, hg1, _⟩
  · go_enter Try.func91, Try.ntmps91
    go_wp2
    go_loop [1, 5] (fun q i => q = .int .i64 k ∧ i = .int .i64 0) (fun _ _ => 0)
    case atStart => exact ⟨rfl, rfl⟩
    case round =>
      obtain ⟨rfl, rfl⟩ := hrel
      go_wp2
      go_ret
      exact ⟨ret_int (by simp), ho, World.grownBy.refl _ _, Below.refl _ _⟩
  · go_enter Try.func91, Try.ntmps91
    go_wp2
    go_loopw [1, 5] (fun q i wr => ∃ (j : Nat) (m : Int), j ≤ l.length ∧ i = .int .i64 j ∧ q = .int .i64 m ∧ Hid (m = k + 1 * j) ∧ Ow intE 3 wr base (.slice (some ⟨g, 0, none⟩) l.length cap) (mkInts j k ++ l.drop j) ∧ Hid (w.grownBy wr (some g)) ∧ Below base w wr) (fun _ i _ => l.length - (intOf i).toNat)
    case atStart => exact ⟨0, k, Nat.zero_le _, rfl, rfl, by show k = _; simp, ho, World.grownBy.refl _ _, Below.refl _ _⟩
    case round =>
      clear ho
      obtain ⟨j, m, hj, rfl, rfl, hm, ho, hgr, hb⟩ := hrel
      have hm' := hm.out
      have hm0 : 0 ≤ m := by omega
      have hm1 : m ≤ 1002000000 := by omega
      clear hm'
      by_cases hlt : j < l.length
      · have hltI : (j : Int) < (l.length : Int) := by omega
        have hlen : (mkInts j k ++ l.drop j).length = l.length := by simp [mkInts_length]; omega
        have hf := ho.free
        have hcell := ho.int (k := j) (by rw [hlen]; exact hlt)
        have c0 := hcell
        have hp := Ow.put ho hlen j hlt (mkInt m)
        rw [show mkInt m = mkInt (k + 1 * j) from by rw [hm.out], mkInts_set l k j hlt, ← hm.out] at hp
        simp only [intE, Nat.mul_one] at hp
        have Hp := Lib.hid hp
        clear hp
        clear hcell
        go_wp2
        have hgr2 := hgr.out.trans Hp.out.2
        exact ⟨⟨j + 1, m + 1, by omega, by go_num, congrArg (Value.int .i64) (by omega), (by show m + 1 = _; rw [hm.out]; push_cast; omega), Hp.out.1, hgr2, hb.grown Hp.out.2 (Nat.le_trans hbase hb.size) (fun g' hg' => by simp at hg'; omega)⟩, by simp [intOf]; omega⟩
      · have hj' : j = l.length := by omega
        subst hj'
        go_wp2
        go_ret
        refine ⟨ret_int hm.out, ?_, ?_, hb⟩
        · simpa using ho
        · simpa [Value.ownBlock] using hgr.out


theorem heldIntS_any (v : Value) (n : Nat) (k : Int) (w : World) (hl : n ≤ 2000000) (hk0 : 0 ≤ k) (hk1 : k ≤ 1000000000) (h : Rd intE w w.heap.size v (mkInts n k)) :
    Calls Try.prog 92 #[v, .int .i64 k] w fun e w' => e = .returned (.int .i64 (k + 1 * n)) ∧ Below w.heap.size w w' := by
  obtain ⟨A, c, rfl, -⟩ := id h
  have hcell : ∀ (B : Nat) (wr : World) (j : Nat), j < n → Rd intE wr B (.slice A (mkInts n k).length c) (mkInts n k) → ∃ b o, A = some ⟨b, o, none⟩ ∧ b < B ∧ wr.cell? ⟨b, o + j, none⟩ = some (.int .i64 (k + 1 * j)) := by
    intro B wr j hj hr
    have := hr.int (k := j) (by rw [mkInts_length]; exact hj)
    rw [mkInts_get] at this
    exact this
  rw [mkInts_length] at hcell h ⊢
  have Hc := Lib.hid hcell
  clear hcell
  go_enter Try.func92, Try.ntmps92
  go_wp2
  go_loopw [1, 5] (fun q i wr => ∃ (j : Nat) (m : Int), j ≤ n ∧ i = .int .i64 j ∧ q = .int .i64 m ∧ Hid (m = k + 1 * j) ∧ Below w.heap.size w wr) (fun _ i _ => n - (intOf i).toNat)
  case atStart => exact ⟨0, k, Nat.zero_le _, rfl, rfl, by show k = _; simp, Below.refl _ _⟩
  case round =>
    obtain ⟨j, m, hj, rfl, rfl, hm, hb⟩ := hrel
    have hm' := hm.out
    have hm0 : 0 ≤ m := by omega
    have hm1 : m ≤ 1002000000 := by omega
    clear hm'
    by_cases hlt : j < n
    · have hltI : (j : Int) < (n : Int) := by omega
      obtain ⟨b, o, rfl, hbb, c0⟩ := Hc.out _ _ j hlt (h.below hb)
      rw [← hm.out] at c0
      go_wp2
      exact ⟨⟨j + 1, m + 1, by omega, by go_num, congrArg (Value.int .i64) (by omega), (by show m + 1 = _; rw [hm.out]; push_cast; omega), hb⟩, by simp [intOf]; omega⟩
    · have hj' : j = n := by omega
      subst hj'
      go_wp2
      go_ret
      exact ⟨ret_int hm.out, hb⟩


def mkEdge (k : Int) : Edge := ⟨k, k + 1⟩
/-- the marks from k on -/
def mkEdges : Nat → Int → List Edge
  | 0, _ => []
  | n + 1, k => mkEdge k :: mkEdges n (k + 2)
theorem mkEdges_length : ∀ (n : Nat) (k : Int), (mkEdges n k).length = n
  | 0, _ => rfl
  | n + 1, k => by simp [mkEdges, mkEdges_length n]
theorem mkEdges_get : ∀ (n : Nat) (k : Int) (j : Nat) (h : j < (mkEdges n k).length), (mkEdges n k)[j] = mkEdge (k + 2 * j)
  | 0, _, _, h => absurd h (by simp [mkEdges])
  | n + 1, k, 0, _ => by simp [mkEdges]
  | n + 1, k, j + 1, h => by
    have := mkEdges_get n (k + 2) j (by simpa [mkEdges] using h)
    simp only [mkEdges, List.getElem_cons_succ]
    have e : k + 2 + 2 * (j : Int) = k + 2 * ((j + 1 : Nat) : Int) := by push_cast; omega
    rw [this, e]
theorem mkEdges_snoc : ∀ (n : Nat) (k : Int), mkEdges (n + 1) k = mkEdges n k ++ [mkEdge (k + 2 * n)]
  | 0, k => by simp [mkEdges]
  | n + 1, k => by
    have e : k + 2 + 2 * (n : Int) = k + 2 * ((n + 1 : Nat) : Int) := by push_cast; omega
    rw [mkEdges, mkEdges_snoc n (k + 2), e]
    simp only [mkEdges, List.cons_append]
theorem mkEdges_set (l : List Edge) (k : Int) (j : Nat) (h : j < l.length) : (mkEdges j k ++ l.drop j).set j (mkEdge (k + 2 * j)) = mkEdges (j + 1) k ++ l.drop (j + 1) := by
  rw [List.set_append_right _ _ (by rw [mkEdges_length]; exact Nat.le_refl _), mkEdges_length, Nat.sub_self, mkEdges_snoc, List.append_assoc, ← List.getElem_cons_drop h, List.set_cons_zero, List.singleton_append]


theorem markEdgeS_any (v : Value) (l : List Edge) (k : Int) (base : Nat) (w : World) (hl : l.length ≤ 2000000) (hk0 : 0 ≤ k) (hk1 : k ≤ 1000000000) (hbase : base ≤ w.heap.size) (ho : Ow edgeE 91 w base v l) :
    Calls Try.prog 129 #[v, .int .i64 k] w (MarkPost edgeE 91 base v (mkEdges l.length k) (k + 2 * l.length) w) := by
  rcases ho.form with ⟨rfl, rfl⟩ | ⟨g, cap, rfl, hg0, hg1, _⟩
  · go_enter Try.func129, Try.ntmps129
    go_wp2
    go_loop [1, 5] (fun q i => q = .int .i64 k ∧ i = .int .i64 0) (fun _ _ => 0)
    case atStart => exact ⟨rfl, rfl⟩
    case round =>
      obtain ⟨rfl, rfl⟩ := hrel
      go_wp2
      go_ret
      exact ⟨ret_int (by simp), ho, World.grownBy.refl _ _, Below.refl _ _⟩
  · go_enter Try.func129, Try.ntmps129
    go_wp2
    go_loopw [1, 5] (fun q i wr => ∃ (j : Nat) (m : Int), j ≤ l.length ∧ i = .int .i64 j ∧ q = .int .i64 m ∧ Hid (m = k + 2 * j) ∧ Ow edgeE 91 wr base (.slice (some ⟨g, 0, none⟩) l.length cap) (mkEdges j k ++ l.drop j) ∧ Hid (w.grownBy wr (some g)) ∧ Below base w wr) (fun _ i _ => l.length - (intOf i).toNat)
    case atStart => exact ⟨0, k, Nat.zero_le _, rfl, rfl, by show k = _; simp, ho, World.grownBy.refl _ _, Below.refl _ _⟩
    case round =>
      clear ho
      obtain ⟨j, m, hj, rfl, rfl, hm, ho, hgr, hb⟩ := hrel
      have hm' := hm.out
      have hm0 : 0 ≤ m := by omega
      have hm1 : m ≤ 1004000000 := by omega
      clear hm'
      by_cases hlt : j < l.length
      · have hltI : (j : Int) < (l.length : Int) := by omega
        have hlen : (mkEdges j k ++ l.drop j).length = l.length := by simp [mkEdges_length]; omega
        have hf := ho.free
        have hcell := ho.edge (k := j) (by rw [hlen]; exact hlt)
        obtain ⟨c0, c1⟩ := hcell
        have hp := Ow.put ho hlen j hlt (mkEdge m)
        rw [show mkEdge m = mkEdge (k + 2 * j) from by rw [hm.out], mkEdges_set l k j hlt, ← hm.out] at hp
        
        have Hp := Lib.hid hp
        clear hp
        
        go_wp2
        have hgr2 := hgr.out.trans Hp.out.2
        exact ⟨⟨j + 1, m + 2, by omega, by go_num, congrArg (Value.int .i64) (by omega), (by show m + 2 = _; rw [hm.out]; push_cast; omega), Hp.out.1, hgr2, hb.grown Hp.out.2 (Nat.le_trans hbase hb.size) (fun g' hg' => by simp at hg'; omega)⟩, by simp [intOf]; omega⟩
      · have hj' : j = l.length := by omega
        subst hj'
        go_wp2
        go_ret
        refine ⟨ret_int hm.out, ?_, ?_, hb⟩
        · simpa using ho
        · simpa [Value.ownBlock] using hgr.out


theorem heldEdgeS_any (v : Value) (n : Nat) (k : Int) (w : World) (hl : n ≤ 2000000) (hk0 : 0 ≤ k) (hk1 : k ≤ 1000000000) (h : Rd edgeE w w.heap.size v (mkEdges n k)) :
    Calls Try.prog 130 #[v, .int .i64 k] w fun e w' => e = .returned (.int .i64 (k + 2 * n)) ∧ Below w.heap.size w w' := by
  obtain ⟨A, c, rfl, -⟩ := id h
  have hcell : ∀ (B : Nat) (wr : World) (j : Nat), j < n → Rd edgeE wr B (.slice A (mkEdges n k).length c) (mkEdges n k) → ∃ b o, A = some ⟨b, o, none⟩ ∧ b < B ∧ wr.cell? ⟨b, o + j * 2, none⟩ = some (.int .i64 (k + 2 * j)) ∧ wr.cell? ⟨b, o + j * 2 + 1, none⟩ = some (.int .i64 (k + 2 * j + 1)) := by
    intro B wr j hj hr
    have := hr.edge (k := j) (by rw [mkEdges_length]; exact hj)
    rw [mkEdges_get] at this
    exact this
  rw [mkEdges_length] at hcell h ⊢
  have Hc := Lib.hid hcell
  clear hcell
  go_enter Try.func130, Try.ntmps130
  go_wp2
  go_loopw [1, 5] (fun q i wr => ∃ (j : Nat) (m : Int), j ≤ n ∧ i = .int .i64 j ∧ q = .int .i64 m ∧ Hid (m = k + 2 * j) ∧ Below w.heap.size w wr) (fun _ i _ => n - (intOf i).toNat)
  case atStart => exact ⟨0, k, Nat.zero_le _, rfl, rfl, by show k = _; simp, Below.refl _ _⟩
  case round =>
    obtain ⟨j, m, hj, rfl, rfl, hm, hb⟩ := hrel
    have hm' := hm.out
    have hm0 : 0 ≤ m := by omega
    have hm1 : m ≤ 1004000000 := by omega
    clear hm'
    by_cases hlt : j < n
    · have hltI : (j : Int) < (n : Int) := by omega
      obtain ⟨b, o, rfl, hbb, c0, c1⟩ := Hc.out _ _ j hlt (h.below hb)
      rw [← hm.out] at c0 c1
      go_wp2
      exact ⟨⟨j + 1, m + 2, by omega, by go_num, congrArg (Value.int .i64) (by omega), (by show m + 2 = _; rw [hm.out]; push_cast; omega), hb⟩, by simp [intOf]; omega⟩
    · have hj' : j = n := by omega
      subst hj'
      go_wp2
      go_ret
      exact ⟨ret_int hm.out, hb⟩


def mkSlot (k : Int) : Slot := ⟨k, k + 1, k + 1 + 1, k + 1 + 1 + 1⟩
/-- the marks from k on -/
def mkSlots : Nat → Int → List Slot
  | 0, _ => []
  | n + 1, k => mkSlot k :: mkSlots n (k + 4)
theorem mkSlots_length : ∀ (n : Nat) (k : Int), (mkSlots n k).length = n
  | 0, _ => rfl
  | n + 1, k => by simp [mkSlots, mkSlots_length n]
theorem mkSlots_get : ∀ (n : Nat) (k : Int) (j : Nat) (h : j < (mkSlots n k).length), (mkSlots n k)[j] = mkSlot (k + 4 * j)
  | 0, _, _, h => absurd h (by simp [mkSlots])
  | n + 1, k, 0, _ => by simp [mkSlots]
  | n + 1, k, j + 1, h => by
    have := mkSlots_get n (k + 4) j (by simpa [mkSlots] using h)
    simp only [mkSlots, List.getElem_cons_succ]
    have e : k + 4 + 4 * (j : Int) = k + 4 * ((j + 1 : Nat) : Int) := by push_cast; omega
    rw [this, e]
theorem mkSlots_snoc : ∀ (n : Nat) (k : Int), mkSlots (n + 1) k = mkSlots n k ++ [mkSlot (k + 4 * n)]
  | 0, k => by simp [mkSlots]
  | n + 1, k => by
    have e : k + 4 + 4 * (n : Int) = k + 4 * ((n + 1 : Nat) : Int) := by push_cast; omega
    rw [mkSlots, mkSlots_snoc n (k + 4), e]
    simp only [mkSlots, List.cons_append]
theorem mkSlots_set (l : List Slot) (k : Int) (j : Nat) (h : j < l.length) : (mkSlots j k ++ l.drop j).set j (mkSlot (k + 4 * j)) = mkSlots (j + 1) k ++ l.drop (j + 1) := by
  rw [List.set_append_right _ _ (by rw [mkSlots_length]; exact Nat.le_refl _), mkSlots_length, Nat.sub_self, mkSlots_snoc, List.append_assoc, ← List.getElem_cons_drop h, List.set_cons_zero, List.singleton_append]


theorem markSlotS_any (v : Value) (l : List Slot) (k : Int) (base : Nat) (w : World) (hl : l.length ≤ 2000000) (hk0 : 0 ≤ k) (hk1 : k ≤ 1000000000) (hbase : base ≤ w.heap.size) (ho : Ow slotE 62 w base v l) :
    Calls Try.prog 95 #[v, .int .i64 k] w (MarkPost slotE 62 base v (mkSlots l.length k) (k + 4 * l.length) w) := by
  rcases ho.form with ⟨rfl, rfl⟩ | ⟨g, cap, rfl, hg0, hg1, _⟩
  · go_enter Try.func95, Try.ntmps95
    go_wp2
    go_loop [1, 5] (fun q i => q = .int .i64 k ∧ i = .int .i64 0) (fun _ _ => 0)
    case atStart => exact ⟨rfl, rfl⟩
    case round =>
      obtain ⟨rfl, rfl⟩ := hrel
      go_wp2
      go_ret
      exact ⟨ret_int (by simp), ho, World.grownBy.refl _ _, Below.refl _ _⟩
  · go_enter Try.func95, Try.ntmps95
    go_wp2
    go_loopw [1, 5] (fun q i wr => ∃ (j : Nat) (m : Int), j ≤ l.length ∧ i = .int .i64 j ∧ q = .int .i64 m ∧ Hid (m = k + 4 * j) ∧ Ow slotE 62 wr base (.slice (some ⟨g, 0, none⟩) l.length cap) (mkSlots j k ++ l.drop j) ∧ Hid (w.grownBy wr (some g)) ∧ Below base w wr) (fun _ i _ => l.length - (intOf i).toNat)
    case atStart => exact ⟨0, k, Nat.zero_le _, rfl, rfl, by show k = _; simp, ho, World.grownBy.refl _ _, Below.refl _ _⟩
    case round =>
      clear ho
      obtain ⟨j, m, hj, rfl, rfl, hm, ho, hgr, hb⟩ := hrel
      have hm' := hm.out
      have hm0 : 0 ≤ m := by omega
      have hm1 : m ≤ 1008000000 := by omega
      clear hm'
      by_cases hlt : j < l.length
      · have hltI : (j : Int) < (l.length : Int) := by omega
        have hlen : (mkSlots j k ++ l.drop j).length = l.length := by simp [mkSlots_length]; omega
        have hf := ho.free
        have hcell := ho.slot (k := j) (by rw [hlen]; exact hlt)
        obtain ⟨c0, c1, c2, c3⟩ := hcell
        have hp := Ow.put ho hlen j hlt (mkSlot m)
        rw [show mkSlot m = mkSlot (k + 4 * j) from by rw [hm.out], mkSlots_set l k j hlt, ← hm.out] at hp
        
        have Hp := Lib.hid hp
        clear hp
        
        go_wp2
        have hgr2 := hgr.out.trans Hp.out.2
        exact ⟨⟨j + 1, m + 4, by omega, by go_num, congrArg (Value.int .i64) (by omega), (by show m + 4 = _; rw [hm.out]; push_cast; omega), Hp.out.1, hgr2, hb.grown Hp.out.2 (Nat.le_trans hbase hb.size) (fun g' hg' => by simp at hg'; omega)⟩, by simp [intOf]; omega⟩
      · have hj' : j = l.length := by omega
        subst hj'
        go_wp2
        go_ret
        refine ⟨ret_int hm.out, ?_, ?_, hb⟩
        · simpa using ho
        · simpa [Value.ownBlock] using hgr.out


theorem heldSlotS_any (v : Value) (n : Nat) (k : Int) (w : World) (hl : n ≤ 2000000) (hk0 : 0 ≤ k) (hk1 : k ≤ 1000000000) (h : Rd slotE w w.heap.size v (mkSlots n k)) :
    Calls Try.prog 96 #[v, .int .i64 k] w fun e w' => e = .returned (.int .i64 (k + 4 * n)) ∧ Below w.heap.size w w' := by
  obtain ⟨A, c, rfl, -⟩ := id h
  have hcell : ∀ (B : Nat) (wr : World) (j : Nat), j < n → Rd slotE wr B (.slice A (mkSlots n k).length c) (mkSlots n k) → ∃ b o, A = some ⟨b, o, none⟩ ∧ b < B ∧ wr.cell? ⟨b, o + j * 4, none⟩ = some (.int .i64 (k + 4 * j)) ∧ wr.cell? ⟨b, o + j * 4 + 1, none⟩ = some (.int .i64 (k + 4 * j + 1)) ∧ wr.cell? ⟨b, o + j * 4 + 2, none⟩ = some (.int .i64 (k + 4 * j + 1 + 1)) ∧ wr.cell? ⟨b, o + j * 4 + 3, none⟩ = some (.int .i64 (k + 4 * j + 1 + 1 + 1)) := by
    intro B wr j hj hr
    have := hr.slot (k := j) (by rw [mkSlots_length]; exact hj)
    rw [mkSlots_get] at this
    exact this
  rw [mkSlots_length] at hcell h ⊢
  have Hc := Lib.hid hcell
  clear hcell
  go_enter Try.func96, Try.ntmps96
  go_wp2
  go_loopw [1, 5] (fun q i wr => ∃ (j : Nat) (m : Int), j ≤ n ∧ i = .int .i64 j ∧ q = .int .i64 m ∧ Hid (m = k + 4 * j) ∧ Below w.heap.size w wr) (fun _ i _ => n - (intOf i).toNat)
  case atStart => exact ⟨0, k, Nat.zero_le _, rfl, rfl, by show k = _; simp, Below.refl _ _⟩
  case round =>
    obtain ⟨j, m, hj, rfl, rfl, hm, hb⟩ := hrel
    have hm' := hm.out
    have hm0 : 0 ≤ m := by omega
    have hm1 : m ≤ 1008000000 := by omega
    clear hm'
    by_cases hlt : j < n
    · have hltI : (j : Int) < (n : Int) := by omega
      obtain ⟨b, o, rfl, hbb, c0, c1, c2, c3⟩ := Hc.out _ _ j hlt (h.below hb)
      rw [← hm.out] at c0 c1 c2 c3
      go_wp2
      exact ⟨⟨j + 1, m + 4, by omega, by go_num, congrArg (Value.int .i64) (by omega), (by show m + 4 = _; rw [hm.out]; push_cast; omega), hb⟩, by simp [intOf]; omega⟩
    · have hj' : j = n := by omega
      subst hj'
      go_wp2
      go_ret
      exact ⟨ret_int hm.out, hb⟩


theorem markPlan_any (p : Plan) (v : Value) (k : Int) (base : Nat) (w : World) (hl : p.edges.length ≤ 2000000) (hk0 : 0 ≤ k) (hk1 : k ≤ 1000000000) (hbase : base ≤ w.heap.size) (ho : Ow edgeE 91 w base v p.edges) :
    Calls Try.prog 64 #[planV p v, .int .i64 k] w (MarkPost edgeE 91 base v (mkEdges p.edges.length k) (k + 2 * p.edges.length) w) := by
  have hb0 := planBox_below 47 p v w
  unfold planV
  go_enter Try.func64, Try.ntmps64
  go_wp2_with fail
  refine (markEdgeS_any v p.edges k base _ hl hk0 hk1 (Nat.le_trans hbase hb0.size) (ho.below hb0)).mono ?_
  rintro e w1 ⟨rfl, o1, g1, b1⟩
  go_wp2_with fail
  go_ret
  refine ⟨rfl, o1, ?_, (hb0.mono hbase).trans b1⟩
  exact (grown_of_below hb0 _).trans g1

theorem heldPlan_any (p : Plan) (v : Value) (n : Nat) (k : Int) (w : World) (hl : n ≤ 2000000) (hk0 : 0 ≤ k) (hk1 : k ≤ 1000000000) (h : Rd edgeE w w.heap.size v (mkEdges n k)) :
    Calls Try.prog 65 #[planV p v, .int .i64 k] w fun e w' => e = .returned (.int .i64 (k + 2 * n)) ∧ Below w.heap.size w w' := by
  have hb0 := planBox_below 47 p v w
  have hr : ¬ (k + 2 * (n : Int)) < 0 := by omega
  unfold planV
  go_enter Try.func65, Try.ntmps65
  go_wp2_with fail
  refine (heldEdgeS_any v n k _ hl hk0 hk1 ((h.below hb0).more hb0.size)).mono ?_
  rintro e w1 ⟨rfl, b1⟩
  go_wp2_with fail
  go_ret
  exact ⟨rfl, bnext hb0 b1⟩
end Go.Proofs.Ytoccmpijfggmkaa
