/-
  Marks in lists of fences: a mark in a text, mark and held of the laws.
-/
import Derived.Test.YtoccmpijfggmkaaMk
import Derived.Test.YtoccmpijfggmkaaFy
import Derived.WalkSpells
import Derived.IntWalk
import Derived.Laws.IdiomStrings
namespace Go.Proofs.Ytoccmpijfggmkaa
open Go.RowKit
set_option maxRecDepth 100000
set_option maxHeartbeats 1000000

/-- the last figure of a number -/
def dig10 (n : Nat) : UInt8 := UInt8.ofNat (48 + n % 10)
theorem dig10_val (n : Nat) : ((dig10 n).toNat : Int) = 48 + (n : Int) % 10 := by
  unfold dig10
  have : (UInt8.ofNat (48 + n % 10)).toNat = 48 + n % 10 := by simp; omega
  rw [this]
  omega
/-- the figures of a number, ahead of a text -/
def mText : Nat → Nat → ByteArray → ByteArray
  | 0, _, t => t
  | f + 1, n, t => if n = 0 then t else mText f (n / 10) (⟨#[dig10 n]⟩ ++ t)
/-- the mark of a number in a text -/
def markT (k : Int) : ByteArray := ⟨#[109]⟩ ++ mText 20 k.toNat ⟨#[]⟩

theorem markText_any (k : Int) (w : World) (h0 : 0 < k) (h1 : k ≤ 2000000000) :
    Calls Try.prog 141 #[.int .i64 k] w fun e w' => e = .returned (.string (markT k)) ∧ Below w.heap.size w w' := by
  have hk : ¬ k ≤ 0 := by omega
  go_enter Try.func141, Try.ntmps141
  go_wp2
  go_loopw [0, 3] (fun q o wr => ∃ (n f : Nat) (t : ByteArray), f ≤ 20 ∧ 10 ≤ f ∧ Hid (t.size + f = 20 ∧ n < 10 ^ (f - 10)) ∧ q = .int .i64 n ∧ o = .string t ∧ Hid (mText f n t = mText 20 k.toNat ⟨#[]⟩) ∧ Below w.heap.size w wr) (fun q _ _ => (intOf q).toNat)
  case atStart => exact ⟨k.toNat, 20, ⟨#[]⟩, by omega, by omega, ⟨rfl, by show k.toNat < 10 ^ 10; omega⟩, by rw [Int.toNat_of_nonneg (by omega)], rfl, rfl, Below.refl _ _⟩
  case round =>
    obtain ⟨n, f, t, hf, hf', hs, rfl, rfl, hm, hb⟩ := hrel
    have hts : t.size ≤ 20 := by have := hs.out.1; omega
    have hn10 : n < 10 ^ 10 := Nat.lt_of_lt_of_le hs.out.2 (Nat.pow_le_pow_right (by omega) (by omega))
    have hn : n ≤ 10000000000 := by omega
    clear hn10
    by_cases hp : 0 < n
    · have hpI : (0 : Int) < (n : Int) := by omega
      have hconv := run_convert_bytes_back (P := Try.prog) (wr.alloc (.cells #[.int .u8 (48 + (n : Int) % 10)] 5)) 55 9 5 ⟨wr.heap.size, 0, none⟩ 1 [dig10 n] Try.underlying55 Try.underlying5 Try.underlying9 (fun j hj => by
        have hj0 : j = 0 := by simpa using hj
        subst hj0
        simp [go_sem, Addr.add, dig10_val])
      simp only [List.length_singleton] at hconv
      have hf1 : 11 ≤ f := by
        rcases Nat.lt_or_ge 10 f with h | h
        · omega
        · have h2 := hs.out.2
          rw [show f - 10 = 0 from by omega] at h2
          omega
      have hs2 := Lib.hid (show (⟨#[dig10 n]⟩ ++ t : ByteArray).size + (f - 1) = 20 ∧ n / 10 < 10 ^ (f - 1 - 10) by
        obtain ⟨a1, a2⟩ := hs.out
        constructor
        · rw [ByteArray.size_append]
          show 1 + t.size + (f - 1) = 20
          omega
        · apply Nat.div_lt_of_lt_mul
          rw [← Nat.pow_succ', show (f - 1 - 10).succ = f - 10 from by omega]
          exact a2)
      have hm2 := Lib.hid (show mText (f - 1) (n / 10) (⟨#[dig10 n]⟩ ++ t) = mText 20 k.toNat ⟨#[]⟩ by
        rw [← hm.out]
        conv => rhs; rw [show f = (f - 1) + 1 from by omega, mText]
        rw [if_neg (by omega)])
      have hdv : IntKind.i64.wrap ((n : Int).tdiv 10) = ((n / 10 : Nat) : Int) := by
        rw [Int.tdiv_eq_ediv_of_nonneg (by omega), IntWalk.i64_in _ (by omega)]
        omega
      go_wp2
      exact ⟨⟨n / 10, f - 1, _, by omega, by omega, hs2, rfl, rfl, hm2, hb.alloc hb.size _⟩, by simp [intOf]; omega⟩
    · have hpI : ¬ (0 : Int) < (n : Int) := by omega
      have H := Lib.hid (show t = mText 20 k.toNat ⟨#[]⟩ by
        rw [← hm.out, show n = 0 from by omega]
        cases f <;> simp [mText])
      go_wp2
      go_ret
      refine ⟨?_, hb⟩
      unfold markT
      rw [← H.out]
      rfl

def mkFence (k : Int) : Fence := ⟨k, k + 1, k + 1 + 1, markT (k + 1 + 1 + 1)⟩
/-- the marks from k on -/
def mkFences : Nat → Int → List Fence
  | 0, _ => []
  | n + 1, k => mkFence k :: mkFences n (k + 4)
theorem mkFences_length : ∀ (n : Nat) (k : Int), (mkFences n k).length = n
  | 0, _ => rfl
  | n + 1, k => by simp [mkFences, mkFences_length n]
theorem mkFences_get : ∀ (n : Nat) (k : Int) (j : Nat) (h : j < (mkFences n k).length), (mkFences n k)[j] = mkFence (k + 4 * j)
  | 0, _, _, h => absurd h (by simp [mkFences])
  | n + 1, k, 0, _ => by simp [mkFences]
  | n + 1, k, j + 1, h => by
    have := mkFences_get n (k + 4) j (by simpa [mkFences] using h)
    simp only [mkFences, List.getElem_cons_succ]
    have e : k + 4 + 4 * (j : Int) = k + 4 * ((j + 1 : Nat) : Int) := by push_cast; omega
    rw [this, e]
theorem mkFences_snoc : ∀ (n : Nat) (k : Int), mkFences (n + 1) k = mkFences n k ++ [mkFence (k + 4 * n)]
  | 0, k => by simp [mkFences]
  | n + 1, k => by
    have e : k + 4 + 4 * (n : Int) = k + 4 * ((n + 1 : Nat) : Int) := by push_cast; omega
    rw [mkFences, mkFences_snoc n (k + 4), e]
    simp only [mkFences, List.cons_append]
theorem mkFences_set (l : List Fence) (k : Int) (j : Nat) (h : j < l.length) : (mkFences j k ++ l.drop j).set j (mkFence (k + 4 * j)) = mkFences (j + 1) k ++ l.drop (j + 1) := by
  rw [List.set_append_right _ _ (by rw [mkFences_length]; exact Nat.le_refl _), mkFences_length, Nat.sub_self, mkFences_snoc, List.append_assoc, ← List.getElem_cons_drop h, List.set_cons_zero, List.singleton_append]

theorem markFenceS_any (v : Value) (l : List Fence) (k : Int) (base : Nat) (w : World) (hl : l.length ≤ 2000000) (hk0 : 0 < k) (hk1 : k ≤ 1000000000) (hbase : base ≤ w.heap.size) (ho : Ow fenceE 80 w base v l) :
    Calls Try.prog 87 #[v, .int .i64 k] w (MarkPost fenceE 80 base v (mkFences l.length k) (k + 4 * l.length) w) := by
  rcases ho.form with ⟨rfl, rfl⟩ | ⟨g, cap, rfl, hg0, hg1, _⟩
  · go_enter Try.func87, Try.ntmps87
    go_wp2
    go_loop [1, 5] (fun q i => q = .int .i64 k ∧ i = .int .i64 0) (fun _ _ => 0)
    case atStart => exact ⟨rfl, rfl⟩
    case round =>
      obtain ⟨rfl, rfl⟩ := hrel
      go_wp2
      go_ret
      exact ⟨ret_int (by simp), ho, World.grownBy.refl _ _, Below.refl _ _⟩
  · go_enter Try.func87, Try.ntmps87
    go_wp2
    go_loopw [1, 5] (fun q i wr => ∃ (j : Nat) (m : Int), j ≤ l.length ∧ i = .int .i64 j ∧ q = .int .i64 m ∧ Hid (m = k + 4 * j) ∧ Ow fenceE 80 wr base (.slice (some ⟨g, 0, none⟩) l.length cap) (mkFences j k ++ l.drop j) ∧ Hid (w.grownBy wr (some g)) ∧ Below base w wr) (fun _ i _ => l.length - (intOf i).toNat)
    case atStart => exact ⟨0, k, Nat.zero_le _, rfl, rfl, by show k = _; simp, ho, World.grownBy.refl _ _, Below.refl _ _⟩
    case round =>
      clear ho
      obtain ⟨j, m, hj, rfl, rfl, hm, ho, hgr, hb⟩ := hrel
      have hm' := hm.out
      have hm0 : 0 < m := by omega
      have hm1 : m ≤ 1008000000 := by omega
      clear hm'
      by_cases hlt : j < l.length
      · have hltI : (j : Int) < (l.length : Int) := by omega
        have hlen : (mkFences j k ++ l.drop j).length = l.length := by simp [mkFences_length]; omega
        have hf := ho.free
        obtain ⟨c0, c1, c2, c3⟩ := ho.fence (k := j) (by rw [hlen]; exact hlt)
        have hlg := ho.blk.2
        have s0 : wr.ownsRow base 80 4 (.slice (some ⟨g, 0, none⟩) l.length cap) l.length ((mkFences j k ++ l.drop j).flatMap fenceE.cells) := by
          have := ho
          unfold Ow at this
          rwa [hlen] at this
        have s1 := World.ownsRow.stored s0 (j * 4) (.int .i64 m)
        have s2 := World.ownsRow.stored s1.1 (j * 4 + 1) (.int .i64 (m + 1))
        have s3 := World.ownsRow.stored s2.1 (j * 4 + 2) (.int .i64 (m + 1 + 1))
        have S3 := Lib.hid (And.intro s3.1 ((s1.2.trans s2.2).trans s3.2))
        clear s0 s1 s2 s3
        go_wp2_with fail
        refine (markText_any (m + 1 + 1 + 1) _ (by omega) (by omega)).mono ?_
        rintro e w4 ⟨rfl, c4⟩
        have hs4 := c4.size
        simp only [World.size_setCell] at hs4
        have d3 : w4.cell? ⟨g, j * 4 + 3, none⟩ = some (.string (mkFences j k ++ l.drop j)[j].text) := by
          rw [c4.cell (p := ⟨g, j * 4 + 3, none⟩) (by simpa using hlg)]
          simp [go_sem, c3]
        have f3 : ∀ o, w4.frozen? ⟨g, o, none⟩ = false := fun o => by
          rw [c4.frozen (p := ⟨g, o, none⟩) (by simpa using hlg)]
          simp [go_sem, hf]
        have t3 := S3.out.1.kept (grown_of_below c4 none) (.inr (by simp [Value.ownBlock]))
        have s4 := World.ownsRow.stored t3 (j * 4 + 3) (.string (markT (m + 1 + 1 + 1)))
        have hgr2 := Lib.hid (((hgr.out.trans S3.out.2).trans (grown_of_below c4 (some g))).trans s4.2)
        have hb2 := Lib.hid (((hb.grown S3.out.2 (Nat.le_trans hbase hb.size) (fun g' hg' => by simp at hg'; omega)).trans (c4.mono (by simp; exact Nat.le_trans hbase hb.size))).grown s4.2 (by have := hb.size; omega) (fun g' hg' => by simp at hg'; omega))
        have Hp := Lib.hid (show Ow fenceE 80 _ base (.slice (some ⟨g, 0, none⟩) l.length cap) (mkFences (j + 1) k ++ l.drop (j + 1)) by
          have h1 := fenceE.flat_put (mkFence m) (mkFences j k ++ l.drop j) j (by rw [hlen]; exact hlt)
          rw [show mkFence m = mkFence (k + 4 * j) from by rw [hm.out], mkFences_set l k j hlt] at h1
          unfold Ow
          rw [← h1, show (mkFences (j + 1) k ++ l.drop (j + 1)).length = l.length from by simp [mkFences_length]; omega, ← hm.out]
          exact s4.1)
        clear S3 t3 s4 hgr hb c4
        go_wp2
        exact ⟨⟨j + 1, m + 4, by omega, by go_num, congrArg (Value.int .i64) (by omega), (by show m + 4 = _; rw [hm.out]; push_cast; omega), Hp.out, hgr2.out, hb2.out⟩, by simp [intOf]; omega⟩
      · have hj' : j = l.length := by omega
        subst hj'
        go_wp2
        go_ret
        refine ⟨ret_int hm.out, ?_, ?_, hb⟩
        · simpa using ho
        · simpa [Value.ownBlock] using hgr.out

theorem heldFenceS_any (v : Value) (n : Nat) (k : Int) (w : World) (hl : n ≤ 2000000) (hk0 : 0 < k) (hk1 : k ≤ 1000000000) (h : Rd fenceE w w.heap.size v (mkFences n k)) :
    Calls Try.prog 88 #[v, .int .i64 k] w fun e w' => e = .returned (.int .i64 (k + 4 * n)) ∧ Below w.heap.size w w' := by
  obtain ⟨A, c, rfl, -⟩ := id h
  have hcell : ∀ (B : Nat) (wr : World) (j : Nat), j < n → Rd fenceE wr B (.slice A (mkFences n k).length c) (mkFences n k) → ∃ b o, A = some ⟨b, o, none⟩ ∧ b < B ∧ wr.cell? ⟨b, o + j * 4, none⟩ = some (.int .i64 (k + 4 * j)) ∧ wr.cell? ⟨b, o + j * 4 + 1, none⟩ = some (.int .i64 (k + 4 * j + 1)) ∧ wr.cell? ⟨b, o + j * 4 + 2, none⟩ = some (.int .i64 (k + 4 * j + 1 + 1)) ∧ wr.cell? ⟨b, o + j * 4 + 3, none⟩ = some (.string (markT (k + 4 * j + 1 + 1 + 1))) := by
    intro B wr j hj hr
    have := hr.fence (k := j) (by rw [mkFences_length]; exact hj)
    rw [mkFences_get] at this
    exact this
  rw [mkFences_length] at hcell h ⊢
  have Hc := Lib.hid hcell
  clear hcell
  go_enter Try.func88, Try.ntmps88
  go_wp2
  go_loopw [1, 5] (fun q i wr => ∃ (j : Nat) (m : Int), j ≤ n ∧ i = .int .i64 j ∧ q = .int .i64 m ∧ Hid (m = k + 4 * j) ∧ Below w.heap.size w wr) (fun _ i _ => n - (intOf i).toNat)
  case atStart => exact ⟨0, k, Nat.zero_le _, rfl, rfl, by show k = _; simp, Below.refl _ _⟩
  case round =>
    obtain ⟨j, m, hj, rfl, rfl, hm, hb⟩ := hrel
    have hm' := hm.out
    have hm0 : 0 < m := by omega
    have hm1 : m ≤ 1008000000 := by omega
    clear hm'
    by_cases hlt : j < n
    · have hltI : (j : Int) < (n : Int) := by omega
      obtain ⟨b, o, rfl, hbb, c0, c1, c2, c3⟩ := Hc.out _ _ j hlt (h.below hb)
      rw [← hm.out] at c0 c1 c2 c3
      have hbw : b < wr.heap.size := Nat.lt_of_lt_of_le hbb hb.size
      have hlc := later_cell wr
      go_wp2
      refine wp_region_pure (by kernel_rfl) (by kernel_rfl) ?_
      repeat (go_big_quiet_step ((go_at_call 141; rename_i x; have h1 := markText_any (m + 1 + 1 + 1) x.1 (by omega) (by omega); exact pure_of h1)))
      refine wpQuiet_nil ?_
      rintro _ ⟨⟨w1, hb1⟩, rfl⟩
      clear hlc
      go_wp2
      exact ⟨⟨j + 1, m + 4, by omega, by go_num, congrArg (Value.int .i64) (by omega), (by show m + 4 = _; rw [hm.out]; push_cast; omega), bnext hb hb1⟩, by simp [intOf]; omega⟩
    · have hj' : j = n := by omega
      subst hj'
      go_wp2
      go_ret
      exact ⟨ret_int hm.out, hb⟩
end Go.Proofs.Ytoccmpijfggmkaa
