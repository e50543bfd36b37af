/-
  Draws: the cursor over the bytes of a draw, and what is drawn with it. A plan that is drawn. The program's 'waits': what can be reached, as sets of bits. Walks of the helpers of the laws on values of the type Fence: to, eq, and the slices' own. Written by program (flat.py). within, l01In, l16Num. Fences: the small functions' contracts; FenceAt and FencesOk of the reference and of the program. PlanFault of the program. PlanFault of the program: the loops. What a task waits for, what waits for it: the plain lists; l06Before and l06Behind of the reference. The order in which tasks come: plain fac
-/
import Derived.Test.YtnaicippgocdfaaZW0
import Derived.IntWalk
import Derived.Shelf.Sort.Plain
import Derived.Shelf.Slices.In.SortNone
import Derived.Test.YtnaicippgocdfaaProg
section
namespace Go.Proofs.Ytnaicippgocdfaa
open Go.RowKit
set_option maxRecDepth 100000
set_option maxHeartbeats 1000000
set_option linter.unusedVariables false

/-- a byte in a cell -/
def byteE : Enc UInt8 := { cells := fun x => [.int .u8 (x.toNat : Int)], sz := 1, len := fun _ => rfl, one := fun _ u hu => by simp at hu; subst hu; rfl }
/-- the cursor of a draw -/
structure Cur where
  i : Nat
  h : Int
abbrev curCells (v : Value) (c : Cur) : List Value := [v, .int .i64 (c.i : Int), .int .i64 c.h]
/-- block b is the cursor c over the bytes code -/
structure Drw (b : Nat) (v : Value) (code : List UInt8) (c : Cur) (w : World) : Prop where
  box : DBox b (curCells v c) w
  rd : Rd byteE w b v code
  small : code.length ≤ 1048576
  le : c.i ≤ code.length
/-- what a draw leaves -/
def DrP (b : Nat) (v : Value) (code : List UInt8) (r : Value) (c' : Cur) (w : World) (e : Ending) (w' : World) : Prop := e = .returned r ∧ Drw b v code c' w' ∧ Chg [b] w w'

theorem Rd.byte {w : World} {B : Nat} {A : Option Addr} {n c : Nat} {l : List UInt8} (h : Rd byteE w B (.slice A n c) l) {k : Nat} (hk : k < l.length) :
    ∃ b o, A = some ⟨b, o, none⟩ ∧ b < B ∧ w.cell? ⟨b, o + k, none⟩ = some (.int .u8 (l[k].toNat : Int)) := by
  obtain ⟨A', c', hv, _, hA⟩ := h
  obtain ⟨b, o, hA', hb, hc⟩ := hA (by omega)
  simp only [Value.slice.injEq] at hv
  obtain ⟨rfl, _, _⟩ := hv
  exact ⟨b, o, hA', hb, by simpa [byteE] using hc k hk 0 _ rfl⟩
theorem and_255 (a : Int) : 0 ≤ bits .and .i64 a 255 ∧ bits .and .i64 a 255 ≤ 255 := by
  show 0 ≤ IntKind.i64.wrap ((BitVec.ofInt 64 a &&& BitVec.ofInt 64 255).toNat : Int) ∧ IntKind.i64.wrap ((BitVec.ofInt 64 a &&& BitVec.ofInt 64 255).toNat : Int) ≤ 255
  have h : (BitVec.ofInt 64 a &&& BitVec.ofInt 64 255).toNat ≤ 255 := by
    rw [BitVec.toNat_and]
    exact Nat.and_le_right
  rw [IntKind.wrap_i64]
  omega
def mixH (h : Int) : Int := wrap64 (wrap64 (h * 6364136223846793005) + 1442695040888963407)
def xorH (h : Int) : Int := bits .and .i64 (bits .xor .i64 (h / 8589934592) (h / 35184372088832)) 255
def curByte (code : List UInt8) (c : Cur) : Int × Cur :=
  if h : c.i < code.length then (bits .and .i64 (xorH (mixH c.h) + (code[c.i].toNat : Int)) 255, ⟨c.i + 1, mixH c.h⟩) else (xorH (mixH c.h), ⟨c.i, mixH c.h⟩)
theorem curByte_bd (code : List UInt8) (c : Cur) : 0 ≤ (curByte code c).1 ∧ (curByte code c).1 ≤ 255 := by
  unfold curByte
  split
  · exact and_255 _
  · exact and_255 _
theorem Drw.chg {b : Nat} {v : Value} {code : List UInt8} {c : Cur} {w w' : World} {F : List Nat} (h : Drw b v code c w) (hc : Chg F w w') (hF : ∀ x ∈ F, b < x) : Drw b v code c w' :=
  ⟨h.box.chg hc (fun hm => by have := hF _ hm; omega), h.rd.keep (fun p hp => hc.cell (Nat.lt_trans hp h.box.lt) (fun hm => by have := hF _ hm; omega)), h.small, h.le⟩
theorem Drw.below {b : Nat} {v : Value} {code : List UInt8} {c : Cur} {w w' : World} (h : Drw b v code c w) (hb : Below w.heap.size w w') : Drw b v code c w' :=
  h.chg (Chg.of_below [] hb) (fun x hx => by cases hx)
theorem Drw.step {b : Nat} {v : Value} {code : List UInt8} {c c' : Cur} {w w' : World} (h : Drw b v code c w) (hb : DBox b (curCells v c') w') (hc : Chg [b] w w') (hl : c'.i ≤ code.length) : Drw b v code c' w' :=
  ⟨hb, h.rd.keep (fun p hp => hc.cell (Nat.lt_trans hp h.box.lt) (fun hm => by have : p.block = b := by simpa using hm
                                                                               omega)), h.small, hl⟩

theorem DBox.drewN {b : Nat} {cs : List Value} {w : World} (h : DBox b cs w) (n : Nat) : DBox b cs (w.drewN n) := ⟨h.cell, h.free, h.lt⟩
theorem Chg.drewN {F : List Nat} {a w : World} (h : Chg F a w) (n : Nat) : Chg F a (w.drewN n) := ⟨h.os, h.tape, h.output, h.size, h.block⟩
theorem DBox.put1 {b : Nat} {x i y u : Value} {w : World} (h : DBox b [x, i, y] w) : DBox b [x, u, y] (w.setCell ⟨b, 1, none⟩ u) := h.put 1 (by simp) u
theorem DBox.put2 {b : Nat} {x i y u : Value} {w : World} (h : DBox b [x, i, y] w) : DBox b [x, i, u] (w.setCell ⟨b, 2, none⟩ u) := h.put 2 (by simp) u
theorem Chg.setOwn {b o : Nat} {a w : World} {u : Value} (h : Chg [b] a w) : Chg [b] a (w.setCell ⟨b, o, none⟩ u) := h.trans (Chg.setCell w b o u)
theorem ret_val {a b : Value} (h : a = b) : Ending.returned a = .returned b := by rw [h]

theorem byte_any (b : Nat) (v : Value) (code : List UInt8) (c : Cur) (w : World) (h : Drw b v code c w) :
    Calls Try.prog 70 #[.pointer (some ⟨b, 0, none⟩)] w (DrP b v code (.int .i64 (curByte code c).1) (curByte code c).2 w) := by
  obtain ⟨A, cap, rfl, -⟩ := id h.rd
  have c0 := h.box.cell 0 _ rfl
  have c1 := h.box.cell 1 _ rfl
  have c2 := h.box.cell 2 _ rfl
  have cf := h.box.free
  have cl := h.box.lt
  have hs := h.small
  by_cases hlt : c.i < code.length
  · obtain ⟨g, o, rfl, hg, d0⟩ := h.rd.byte hlt
    have i1 : (c.i : Int) < (code.length : Int) := by omega
    have i0 : (0 : Int) ≤ (c.i : Int) := by omega
    have hne : ¬ g = b := by omega
    have hx := and_255 (bits .xor .i64 (wrap64 (wrap64 (c.h * 6364136223846793005) + 1442695040888963407) / 8589934592) (wrap64 (wrap64 (c.h * 6364136223846793005) + 1442695040888963407) / 35184372088832))
    have hy : (code[c.i].toNat : Int) ≤ 255 := by have := code[c.i].toNat_lt; omega
    go_enter Try.func70, Try.ntmps70
    go_wp2
    go_quiet (fail)
    go_wp2
    go_quiet (fail)
    go_wp2
    go_quiet (fail)
    go_wp2
    go_ret
    have e1 : curByte code c = (bits .and .i64 (xorH (mixH c.h) + (code[c.i].toNat : Int)) 255, ⟨c.i + 1, mixH c.h⟩) := by unfold curByte; rw [dif_pos hlt]
    rw [e1]
    refine ⟨rfl, h.step ?_ ?_ (by simp only; omega), ?_⟩
    · have e2 : curCells (Value.slice (some ⟨g, o, none⟩) code.length cap) ⟨c.i + 1, mixH c.h⟩ = [Value.slice (some ⟨g, o, none⟩) code.length cap, .int .i64 ((c.i : Int) + 1), .int .i64 (mixH c.h)] := by simp [curCells]
      show DBox b (curCells (Value.slice (some ⟨g, o, none⟩) code.length cap) ⟨c.i + 1, mixH c.h⟩) _
      rw [e2]
      repeat (first | exact h.box | refine DBox.drewN ?_ _ | apply DBox.put1 | apply DBox.put2)
    all_goals repeat (first | exact Chg.refl _ _ | refine Chg.drewN ?_ _ | refine Chg.setOwn ?_)
  · have hle := h.le
    have hq : decide ((c.i : Int) < (code.length : Int)) = false := by simp; omega
    go_enter Try.func70, Try.ntmps70
    go_wp2
    go_quiet (fail)
    go_wp2
    go_quiet (fail)
    go_wp2
    go_ret
    have e1 : curByte code c = (xorH (mixH c.h), ⟨c.i, mixH c.h⟩) := by unfold curByte; rw [dif_neg hlt]
    rw [e1]
    refine ⟨rfl, h.step ?_ ?_ hle, ?_⟩
    · show DBox b [_, .int .i64 (c.i : Int), .int .i64 (mixH c.h)] _
      repeat (first | exact h.box | refine DBox.drewN ?_ _ | apply DBox.put1 | apply DBox.put2)
    all_goals repeat (first | exact Chg.refl _ _ | refine Chg.drewN ?_ _ | refine Chg.setOwn ?_)

/-! the cursor at its start -/
theorem and_m30 (a : Int) : 0 ≤ bits .and .i64 a 1073741823 ∧ bits .and .i64 a 1073741823 ≤ 1073741823 := by
  show 0 ≤ IntKind.i64.wrap ((BitVec.ofInt 64 a &&& BitVec.ofInt 64 1073741823).toNat : Int) ∧ IntKind.i64.wrap ((BitVec.ofInt 64 a &&& BitVec.ofInt 64 1073741823).toNat : Int) ≤ 1073741823
  have h : (BitVec.ofInt 64 a &&& BitVec.ofInt 64 1073741823).toNat ≤ 1073741823 := by
    rw [BitVec.toNat_and]
    exact Nat.and_le_right
  rw [IntKind.wrap_i64]
  omega
def newH (code : List UInt8) : Nat → Int
  | 0 => 94701 + code.length
  | k + 1 => bits .and .i64 (newH code k * 131 + ((code.getD k 0).toNat : Int) + 7) 1073741823
theorem newH_bd (code : List UInt8) (hs : code.length ≤ 1048576) : ∀ k, 0 ≤ newH code k ∧ newH code k ≤ 1073741823
  | 0 => by unfold newH; omega
  | k + 1 => and_m30 _
theorem newH_succ (code : List UInt8) {k : Nat} (h : k < code.length) : newH code (k + 1) = bits .and .i64 (newH code k * 131 + (code[k].toNat : Int) + 7) 1073741823 := by
  rw [newH, List.getD_eq_getElem?_getD, List.getElem?_eq_getElem h]
  rfl
def curNew (code : List UInt8) : Cur := ⟨0, newH code (min code.length 4000)⟩
def NewP (v : Value) (code : List UInt8) (w : World) (e : Ending) (w' : World) : Prop := ∃ g, e = .returned (.pointer (some ⟨g, 0, none⟩)) ∧ g = w.heap.size ∧ Drw g v code (curNew code) w' ∧ Below w.heap.size w w'
theorem new_any (v : Value) (code : List UInt8) (w : World) (hs : code.length ≤ 1048576) (h : Rd byteE w w.heap.size v code) :
    Calls Try.prog 45 #[v] w (NewP v code w) := by
  obtain ⟨A, cap, rfl, -⟩ := id h
  go_enter Try.func45, Try.ntmps45
  go_wp2
  go_loop [3, 4] (fun x i => ∃ k : Nat, k ≤ min code.length 4000 ∧ i = .int .i64 k ∧ x = .int .i64 (newH code k)) (fun _ i => code.length - (intOf i).toNat)
  case atStart => exact ⟨0, Nat.zero_le _, rfl, rfl⟩
  case round =>
    obtain ⟨k, hk, rfl, rfl⟩ := hrel
    have hx := newH_bd code hs k
    by_cases hlt : k < min code.length 4000
    · have hl : k < code.length := by omega
      obtain ⟨g, o, rfl, hg, d0⟩ := h.byte hl
      have i1 : (k : Int) < (code.length : Int) := by omega
      have i2 : (k : Int) < 4000 := by omega
      have hy : (code[k].toNat : Int) ≤ 255 := by have := code[k].toNat_lt; omega
      have H := Lib.hid (newH_succ code hl)
      go_wp2
      go_round
      case rel => exact ⟨k + 1, by omega, by go_num, by rw [H.out]⟩
      case measure => simp [intOf]; omega
    · have hke := Lib.hid (show k = min code.length 4000 by omega)
      by_cases h4 : k < 4000
      · have i1 : ¬ (k : Int) < (code.length : Int) := by omega
        go_wp2
        go_ret
        refine ⟨w.heap.size, rfl, rfl, ⟨?_, ?_, hs, Nat.zero_le _⟩, (Below.refl _ _).alloc (Nat.le_refl _) _⟩
        · have e : curNew code = ⟨0, newH code k⟩ := by unfold curNew; rw [← hke.out]
          rw [e]
          exact DBox.new _ _ _ rfl
        · exact h.keep (fun p hp => ((Below.refl w.heap.size w).alloc (Nat.le_refl _) _).cell hp)
      · have hk4 : k = 4000 := by omega
        clear hlt h4
        subst hk4
        have hx0 := newH_bd code hs 4000
        clear hx
        by_cases h5 : 4000 < code.length
        · have i2 : (4000 : Int) < (code.length : Int) := by omega
          go_wp2
          go_ret
          refine ⟨w.heap.size, rfl, rfl, ⟨?_, ?_, hs, Nat.zero_le _⟩, (Below.refl _ _).alloc (Nat.le_refl _) _⟩
          · have e : curNew code = ⟨0, newH code 4000⟩ := by unfold curNew; rw [← hke.out]
            rw [e]
            exact DBox.new _ _ _ rfl
          · exact h.keep (fun p hp => ((Below.refl w.heap.size w).alloc (Nat.le_refl _) _).cell hp)
        · have i2 : ¬ (4000 : Int) < (code.length : Int) := by omega
          go_wp2
          go_ret
          refine ⟨w.heap.size, rfl, rfl, ⟨?_, ?_, hs, Nat.zero_le _⟩, (Below.refl _ _).alloc (Nat.le_refl _) _⟩
          · have e : curNew code = ⟨0, newH code 4000⟩ := by unfold curNew; rw [← hke.out]
            rw [e]
            exact DBox.new _ _ _ rfl
          · exact h.keep (fun p hp => ((Below.refl w.heap.size w).alloc (Nat.le_refl _) _).cell hp)

/-! a number below another one -/
def curBelow (code : List UInt8) (n : Int) (c : Cur) : Int × Cur :=
  if n ≤ 0 then (0, c) else if n ≤ 256 then ((curByte code c).1 % n, (curByte code c).2) else
    let a := curByte code c
    let b := curByte code a.2
    let d := curByte code b.2
    let e := curByte code d.2
    ((a.1 * 16777216 + b.1 * 65536 + d.1 * 256 + e.1) % n, e.2)
theorem curBelow_bd (code : List UInt8) {n : Int} (c : Cur) (h : 0 < n) : 0 ≤ (curBelow code n c).1 ∧ (curBelow code n c).1 < n := by
  unfold curBelow
  rw [if_neg (by omega)]
  split
  · exact ⟨Int.emod_nonneg _ (by omega), Int.emod_lt_of_pos _ h⟩
  · exact ⟨Int.emod_nonneg _ (by omega), Int.emod_lt_of_pos _ h⟩
theorem DrP.next {b : Nat} {v : Value} {code : List UInt8} {r : Value} {c' : Cur} {w w1 : World} {e : Ending} {w' : World} (hc : Chg [b] w w1) (h : DrP b v code r c' w1 e w') : DrP b v code r c' w e w' := ⟨h.1, h.2.1, hc.trans h.2.2⟩
theorem below_any (n : Int) (b : Nat) (v : Value) (code : List UInt8) (c : Cur) (w : World) (hn : n ≤ 1000000000000) (h : Drw b v code c w) :
    Calls Try.prog 48 #[.pointer (some ⟨b, 0, none⟩), .int .i64 n] w (DrP b v code (.int .i64 (curBelow code n c).1) (curBelow code n c).2 w) := by
  by_cases h0 : n ≤ 0
  · have e : curBelow code n c = (0, c) := by unfold curBelow; rw [if_pos h0]
    have E := Lib.hid e
    clear e
    go_enter Try.func48, Try.ntmps48
    go_wp2
    go_ret
    rw [E.out]
    exact ⟨rfl, h, Chg.refl _ _⟩
  by_cases h1 : n ≤ 256
  · have e : curBelow code n c = ((curByte code c).1 % n, (curByte code c).2) := by unfold curBelow; rw [if_neg h0, if_pos h1]
    have E := Lib.hid e
    clear e
    have hb := curByte_bd code c
    go_enter Try.func48, Try.ntmps48
    go_wp2_with fail
    refine (byte_any b v code c _ h).mono ?_
    rintro e w1 ⟨rfl, h1, c1⟩
    go_wp2
    go_ret
    rw [E.out]
    exact ⟨rfl, h1, c1⟩
  · have e : curBelow code n c = (((curByte code c).1 * 16777216 + (curByte code (curByte code c).2).1 * 65536 + (curByte code (curByte code (curByte code c).2).2).1 * 256 + (curByte code (curByte code (curByte code (curByte code c).2).2).2).1) % n, (curByte code (curByte code (curByte code (curByte code c).2).2).2).2) := by
      unfold curBelow; rw [if_neg h0, if_neg h1]
    have E := Lib.hid e
    clear e
    have b1 := curByte_bd code c
    have b2 := curByte_bd code (curByte code c).2
    have b3 := curByte_bd code (curByte code (curByte code c).2).2
    have b4 := curByte_bd code (curByte code (curByte code (curByte code c).2).2).2
    go_enter Try.func48, Try.ntmps48
    go_wp2_with fail
    refine (byte_any b v code c _ h).mono ?_
    rintro e w1 ⟨rfl, k1, c1⟩
    go_wp2_with fail
    refine (byte_any b v code _ _ k1).mono ?_
    rintro e w2 ⟨rfl, k2, c2⟩
    go_wp2_with fail
    refine (byte_any b v code _ _ k2).mono ?_
    rintro e w3 ⟨rfl, k3, c3⟩
    go_wp2_with fail
    refine (byte_any b v code _ _ k3).mono ?_
    rintro e w4 ⟨rfl, k4, c4⟩
    go_wp2
    go_ret
    rw [E.out]
    exact ⟨rfl, k4, ((c1.trans c2).trans c3).trans c4⟩
/-- one time out of n -/
def curOnce (code : List UInt8) (n : Int) (c : Cur) : Bool × Cur := ((curBelow code n c).1 == 0, (curBelow code n c).2)
theorem once_any (n : Int) (b : Nat) (v : Value) (code : List UInt8) (c : Cur) (w : World) (hn : n ≤ 1000000000000) (h : Drw b v code c w) :
    Calls Try.prog 69 #[.pointer (some ⟨b, 0, none⟩), .int .i64 n] w (DrP b v code (.bool (curOnce code n c).1) (curOnce code n c).2 w) := by
  go_enter Try.func69, Try.ntmps69
  go_wp2_with fail
  refine (below_any n b v code c _ hn h).mono ?_
  rintro e w1 ⟨rfl, h1, c1⟩
  go_wp2
  go_ret
  exact ⟨rfl, h1, c1⟩
end Go.Proofs.Ytnaicippgocdfaa
end
section
namespace Go.Proofs.Ytnaicippgocdfaa
open Go.RowKit
set_option maxRecDepth 100000
set_option maxHeartbeats 2000000
set_option linter.unusedVariables false

theorem Chg.alloc {F : List Nat} {a w : World} (h : Chg F a w) (o : Obj) : Chg F a (w.alloc o) := h.trans (Chg.of_below F ((Below.refl _ _).alloc (Nat.le_refl _) o))
theorem Chg.setNew {F : List Nat} {a w : World} (h : Chg F a w) {p : Addr} (hp : a.heap.size ≤ p.block) {u : Value} : Chg F a (w.setCell p u) :=
  ⟨h.os, h.tape, h.output, by have := h.size; simpa [World.setCell] using this, fun i hi hn => (Below.heap_setCell w p u i (by omega)).trans (h.block i hi hn)⟩
theorem Chg.grownNew {F : List Nat} {a w w' : World} {row : Option Nat} (h : Chg F a w) (hg : w.grownBy w' row) (hr : ∀ g, row = some g → a.heap.size ≤ g) : Chg F a w' :=
  ⟨hg.os.trans h.os, hg.tape.trans h.tape, hg.output.trans h.output, Nat.le_trans h.size hg.size, fun i hi hn => (hg.block i (Nat.lt_of_lt_of_le hi h.size) (fun e => by have := hr i e.symm; omega)).trans (h.block i hi hn)⟩
theorem Chg.belowNew {F : List Nat} {a w w' : World} (h : Chg F a w) (hb : Below w.heap.size w w') : Chg F a w' := h.trans (Chg.of_below F hb)
theorem Chg.toGrown {b : Nat} {w w' : World} (h : Chg [b] w w') : w.grownBy w' (some b) :=
  ⟨h.os, h.tape, h.output, h.size, fun k hk hn => h.block k hk (fun hm => hn (by simp only [List.mem_singleton] at hm; rw [hm]))⟩
theorem Drw.setNew {b : Nat} {v : Value} {code : List UInt8} {c : Cur} {w : World} (h : Drw b v code c w) {p : Addr} (hp : b < p.block) (u : Value) : Drw b v code c (w.setCell p u) := by
  refine h.chg (F := [p.block]) (w' := w.setCell p u) ⟨rfl, rfl, rfl, by simp [World.setCell], fun i _ hn => Below.heap_setCell w p u i (by simpa using hn)⟩ (fun x hx => by simp only [List.mem_singleton] at hx; omega)
theorem Drw.grownNew {b : Nat} {v : Value} {code : List UInt8} {c : Cur} {w w' : World} {row : Option Nat} (h : Drw b v code c w) (hg : w.grownBy w' row) (hr : ∀ g, row = some g → b < g) : Drw b v code c w' :=
  h.chg (F := row.toList) (Chg.grown hg (fun g e => by simp [e])) (fun x hx => hr x (by simpa using hx))
theorem Drw.alloc {b : Nat} {v : Value} {code : List UInt8} {c : Cur} {w : World} (h : Drw b v code c w) (o : Obj) : Drw b v code c (w.alloc o) := h.below ((Below.refl _ _).alloc (Nat.le_refl _) o)
theorem Drw.drewN {b : Nat} {v : Value} {code : List UInt8} {c : Cur} {w : World} (h : Drw b v code c w) (n : Nat) : Drw b v code c (w.drewN n) := ⟨h.box.drewN n, h.rd, h.small, h.le⟩
theorem BoxAt.chg {F : List Nat} {b : Nat} {p : Plan} {v : Value} {w w' : World} (h : BoxAt b p v w) (hc : Chg F w w') (hn : b ∉ F) : BoxAt b p v w' :=
  h.keep hc.size (fun j => hc.cell (p := ⟨b, j, none⟩) h.lt hn) (fun j => hc.frozen (p := ⟨b, j, none⟩) h.lt hn)
theorem BoxAt.drewN {b : Nat} {p : Plan} {v : Value} {w : World} (h : BoxAt b p v w) (n : Nat) : BoxAt b p v (w.drewN n) := ⟨h.cells, h.free⟩
theorem EdgeAt.chg {F : List Nat} {b : Nat} {e : Edge} {w w' : World} (h : EdgeAt b e w) (hc : Chg F w w') (hn : b ∉ F) : EdgeAt b e w' := by
  obtain ⟨h0, h1, h2⟩ := h.cells
  exact ⟨(hc.cell (p := ⟨b, 0, none⟩) h2 hn).trans h0, (hc.cell (p := ⟨b, 1, none⟩) h2 hn).trans h1, Nat.lt_of_lt_of_le h2 hc.size⟩
theorem Ow.chg {α : Type} {e : Enc α} {E : TypeId} {w w' : World} {base b : Nat} {v : Value} {l : List α} (h : Ow e E w base v l) (hc : Chg [b] w w') (hb : b < base) : Ow e E w' base v l :=
  h.grown hc.toGrown (.inr (fun e' => by have := h.within b e'; omega))

theorem Ow.setLow {α : Type} {e : Enc α} {E : TypeId} {w : World} {base : Nat} {v : Value} {l : List α} (h : Ow e E w base v l) {a : Addr} (ha : a.block < base) (u : Value) : Ow e E (w.setCell a u) base v l :=
  h.setOther (fun e' => by have := h.within _ e'; omega) u

def newTo (code : List UInt8) (T : Int) (c : Cur) : Int := 1 + (curBelow code (T - 1) (curBelow code 9 c).2).1
def newE (code : List UInt8) (T : Int) (c : Cur) : Edge := ⟨(curBelow code (newTo code T c) (curBelow code (T - 1) (curBelow code 9 c).2).2).1, newTo code T c⟩
def newC (code : List UInt8) (T : Int) (c : Cur) : Cur := (curBelow code (newTo code T c) (curBelow code (T - 1) (curBelow code 9 c).2).2).2
def addE (es : List Edge) (e : Edge) : List Edge := if e ∈ es then es else es ++ [e]
/-- the edges that are drawn, i of them gone by -/
def planGo (code : List UInt8) (T : Int) : Nat → Nat → List Edge → Cur → List Edge × Cur
  | 0, _, es, c => (es, c)
  | f + 1, i, es, c => if (i : Int) < (curBelow code 9 c).1 ∧ 1 < T then planGo code T f (i + 1) (addE es (newE code T c)) (newC code T c) else (es, (curBelow code 9 c).2)
def planT (once : Bool) (t : Int) : Int := if once = true then 12 else 1 + t
def curPlan (code : List UInt8) (c : Cur) : Plan × Cur :=
  let a := curBelow code 4 c
  let b := curBelow code 3 a.2
  let d := curBelow code 4 b.2
  let t := curBelow code 6 d.2
  let o := curOnce code 10 t.2
  let g := planGo code (planT o.1 t.1) 10 0 [] o.2
  (⟨a.1, 1 + b.1, 1 + d.1, planT o.1 t.1, g.1⟩, g.2)
def PlanP (b : Nat) (v : Value) (code : List UInt8) (r : Plan × Cur) (w : World) (e : Ending) (w' : World) : Prop :=
  ∃ u, e = .returned (planV r.1 u) ∧ Ow edgeE 52 w' w.heap.size u r.1.edges ∧ Drw b v code r.2 w' ∧ Chg [b] w w'

theorem drawPlan_any (b : Nat) (v : Value) (code : List UInt8) (c : Cur) (w : World) (h : Drw b v code c w) :
    Calls Try.prog 46 #[.pointer (some ⟨b, 0, none⟩)] w (PlanP b v code (curPlan code c) w) := by
  have hb := h.box.lt
  go_enter Try.func46, Try.ntmps46
  go_wp2_with fail
  have C0 := (Chg.refl [b] w).alloc (.cells #[.int .i64 0, .int .i64 0, .int .i64 0, .int .i64 0, .slice none 0 0] 26)
  have h := h.alloc (.cells #[.int .i64 0, .int .i64 0, .int .i64 0, .int .i64 0, .slice none 0 0] 26)
  have R0 := BoxAt.new' 26 ⟨0, 0, 0, 0, []⟩ (.slice none 0 0) w rfl
  have hbz : b < w.heap.size := hb
  refine (below_any 4 b v code c _ (by omega) h).mono ?_
  rintro e w1 ⟨rfl, k1, c1⟩
  have B1 := curBelow_bd code (n := 4) c (by omega)
  generalize hr1 : curBelow code 4 c = r1 at *
  have H1 := Lib.hid hr1
  clear hr1
  have R1 := R0.chg c1 (by simp; omega)
  go_wp2_with fail
  refine (below_any 3 b v code _ _ (by omega) k1).mono ?_
  rintro e w2 ⟨rfl, k2, c2⟩
  have B2 := curBelow_bd code (n := 3) r1.2 (by omega)
  generalize hr2 : curBelow code 3 r1.2 = r2 at *
  have H2 := Lib.hid hr2
  clear hr2
  have R2 := R1.chg c2 (by simp; omega)
  go_wp2_with fail
  refine (below_any 4 b v code _ _ (by omega) k2).mono ?_
  rintro e w3 ⟨rfl, k3, c3⟩
  have B3 := curBelow_bd code (n := 4) r2.2 (by omega)
  generalize hr3 : curBelow code 4 r2.2 = r3 at *
  have H3 := Lib.hid hr3
  clear hr3
  have R3 := R2.chg c3 (by simp; omega)
  go_wp2_with fail
  refine (below_any 6 b v code _ _ (by omega) k3).mono ?_
  rintro e w4 ⟨rfl, k4, c4⟩
  have B4 := curBelow_bd code (n := 6) r3.2 (by omega)
  generalize hr4 : curBelow code 6 r3.2 = r4 at *
  have H4 := Lib.hid hr4
  clear hr4
  have R4 := R3.chg c4 (by simp; omega)
  have C4 := (((C0.trans c1).trans c2).trans c3).trans c4
  have S4 := C4.size
  clear C0 c1 c2 c3 c4 R0 R1 R2 R3 h k1 k2 k3
  go_wp2_with fail
  have P5 := BoxAt.new' 26 ⟨r1.1, 1 + r2.1, 1 + r3.1, 1 + r4.1, []⟩ (.slice none 0 0) w4 rfl
  have R5 := R4.below ((Below.refl _ _).alloc (Nat.le_refl _) (.cells #[.int .i64 r1.1, .int .i64 (1 + r2.1), .int .i64 (1 + r3.1), .int .i64 (1 + r4.1), .slice none 0 0] 26))
  have C5 := C4.alloc (.cells #[.int .i64 r1.1, .int .i64 (1 + r2.1), .int .i64 (1 + r3.1), .int .i64 (1 + r4.1), .slice none 0 0] 26)
  have k5 := k4.alloc (.cells #[.int .i64 r1.1, .int .i64 (1 + r2.1), .int .i64 (1 + r3.1), .int .i64 (1 + r4.1), .slice none 0 0] 26)
  have R4s := R4.lt
  obtain ⟨pb, hpb⟩ : ∃ pb, pb = w4.heap.size := ⟨_, rfl⟩
  rw [← hpb] at P5 R4s ⊢
  generalize (w4.alloc (.cells #[.int .i64 r1.1, .int .i64 (1 + r2.1), .int .i64 (1 + r3.1), .int .i64 (1 + r4.1), .slice none 0 0] 26)) = w5 at *
  clear R4 C4 k4 S4 hpb
  refine (once_any 10 b v code _ _ (by omega) k5).mono ?_
  rintro e w6 ⟨rfl, k6, c6⟩
  generalize hr5 : curOnce code 10 r4.2 = r5 at *
  have H5 := Lib.hid hr5
  clear hr5
  have P6 := P5.chg c6 (by simp; omega)
  have R6 := R5.chg c6 (by simp; omega)
  have C6 := C5.trans c6
  clear c6 P5 R5 C5 k5
  obtain ⟨T, hT, hT1, hT2⟩ : ∃ T : Int, Hid (planT r5.1 r4.1 = T) ∧ 1 ≤ T ∧ T ≤ 12 := ⟨_, Lib.hid rfl, by unfold planT; split <;> omega, by unfold planT; split <;> omega⟩
  have HE : Hid (∀ g, planGo code T 10 0 [] r5.2 = g → curPlan code c = (⟨r1.1, 1 + r2.1, 1 + r3.1, T, g.1⟩, g.2)) := by
    intro g hg
    unfold curPlan
    simp only [H1.out, H2.out, H3.out, H4.out, H5.out, hT.out, hg]
  have P6c := P6.cells
  have P6f := P6.free
  obtain ⟨i0, hi0, hz0, hz1, hz2⟩ := info_parts edge_info
  cases ho : r5.1
  case' false =>
    rw [ho] at hT
    have hT' : 1 + r4.1 = T := hT.out
    rw [hT'] at P6
    clear hT hT' P6c
    have C7 := C6
    have P7 := P6
    have k7 := k6
    have R7 := R6
    have P7c := P7.cells
    go_wp2_with fail
  case' true =>
    rw [ho] at hT
    have hT' : (12 : Int) = T := hT.out
    have C7 := C6.setNew (p := ⟨pb, 3, none⟩) (u := .int .i64 T) (by simp; omega)
    have P7 : BoxAt pb ⟨r1.1, 1 + r2.1, 1 + r3.1, T, []⟩ (.slice none 0 0) (w6.setCell ⟨pb, 3, none⟩ (.int .i64 T)) := P6.setTasks T
    have k7 := k6.setNew (p := ⟨pb, 3, none⟩) (by simp; omega) (.int .i64 T)
    have R7 := R6.other (a := ⟨pb, 3, none⟩) (by simp; omega) (.int .i64 T)
    go_wp2_with fail
    clear hT hT' P6c
    generalize (w6.setCell ⟨pb, 3, none⟩ (.int .i64 T)) = w7 at *
  all_goals
    clear P6 k6 R6 C6 P6f
    try clear P7c
    try clear H1 H2 H3 H4 H5
    go_loopw [4] (fun i wr => ∃ (k : Nat) (es : List Edge) (u : Value) (c' : Cur), k ≤ 9 ∧ i = .int .i64 k ∧ es.length ≤ k ∧ Drw b v code c' wr ∧ BoxAt pb ⟨r1.1, 1 + r2.1, 1 + r3.1, T, es⟩ u wr ∧ Ow edgeE 52 wr (pb + 1) u es ∧ Chg [b] w wr ∧ BoxAt w.heap.size ⟨0, 0, 0, 0, []⟩ (.slice none 0 0) wr ∧ Hid (planGo code T (10 - k) k es c' = planGo code T 10 0 [] r5.2)) (fun i _ => 9 - (intOf i).toNat)
    case atStart => exact ⟨0, [], _, _, by omega, rfl, by simp, k7, P7, Ow.nil _ _ _ _, C7, R7, rfl⟩
    case round =>
      clear C7 P7 k7 R7
      obtain ⟨k, es, u, c', hk, rfl, hes, K, P, O, C, R, G⟩ := hrel
      go_wp2_with fail
      refine (below_any 9 b v code _ _ (by omega) K).mono ?_
      rintro e wa ⟨rfl, ka, ca⟩
      have Ba := curBelow_bd code (n := 9) c' (by omega)
      generalize hq1 : curBelow code 9 c' = q1 at *
      have Hq1 := Lib.hid hq1
      clear hq1
      have Pa := P.chg ca (by simp; omega)
      have Ra := R.chg ca (by simp; omega)
      have Oa := O.chg ca (by omega)
      have Ca := C.trans ca
      clear K P R O C ca
      obtain ⟨p0, p1, p2, p3, p4, ps⟩ := Pa.cells
      obtain ⟨z0, z1, z2, z3, z4, zs⟩ := Ra.cells
      have pf := Pa.free
      have zf := Ra.free
      by_cases hgo : (k : Int) < q1.1 ∧ 1 < T
      · obtain ⟨g1, g2⟩ := hgo
        go_wp2_with fail
        refine (below_any (T - 1) b v code _ _ (by omega) ka).mono ?_
        rintro e wb ⟨rfl, kb, cb⟩
        have Bb := curBelow_bd code (n := T - 1) q1.2 (by omega)
        generalize hq2 : curBelow code (T - 1) q1.2 = q2 at *
        have Hq2 := Lib.hid hq2
        clear hq2 p0 p1 p2 p3 p4 ps z0 z1 z2 z3 z4 zs pf zf
        have Pb := Pa.chg cb (by simp; omega)
        have Rb := Ra.chg cb (by simp; omega)
        have Ob := Oa.chg cb (by omega)
        have Cb := Ca.trans cb
        clear ka Pa Ra Oa Ca cb
        go_wp2_with fail
        refine (below_any (1 + q2.1) b v code _ _ (by omega) kb).mono ?_
        rintro e wc ⟨rfl, kc, cc⟩
        have Bc := curBelow_bd code (n := 1 + q2.1) q2.2 (by omega)
        generalize hq3 : curBelow code (1 + q2.1) q2.2 = q3 at *
        have Hq3 := Lib.hid hq3
        clear hq3
        have Pc := Pb.chg cc (by simp; omega)
        have Rc := Rb.chg cc (by simp; omega)
        have Oc := Ob.chg cc (by omega)
        have Cc := Cb.trans cc
        clear kb Pb Rb Ob Cb cc
        go_wp2_with fail
        have ha : Below wc.heap.size wc (wc.alloc (.cells #[.int .i64 q3.1, .int .i64 (1 + q2.1)] 52)) := (Below.refl _ _).alloc (Nat.le_refl _) _
        have D := EdgeAt.new 52 ⟨q3.1, 1 + q2.1⟩ wc
        have eb : pb < wc.heap.size := Pc.lt
        have Pd := Pc.below ha
        have Re := Rc.below ha
        have Od := Oc.below ha
        have Cd := Cc.belowNew ha
        have kd := kc.below ha
        obtain ⟨ep, hep⟩ : ∃ ep, ep = wc.heap.size := ⟨_, rfl⟩
        rw [← hep] at D eb ⊢
        generalize (wc.alloc (.cells #[.int .i64 q3.1, .int .i64 (1 + q2.1)] 52)) = wd at *
        have eO : Hid (∀ g, u.ownBlock = some g → g < ep) := fun g hg => by have := Oc.within g hg; omega
        clear Pc Rc Oc Cc kc ha hep
        obtain ⟨A, cap, rfl, -⟩ := id (Rd.of_own Od)
        obtain ⟨p0, p1, p2, p3, p4, ps⟩ := Pd.cells
        obtain ⟨d0, d1, ds⟩ := D.cells
        go_loopw [7, 8] (fun tw j wq => ∃ m n : Nat, m ≤ es.length ∧ j = .int .i64 m ∧ tw = .bool (decide ((⟨q3.1, 1 + q2.1⟩ : Edge) ∈ es.take m)) ∧ wq = wd.drewN n) (fun _ j _ => es.length - (intOf j).toNat)
        case atStart => exact ⟨0, 0, Nat.zero_le _, rfl, by simp, rfl⟩
        case round =>
          obtain ⟨m, nd, hm, rfl, rfl, rfl⟩ := hrel
          by_cases hlt : m < es.length
          · have hltI : (m : Int) < (es.length : Int) := by omega
            have hm0 : (0 : Int) ≤ (m : Int) := by omega
            obtain ⟨g, oo, rfl, hgg, x0, x1⟩ := (Rd.of_own Od).edge hlt
            obtain ⟨z0, z1, z2⟩ : True ∧ True ∧ True := ⟨trivial, trivial, trivial⟩
            have hnx : Hid (∀ t, t = decide ((⟨q3.1, 1 + q2.1⟩ : Edge) ∈ es.take (m + 1)) → Value.bool t = .bool (decide ((⟨q3.1, 1 + q2.1⟩ : Edge) ∈ es.take (m + 1)))) := fun t h => by rw [h]
            cases hd : decide ((⟨q3.1, 1 + q2.1⟩ : Edge) ∈ es.take m)
            · by_cases e0 : es[m].fr = q3.1
              · by_cases e1 : es[m].to = 1 + q2.1
                · have S : Hid (decide ((⟨q3.1, 1 + q2.1⟩ : Edge) ∈ es.take (m + 1)) = true) := by
                    refine decide_eq_true ?_
                    rw [take_snoc es m hlt]
                    refine List.mem_append_right _ (List.mem_singleton.2 ?_)
                    cases hx : es[m]
                    rw [hx] at e0 e1
                    simp only at e0 e1
                    rw [e0, e1]
                  rw [e0] at x0
                  rw [e1] at x1
                  clear e0 e1 hd
                  go_wp2
                  go_quiet (fail)
                  go_wp2
                  exact ⟨⟨m + 1, _, by omega, by go_num, by rw [S.out], rfl⟩, by simp [intOf]; omega⟩
                · have S : Hid (decide ((⟨q3.1, 1 + q2.1⟩ : Edge) ∈ es.take (m + 1)) = false) := by
                    refine decide_eq_false ?_
                    rw [take_snoc es m hlt, List.mem_append, List.mem_singleton]
                    rintro (h | h)
                    · exact of_decide_eq_false hd h
                    · rw [← h] at e1; exact e1 rfl
                  have e1' : (es[m].to == 1 + q2.1) = false := beq_eq_false_iff_ne.2 e1
                  rw [e0] at x0
                  clear e0 e1 hd
                  go_wp2
                  go_quiet (fail)
                  go_wp2
                  exact ⟨⟨m + 1, _, by omega, by go_num, by rw [S.out], rfl⟩, by simp [intOf]; omega⟩
              · have S : Hid (decide ((⟨q3.1, 1 + q2.1⟩ : Edge) ∈ es.take (m + 1)) = false) := by
                  refine decide_eq_false ?_
                  rw [take_snoc es m hlt, List.mem_append, List.mem_singleton]
                  rintro (h | h)
                  · exact of_decide_eq_false hd h
                  · rw [← h] at e0; exact e0 rfl
                have e0' : (es[m].fr == q3.1) = false := beq_eq_false_iff_ne.2 e0
                clear e0 hd
                go_wp2
                go_quiet (fail)
                go_wp2
                exact ⟨⟨m + 1, _, by omega, by go_num, by rw [S.out], rfl⟩, by simp [intOf]; omega⟩
            · have S : Hid (decide ((⟨q3.1, 1 + q2.1⟩ : Edge) ∈ es.take (m + 1)) = true) := by
                refine decide_eq_true ?_
                rw [take_snoc es m hlt]
                exact List.mem_append_left _ (of_decide_eq_true hd)
              clear hd
              go_wp2
              go_quiet (fail)
              go_wp2
              exact ⟨⟨m + 1, _, by omega, by go_num, by rw [S.out], rfl⟩, by simp [intOf]; omega⟩
          · have hme : m = es.length := by omega
            subst hme
            have hltI : ¬ (es.length : Int) < (es.length : Int) := by omega
            rw [List.take_length]
            have H1' : 10 - k = (9 - k) + 1 := by omega
            have GO : ∀ g, planGo code T (9 - k) (k + 1) (addE es ⟨q3.1, 1 + q2.1⟩) q3.2 = g → planGo code T 10 0 [] r5.2 = g := by
              intro g hg
              rw [← G.out, H1', planGo, if_pos (by rw [Hq1.out]; exact ⟨g1, g2⟩)]
              unfold newE newC newTo
              rw [Hq1.out, Hq2.out, Hq3.out]
              exact hg
            have GO := Lib.hid GO
            cases hd : decide ((⟨q3.1, 1 + q2.1⟩ : Edge) ∈ es)
            · have S : Hid (addE es ⟨q3.1, 1 + q2.1⟩ = es ++ [⟨q3.1, 1 + q2.1⟩]) := by
                show addE _ _ = _
                unfold addE
                rw [if_neg (of_decide_eq_false hd)]
              clear hd H1'
              have kx := kd.drewN nd
              have Px := Pd.drewN nd
              have Ox := Od.below (bdrewN (Below.refl _ wd) nd)
              have Cx := Cd.drewN nd
              have Rx := Re.drewN nd
              have hzx : ep < (wd.drewN nd).heap.size := ds
              have q0 : (wd.drewN nd).cell? ⟨pb, 4, none⟩ = some (.slice A es.length cap) := p4
              have q1' : (wd.drewN nd).cell? ⟨ep, 0, none⟩ = some (.int .i64 q3.1) := d0
              have q2' : (wd.drewN nd).cell? ⟨ep, 1, none⟩ = some (.int .i64 (1 + q2.1)) := d1
              clear p0 p1 p2 p3 p4 ps d0 d1 ds D Od kd Pd Cd Re eO
              generalize wd.drewN nd = wx at *
              have hax : Below wx.heap.size wx (wx.alloc (.cells #[.int .i64 q3.1, .int .i64 (1 + q2.1)] 52)) := (Below.refl _ _).alloc (Nat.le_refl _) _
              have hne : Hid (some pb ≠ (Value.slice A es.length cap).ownBlock) := fun e => by have := Ox.within pb e.symm; omega
              go_wp2_with (at_builtin; refine wpList_push_all _ edgeE (by decide) rfl (.tmp 66) (.tmp 68) rfl Try.underlying24 hi0 hz0 hz1 hz2 rfl (v := .slice A es.length cap) (l := es) rfl (Ox.below hax) rfl (Rd.one edgeE _ _ ⟨q3.1, 1 + q2.1⟩ rfl rfl 1 (Nat.le_refl _) (Nat.lt_succ_self _)) (by omega) (by simp) (by decide) (by simp; omega) ?_; intro v5 w5 o5 g5 f5; obtain ⟨A5, c5, rfl, -⟩ := id (Rd.of_own o5); have P5 := (Px.below hax).far g5 hne.out; have pf5 := P5.free; have pc5 := P5.cells)
              have hb5 : ∀ g, (Value.slice A es.length cap).ownBlock = some g → pb < g := fun g hg => by have := Ox.within g hg; omega
              have e9 : 9 - k = 10 - (k + 1) := by omega
              refine ⟨⟨k + 1, es ++ [⟨q3.1, 1 + q2.1⟩], _, q3.2, by omega, by go_num, by simp; omega, ((kx.below hax).grownNew g5 (fun g hg => by have := hb5 g hg; omega)).setNew (by show b < pb; omega) _, P5.setEdges _ _, (by have := o5.setLow (a := ⟨pb, 4, none⟩) (Nat.lt_succ_self pb) (.slice A5 (es.length + 1) c5); simp only [List.length_append, List.length_singleton] at this; exact this), ((Cx.belowNew hax).grownNew g5 (fun g hg => by have := hb5 g hg; omega)).setNew (by show w.heap.size ≤ pb; omega), ((Rx.below hax).far g5 (fun e => by have := hb5 _ e.symm; omega)).other (by show w.heap.size ≠ pb; omega) _, ?_⟩, by simp [intOf]; omega⟩
              show planGo code T (10 - (k + 1)) (k + 1) (es ++ [⟨q3.1, 1 + q2.1⟩]) q3.2 = _
              have := GO.out _ rfl
              rw [S.out] at this
              rw [this, e9]
            · have S : Hid (addE es ⟨q3.1, 1 + q2.1⟩ = es) := by
                show addE _ _ = _
                unfold addE
                rw [if_pos (of_decide_eq_true hd)]
              clear hd H1'
              go_wp2
              refine ⟨⟨k + 1, es, _, q3.2, by omega, by go_num, by omega, kd.drewN _, Pd.drewN _, Od.below (bdrewN (Below.refl _ _) _), Cd.drewN _, Re.drewN _, ?_⟩, by simp [intOf]; omega⟩
              show planGo code T (10 - (k + 1)) (k + 1) es q3.2 = _
              have := GO.out _ rfl
              rw [S.out] at this
              rw [this]
              congr 1
              omega
      · have GE : Hid (planGo code T 10 0 [] r5.2 = (es, q1.2)) := by
          show planGo code T 10 0 [] r5.2 = (es, q1.2)
          rw [← G.out, show 10 - k = (9 - k) + 1 by omega, planGo, if_neg (by rw [Hq1.out]; exact hgo), Hq1.out]
        have E := Lib.hid (HE.out _ GE.out)
        obtain ⟨A, cap, rfl, -⟩ := id (Rd.of_own Oa)
        clear HE G Hq1 GE hk hes
        have hfin : ∀ W, W = ((((wa.setCell ⟨w.heap.size, 0, none⟩ (.int .i64 r1.1)).setCell ⟨w.heap.size, 1, none⟩ (.int .i64 (1 + r2.1))).setCell ⟨w.heap.size, 2, none⟩ (.int .i64 (1 + r3.1))).setCell ⟨w.heap.size, 3, none⟩ (.int .i64 T)).setCell ⟨w.heap.size, 4, none⟩ (.slice A es.length cap) →
            PlanP b v code (curPlan code c) w (.returned (planV ⟨r1.1, 1 + r2.1, 1 + r3.1, T, es⟩ (.slice A es.length cap))) W := by
          rintro W rfl
          rw [E.out]
          have hO : ∀ {W : World}, Ow edgeE 52 W (pb + 1) (.slice A es.length cap) es → ∀ j u', Ow edgeE 52 (W.setCell ⟨w.heap.size, j, none⟩ u') (pb + 1) (.slice A es.length cap) es := fun h j u' => h.setLow (a := ⟨w.heap.size, j, none⟩) (Nat.lt_succ_of_lt R4s) _
          refine ⟨_, rfl, (hO (hO (hO (hO (hO Oa 0 _) 1 _) 2 _) 3 _) 4 _).more (by omega), ?_, ?_⟩
          · repeat (first | exact ka | refine Drw.setNew ?_ (by simp; omega) _)
          · repeat (first | exact Ca | refine Chg.setNew ?_ (by simp))
        by_cases g1 : (k : Int) < q1.1
        · have g2 : ¬ 1 < T := fun h => hgo ⟨g1, h⟩
          clear hgo
          go_wp2
          refine bodyPost_ret (v := planV ⟨r1.1, 1 + r2.1, 1 + r3.1, T, es⟩ (.slice A es.length cap)) ?_ rfl (hfin _ rfl)
          simp [planV, results, Try.results46, go_sem, *]
        · clear hgo
          go_wp2
          refine bodyPost_ret (v := planV ⟨r1.1, 1 + r2.1, 1 + r3.1, T, es⟩ (.slice A es.length cap)) ?_ rfl (hfin _ rfl)
          simp [planV, results, Try.results46, go_sem, *]
end Go.Proofs.Ytnaicippgocdfaa
end
section
namespace Go.Proofs.Ytnaicippgocdfaa
open Go.RowKit
set_option maxRecDepth 100000
set_option maxHeartbeats 1000000

theorem int_info : (Try.prog.info? 3).map (fun i => (i.zero, i.size, i.bytes)) = some (some (.int .i64 0), 1, 8) := by kernel_rfl

theorem waits_any (p : Plan) (ve : Value) (w : World) (hm : manyOk p = true) (he : edgesIn p) (h : Rd edgeE w w.heap.size ve p.edges) :
    Calls Try.prog 66 #[planV p ve] w fun e w' => ∃ v, e = .returned v ∧ Ow natE 3 w' w.heap.size v (Pg.wrounds (esOf p) p.tasks.toNat (List.replicate p.tasks.toNat 0)) ∧ Below w.heap.size w w' := by
  obtain ⟨A, c, rfl, -⟩ := id h
  obtain ⟨t1, t2⟩ := manyOk_tasks hm
  have hlen := manyOk_edges hm
  obtain ⟨T, hT⟩ := Int.eq_ofNat_of_zero_le (show 0 ≤ p.tasks by omega)
  have HT := Lib.hid hT
  have hT12 : T ≤ 12 := by omega
  obtain ⟨i0, hi0, hz0, hz1, hz2⟩ := info_parts int_info
  have hmk : ∀ w : World, (Instr.makeSlice 27 (.int .i64 p.tasks) (.int .i64 p.tasks)).run Try.prog w = .ok (.slice (some ⟨w.heap.size, 0, none⟩) T T) (w.alloc (.cells (madeCells #[.int .i64 0] (T * 1)) 3)) := by
    intro w
    have := run_make (P := Try.prog) w 27 3 i0 _ Try.underlying27 hi0 hz0 .i64 .i64 T T (by omega) (by omega) (by rw [hz2]; omega) (by omega)
    rw [hz1] at this
    rw [hT]
    simpa [Value.cells] using this
  clear hT
  unfold planV
  go_enter Try.func66, Try.ntmps66
  go_wp2
  go_loopw [11] (fun i wr => ∃ k : Nat, k ≤ T ∧ i = .int .i64 k ∧ Ow natE 3 wr (w.heap.size + 1) (.slice (some ⟨w.heap.size + 1, 0, none⟩) T T) (Pg.wrounds (esOf p) k (List.replicate T 0)) ∧ Below (planBox 26 p (.slice A p.edges.length c) w).heap.size (planBox 26 p (.slice A p.edges.length c) w) wr) (fun i _ => T - (intOf i).toNat)
  case atStart =>
    refine ⟨0, Nat.zero_le _, rfl, ?_, (Below.refl _ _).alloc (Nat.le_refl _) _⟩
    have := Ow.made natE 3 (planBox 26 p (.slice A p.edges.length c) w) 0 T (by decide) (by simp [maxLen]; omega) (z := #[.int .i64 0]) rfl (m := T) (by simp [natE])
    rw [planBox_size] at this
    exact this
  case round =>
    obtain ⟨k, hk, rfl, hown, hb⟩ := hrel
    obtain ⟨x0, x1, x2, x3, x4, hs, hbw⟩ := planBox_cells hb
    by_cases hlt : k < T
    · have hltI : (k : Int) < p.tasks := by rw [HT.out]; omega
      obtain ⟨wo, rfl⟩ : ∃ wo : World, wo = wr := ⟨_, rfl⟩
      go_wp2
      go_loopw [16] (fun i wr => ∃ j : Nat, j ≤ p.edges.length ∧ i = .int .i64 j ∧ Ow natE 3 wr (w.heap.size + 1) (.slice (some ⟨w.heap.size + 1, 0, none⟩) T T) (Pg.wround (esL (p.edges.take j)) (Pg.wrounds (esOf p) k (List.replicate T 0))) ∧ Below (planBox 26 p (.slice A p.edges.length c) w).heap.size (planBox 26 p (.slice A p.edges.length c) w) wr) (fun i _ => p.edges.length - (intOf i).toNat)
      case atStart => exact ⟨0, Nat.zero_le _, rfl, hown, hb⟩
      case round =>
        clear hown hb x0 x1 x2 x3 x4 hs hbw
        obtain ⟨j, hj, rfl, hown, hb⟩ := hrel
        obtain ⟨x0, x1, x2, x3, x4, hs, hbw⟩ := planBox_cells hb
        by_cases hjt : j < p.edges.length
        · obtain ⟨b, o, rfl, hbb, c0, c1⟩ := (h.below hbw).edge hjt
          obtain ⟨f1, f2, f3, f4⟩ := edgesIn_get he hjt
          rw [HT.out] at f2 f4
          have ht := Lib.hid (show esL (p.edges.take (j + 1)) = esL (p.edges.take j) ++ [(p.edges[j].fr.toNat, p.edges[j].to.toNat)] by unfold esL; rw [take_snoc _ j hjt, List.map_append]; rfl)
          generalize p.edges[j].fr = fx at *
          generalize p.edges[j].to = tx at *
          obtain ⟨a, rfl⟩ := Int.eq_ofNat_of_zero_le f1
          obtain ⟨d, rfl⟩ := Int.eq_ofNat_of_zero_le f3
          have hol : (Pg.wround (esL (p.edges.take j)) (Pg.wrounds (esOf p) k (List.replicate T 0))).length = T := by rw [Pg.wround_length, Pg.wrounds_length, List.length_replicate]
          have hnext : Hid (Pg.wround (esL (p.edges.take (j + 1))) (Pg.wrounds (esOf p) k (List.replicate T 0)) = Pg.wstep (Pg.wround (esL (p.edges.take j)) (Pg.wrounds (esOf p) k (List.replicate T 0))) (a, d)) := by
            show Pg.wround _ _ = _
            rw [ht.out]
            simp only [Int.toNat_natCast]
            unfold Pg.wround
            rw [List.foldl_append]
            rfl
          have hlt2 : ∀ x ∈ Pg.wround (esL (p.edges.take j)) (Pg.wrounds (esOf p) k (List.replicate T 0)), x < 2 ^ T := by
            refine Pg.wround_lt T _ _ ?_ (Pg.wrounds_lt T _ _ ?_ ?_ k)
            · intro e he'
              simp only [esL, List.mem_map] at he'
              obtain ⟨y, hy, rfl⟩ := he'
              have := (esOf_lt he).2 (y.fr.toNat, y.to.toNat) (by simp only [esOf, esL, List.mem_map]; exact ⟨y, List.mem_of_mem_take hy, rfl⟩)
              rw [HT.out] at this
              simpa using this
            · have := (esOf_lt he).2
              rw [HT.out] at this
              simpa using this
            · intro x hx
              have := List.eq_of_mem_replicate hx
              subst this
              exact Nat.two_pow_pos T
          generalize hO : Pg.wround (esL (p.edges.take j)) (Pg.wrounds (esOf p) k (List.replicate T 0)) = O at *
          have HO := Lib.hid hO
          clear hO ht
          have hol' := Lib.hid hol
          have ha : a < O.length := by omega
          have hd : d < O.length := by omega
          clear hol
          have hgl := hown.blk.2
          have n0 : (wr.alloc (.cells #[.int .i64 (a : Int), .int .i64 (d : Int)] 52)).cell? ⟨wr.heap.size, 0, none⟩ = some (.int .i64 (a : Int)) := by go_simp
          have n1 : (wr.alloc (.cells #[.int .i64 (a : Int), .int .i64 (d : Int)] 52)).cell? ⟨wr.heap.size, 1, none⟩ = some (.int .i64 (d : Int)) := by go_simp
          have hown2 := Ow.below hown ((Below.refl _ _).alloc (Nat.le_refl _) (.cells #[.int .i64 (a : Int), .int .i64 (d : Int)] 52))
          have hb2 := hb.alloc hb.size (.cells #[.int .i64 (a : Int), .int .i64 (d : Int)] 52)
          go_wp2
          generalize wr.alloc (.cells #[.int .i64 (a : Int), .int .i64 (d : Int)] 52) = W2 at *
          have hcf := hown2.free
          have ca := hown2.nat ha
          have cd := hown2.nat hd
          go_still_tail 16, (by kernel_rfl)
          go_wp2
          have hda : O[d] < 2 ^ T := hlt2 _ (List.getElem_mem hd)
          have haa : O[a] < 2 ^ T := hlt2 _ (List.getElem_mem ha)
          have hpT : 2 ^ T ≤ 2 ^ 12 := Nat.pow_le_pow_right (by omega) hT12
          have hpd : 1 <<< d < 2 ^ 12 := by rw [Nat.shiftLeft_eq, Nat.one_mul]; exact Nat.pow_lt_pow_of_lt (by omega) (by omega)
          have hor : 1 <<< d ||| O[d] < 2 ^ 12 := Nat.or_lt_two_pow hpd (Nat.lt_of_lt_of_le hda hpT)
          have hsm : ∀ {x : Nat}, x < 2 ^ 12 → x < 9223372036854775808 := fun h => Nat.lt_of_lt_of_le h (by decide)
          rw [shl_one d (by omega), or_i64 (1 <<< d) O[d] (hsm hpd) (hsm (Nat.lt_of_lt_of_le hda hpT)), or_i64 O[a] (1 <<< d ||| O[d]) (hsm (Nat.lt_of_lt_of_le haa hpT)) (hsm hor)]
          clear hpd hor hsm hda haa hpT
          have hput := Ow.put hown2 (n := T) hol'.out a (by omega) (O[a] ||| (1 <<< d ||| O[d]))
          have hst : O.set a (O[a] ||| (1 <<< d ||| O[d])) = Pg.wstep O (a, d) := by
            simp [Pg.wstep, List.getD_eq_getElem?_getD, ha, hd]
          rw [hst, ← hnext.out] at hput
          simp only [natE, Nat.mul_one] at hput
          refine ⟨⟨j + 1, by omega, by go_num, hput.1, ((hb2.grown hput.2 hb2.size (fun g hg => ?_))).drew⟩, by simp [intOf]; omega⟩
          rw [planBox_size]
          simp at hg
          omega
        · have hj' : j = p.edges.length := by omega
          subst hj'
          rw [List.take_length] at hown
          go_wp2
          exact ⟨⟨k + 1, by omega, by go_num, hown, hb⟩, by simp [intOf]; omega⟩
    · have hltI : ¬ (k : Int) < p.tasks := by rw [HT.out]; omega
      go_wp2
      go_ret
      refine ⟨_, rfl, ?_, hbw⟩
      have : k = T := by omega
      subst this
      rw [HT.out]
      exact hown.more (by omega)
end Go.Proofs.Ytnaicippgocdfaa
end
section
namespace Go.Proofs.Ytnaicippgocdfaa
open Go.RowKit
set_option maxRecDepth 100000
set_option maxHeartbeats 400000

structure Fence where
  run : Int
  task : Int
  try_ : Int
  text : ByteArray
deriving DecidableEq, Inhabited

def fenceE : Enc Fence := { cells := fun s => [.int .i64 s.run, .int .i64 s.task, .int .i64 s.try_, .string s.text], sz := 4, len := fun _ => rfl, one := fun _ u hu => by simp at hu; rcases hu with rfl | rfl | rfl | rfl <;> rfl }
@[go_sem] def fenceV (s : Fence) : Value := .agg #[.int .i64 s.run, .int .i64 s.task, .int .i64 s.try_, .string s.text]

theorem Rd.fence {w : World} {B : Nat} {A : Option Addr} {n c : Nat} {l : List Fence} (h : Rd fenceE w B (.slice A n c) l) {k : Nat} (hk : k < l.length) :
    ∃ b o, A = some ⟨b, o, none⟩ ∧ b < B ∧ w.cell? ⟨b, o + k * 4, none⟩ = some (.int .i64 l[k].run) ∧ w.cell? ⟨b, o + k * 4 + 1, none⟩ = some (.int .i64 l[k].task) ∧ w.cell? ⟨b, o + k * 4 + 2, none⟩ = some (.int .i64 l[k].try_) ∧ w.cell? ⟨b, o + k * 4 + 3, none⟩ = some (.string l[k].text) := by
  obtain ⟨A', c', hv, _, hA⟩ := h
  obtain ⟨b, o, hA', hb, hc⟩ := hA (by omega)
  simp only [Value.slice.injEq] at hv
  obtain ⟨rfl, _, _⟩ := hv
  exact ⟨b, o, hA', hb, hc k hk 0 _ rfl, hc k hk 1 _ rfl, hc k hk 2 _ rfl, hc k hk 3 _ rfl⟩

theorem Ow.fence {E : TypeId} {w : World} {base g n cap : Nat} {l : List Fence} (h : Ow fenceE E w base (.slice (some ⟨g, 0, none⟩) n cap) l) {k : Nat} (hk : k < l.length) :
    w.cell? ⟨g, k * 4, none⟩ = some (.int .i64 l[k].run) ∧ w.cell? ⟨g, k * 4 + 1, none⟩ = some (.int .i64 l[k].task) ∧ w.cell? ⟨g, k * 4 + 2, none⟩ = some (.int .i64 l[k].try_) ∧ w.cell? ⟨g, k * 4 + 3, none⟩ = some (.string l[k].text) := by
  rcases h.form with ⟨h1, _⟩ | ⟨g', cap', hv, _, _, _, _, _, hc⟩
  · simp at h1
  · simp only [Value.slice.injEq, Option.some.injEq, Addr.mk.injEq, and_true] at hv
    obtain ⟨rfl, _, _⟩ := hv
    exact ⟨hc k hk 0 _ rfl, hc k hk 1 _ rfl, hc k hk 2 _ rfl, hc k hk 3 _ rfl⟩

end Go.Proofs.Ytnaicippgocdfaa
end
section
namespace Go.Proofs.Ytnaicippgocdfaa
open Go.RowKit
set_option maxRecDepth 100000
set_option maxHeartbeats 400000

theorem within_any (n lo hi : Int) (w : World) : Calls Try.prog 49 #[.int .i64 n, .int .i64 lo, .int .i64 hi] w fun e w' => e = .returned (.bool (inB n lo hi)) ∧ w = w' := by
  by_cases h1 : lo ≤ n
  · have t1 : decide (lo ≤ n) = true := by simpa using h1
    go_enter Try.func49, Try.ntmps49
    go_wp2
    go_ret
    exact ⟨ret_bool (by simp [inB, t1]), rfl⟩
  · have t1 : decide (lo ≤ n) = false := by simpa using h1
    go_enter Try.func49, Try.ntmps49
    go_wp2
    go_ret
    exact ⟨ret_bool (by simp [inB, t1]), rfl⟩

theorem l01In_any (n lo hi : Int) (w : World) : Calls Try.prog 52 #[.int .i64 n, .int .i64 lo, .int .i64 hi] w fun e w' => e = .returned (.bool (inB n lo hi)) ∧ w = w' := by
  by_cases h1 : lo ≤ n
  · have t1 : decide (lo ≤ n) = true := by simpa using h1
    go_enter Try.func52, Try.ntmps52
    go_wp2
    go_ret
    exact ⟨ret_bool (by simp [inB, t1]), rfl⟩
  · have t1 : decide (lo ≤ n) = false := by simpa using h1
    go_enter Try.func52, Try.ntmps52
    go_wp2
    go_ret
    exact ⟨ret_bool (by simp [inB, t1]), rfl⟩

/-- the first place where p holds; -1 -/
def idxOf {α : Type} (p : α → Bool) (l : List α) : Int := match l.findIdx? p with | some i => i | none => -1
theorem idxOf_found {α : Type} {p : α → Bool} {l : List α} {k : Nat} (hk : k < l.length) (h : ∀ j (hj : j < k), p (l[j]'(by omega)) = false) (hp : p l[k] = true) : idxOf p l = k := by
  have : l.findIdx? p = some k := by
    rw [List.findIdx?_eq_some_iff_getElem]
    exact ⟨hk, hp, fun j hj => by simp [h j hj]⟩
  simp [idxOf, this]
theorem idxOf_none {α : Type} {p : α → Bool} {l : List α} (h : ∀ j (hj : j < l.length), p l[j] = false) : idxOf p l = -1 := by
  have : l.findIdx? p = none := by
    rw [List.findIdx?_eq_none_iff]
    intro x hx
    obtain ⟨j, hj, rfl⟩ := List.getElem_of_mem hx
    exact h j hj
  simp [idxOf, this]

end Go.Proofs.Ytnaicippgocdfaa
end
section
namespace Go.Proofs.Ytnaicippgocdfaa
open Go.RowKit
set_option maxRecDepth 100000
set_option maxHeartbeats 400000

def fOk (f : Fence) : Bool := inB f.run 0 1000000000 && inB f.task 0 1000000000 && inB f.try_ 1 1000000000
def fBe (a b : Fence) : Bool := decide (a.run < b.run) || (a.run == b.run && decide (a.task < b.task))

def fAt (run task : Int) (f : Fence) : Bool := f.run == run && f.task == task

end Go.Proofs.Ytnaicippgocdfaa
end
section
namespace Go.Proofs.Ytnaicippgocdfaa
open Go.RowKit
set_option maxRecDepth 100000
set_option maxHeartbeats 1000000

theorem indexEdge_any (v : Value) (l : List Edge) (x : Edge) (w : World) (hl : l.length ≤ 2000000) (h : Rd edgeE w w.heap.size v l) :
    Calls Try.prog 77 #[v, edgeV x] w fun e w' => e = .returned (.int .i64 (idxOf (fun y => decide (x = y)) l)) ∧ Below w.heap.size w w' := by
  obtain ⟨A, c, rfl, -⟩ := id h
  unfold edgeV
  go_enter Try.func77, Try.ntmps77
  go_wp2
  go_loopw [8] (fun i wr => ∃ k : Nat, k ≤ l.length ∧ i = .int .i64 k ∧ Hid (∀ j (hj : j < k) (hj' : j < l.length), decide (x = l[j]) = false) ∧ Below (w.alloc (.cells #[.int .i64 x.fr, .int .i64 x.to] 52)).heap.size (w.alloc (.cells #[.int .i64 x.fr, .int .i64 x.to] 52)) wr) (fun i _ => l.length - (intOf i).toNat)
  case atStart => exact ⟨0, Nat.zero_le _, rfl, fun j hj => absurd hj (by omega), Below.refl _ _⟩
  case round =>
    obtain ⟨k, hk, rfl, hno, hb⟩ := hrel
    have hb0 : Below w.heap.size w (w.alloc (.cells #[.int .i64 x.fr, .int .i64 x.to] 52)) := (Below.refl _ _).alloc (Nat.le_refl _) _
    have hbw := bnext hb0 hb
    by_cases hlt : k < l.length
    · obtain ⟨b, o, rfl, hbb, c0, c1⟩ := (h.below hbw).edge hlt
      have n0 : wr.cell? ⟨w.heap.size, 0, none⟩ = some (.int .i64 x.fr) := (hb.cell (p := ⟨w.heap.size, 0, none⟩) (by simp)).trans (by go_simp)
      have n1 : wr.cell? ⟨w.heap.size, 1, none⟩ = some (.int .i64 x.to) := (hb.cell (p := ⟨w.heap.size, 1, none⟩) (by simp)).trans (by go_simp)
      by_cases hx : x = l[k]
      · have H := Lib.hid (idxOf_found (p := fun y => decide (x = y)) hlt (fun j hj => hno.out j hj (by omega)) (show decide (x = l[k]) = true by simp [hx]))
        have e0 : l[k].fr = x.fr := by rw [hx]
        have e1 : l[k].to = x.to := by rw [hx]
        rw [e0] at c0
        rw [e1] at c1
        clear hx e0 e1
        go_wp2
        go_quiet (fail)
        go_wp2
        go_ret
        exact ⟨ret_int (by rw [H.out]), bdrewN hbw _⟩
      · have S : Hid (∀ j (hj : j < k + 1) (hj' : j < l.length), decide (x = l[j]) = false) := by
          intro j hj hj'
          by_cases e : j = k
          · subst e; simpa using hx
          · exact hno.out j (by omega) hj'
        have hx' : ¬ (x.fr = l[k].fr ∧ x.to = l[k].to) := fun ⟨e0, e1⟩ => hx (by cases x; cases hlk : l[k]; simp_all)
        clear hx
        by_cases e0 : x.fr = l[k].fr
        · have e1 : ¬ x.to = l[k].to := fun e => hx' ⟨e0, e⟩
          have e1' : (x.to == l[k].to) = false := by simpa using e1
          rw [← e0] at c0
          clear hx' e0
          go_wp2
          go_quiet (fail)
          go_wp2
          exact ⟨⟨k + 1, by omega, by go_num, S, bdrewN hb _⟩, by simp [intOf]; omega⟩
        · have e0' : (x.fr == l[k].fr) = false := by simpa using e0
          clear hx'
          go_wp2
          go_quiet (fail)
          go_wp2
          exact ⟨⟨k + 1, by omega, by go_num, S, bdrewN hb _⟩, by simp [intOf]; omega⟩
    · have H := Lib.hid (idxOf_none (p := fun y => decide (x = y)) (l := l) (fun j hj => hno.out j (by omega) hj))
      go_wp2
      go_ret
      exact ⟨ret_int (by rw [H.out]), hbw⟩

theorem idxOf_mem {l : List Edge} {x : Edge} : (0 ≤ idxOf (fun y => decide (x = y)) l) ↔ x ∈ l := by
  unfold idxOf
  cases h : l.findIdx? (fun y => decide (x = y)) with
  | none =>
    rw [List.findIdx?_eq_none_iff] at h
    simp only
    refine ⟨fun h => absurd h (by omega), fun hx => ?_⟩
    have := h x hx
    simp at this
  | some i =>
    rw [List.findIdx?_eq_some_iff_getElem] at h
    obtain ⟨hi, hp, _⟩ := h
    simp only [decide_eq_true_eq] at hp
    simp only
    exact ⟨fun _ => by rw [hp]; exact List.getElem_mem hi, fun _ => by omega⟩

theorem containsEdge_any (v : Value) (l : List Edge) (x : Edge) (w : World) (hl : l.length ≤ 2000000) (h : Rd edgeE w w.heap.size v l) :
    Calls Try.prog 71 #[v, edgeV x] w fun e w' => e = .returned (.bool (decide (x ∈ l))) ∧ Below w.heap.size w w' := by
  have hb0 : Below w.heap.size w (w.alloc (.cells #[.int .i64 x.fr, .int .i64 x.to] 52)) := (Below.refl _ _).alloc (Nat.le_refl _) _
  have H := Lib.hid (show decide (0 ≤ idxOf (fun y => decide (x = y)) l) = decide (x ∈ l) from decide_eq_decide.2 idxOf_mem)
  unfold edgeV
  go_enter Try.func71, Try.ntmps71
  go_wp2_with fail
  refine (indexEdge_any v l x _ hl ((h.below hb0).more hb0.size)).mono ?_
  rintro e w1 ⟨rfl, hb1⟩
  go_wp2_with fail
  go_ret
  exact ⟨ret_bool (by rw [← H.out]), bnext hb0 hb1⟩

theorem planFault_many {p : Plan} (h : manyOk p = false) : planFault p = 1 := by unfold planFault; rw [if_pos h]
theorem planFault_edge {p : Plan} (h : manyOk p = true) (h2 : ¬ edgesIn p) : planFault p = 2 := by unfold planFault; rw [if_neg (by rw [h]; simp), if_pos h2]
theorem planFault_twice {p : Plan} (h : manyOk p = true) (h2 : edgesIn p) (h3 : ¬ p.edges.Nodup) : planFault p = 3 := by
  unfold planFault; rw [if_neg (by rw [h]; simp), if_neg (by simpa using h2), if_pos h3]
theorem planFault_cycle {p : Plan} (h : manyOk p = true) (h2 : edgesIn p) (h3 : p.edges.Nodup) (h4 : cyclic p) : planFault p = 4 := by
  unfold planFault; rw [if_neg (by rw [h]; simp), if_neg (by simpa using h2), if_neg (by simpa using h3), if_pos h4]

theorem nodup_snoc {α : Type} {l : List α} {x : α} : (l ++ [x]).Nodup ↔ l.Nodup ∧ x ∉ l := by
  rw [List.nodup_append]
  constructor
  · rintro ⟨h1, _, h2⟩
    exact ⟨h1, fun hx => h2 x hx x (by simp) rfl⟩
  · rintro ⟨h1, h2⟩
    refine ⟨h1, by simp, fun a ha b hb e => ?_⟩
    simp only [List.mem_singleton] at hb
    subst hb; subst e
    exact h2 ha

theorem implPlanFault_many (p : Plan) (ve : Value) (w : World) (hl : p.edges.length ≤ 2000000) (h : Rd edgeE w w.heap.size ve p.edges) (hm : manyOk p = false) :
    Calls Try.prog 55 #[planV p ve] w fun e w' => e = .returned (.int .i64 (planFault p)) ∧ Below w.heap.size w w' := by
  have H := Lib.hid (planFault_many hm)
  obtain ⟨A, c, rfl, -⟩ := id h
  unfold planV
  cases h1 : inB p.tasks 1 12
  · clear hm
    go_enter Try.func55, Try.ntmps55
    go_wp2_with (go_at_call 49; refine (within_any _ _ _ _).mono ?_; rintro e w' ⟨rfl, rfl⟩)
    go_ret
    exact ⟨ret_int H.out.symm, (Below.refl _ _).alloc (Nat.le_refl _) _⟩
  by_cases h2 : 30 < p.edges.length
  · have h2' : (30 : Int) < (p.edges.length : Int) := by omega
    clear hm
    go_enter Try.func55, Try.ntmps55
    go_wp2_with (go_at_call 49; refine (within_any _ _ _ _).mono ?_; rintro e w' ⟨rfl, rfl⟩)
    go_ret
    exact ⟨ret_int H.out.symm, (Below.refl _ _).alloc (Nat.le_refl _) _⟩
  have h2' : ¬ (30 : Int) < (p.edges.length : Int) := by omega
  cases h3 : inB p.prio 0 9
  · clear hm
    go_enter Try.func55, Try.ntmps55
    go_wp2_with (go_at_call 49; refine (within_any _ _ _ _).mono ?_; rintro e w' ⟨rfl, rfl⟩)
    go_ret
    exact ⟨ret_int H.out.symm, (Below.refl _ _).alloc (Nat.le_refl _) _⟩
  cases h4 : inB p.most 1 5
  · clear hm
    go_enter Try.func55, Try.ntmps55
    go_wp2_with (go_at_call 49; refine (within_any _ _ _ _).mono ?_; rintro e w' ⟨rfl, rfl⟩)
    go_ret
    exact ⟨ret_int H.out.symm, (Below.refl _ _).alloc (Nat.le_refl _) _⟩
  cases h5 : inB p.wait 1 20
  · clear hm
    go_enter Try.func55, Try.ntmps55
    go_wp2_with (go_at_call 49; refine (within_any _ _ _ _).mono ?_; rintro e w' ⟨rfl, rfl⟩)
    go_ret
    exact ⟨ret_int H.out.symm, (Below.refl _ _).alloc (Nat.le_refl _) _⟩
  · exfalso
    have : manyOk p = true := by simp [manyOk, h1, h3, h4, h5]; omega
    rw [this] at hm
    cases hm
end Go.Proofs.Ytnaicippgocdfaa
end
section
namespace Go.Proofs.Ytnaicippgocdfaa
open Go.RowKit
set_option maxRecDepth 100000
set_option maxHeartbeats 2000000

theorem implPlanFault_ok (p : Plan) (ve : Value) (w : World) (h : Rd edgeE w w.heap.size ve p.edges) (hm : manyOk p = true) :
    Calls Try.prog 55 #[planV p ve] w fun e w' => e = .returned (.int .i64 (planFault p)) ∧ Below w.heap.size w w' := by
  have Hm := Lib.hid hm
  obtain ⟨t1, t2⟩ := manyOk_tasks hm
  have hlen := manyOk_edges hm
  have hlen2 : p.edges.length ≤ 2000000 := by omega
  have hlI : ¬ (30 : Int) < (p.edges.length : Int) := by omega
  have hlB : decide ((30 : Int) < (p.edges.length : Int)) = false := by simpa using hlI
  obtain ⟨A, c, rfl, -⟩ := id h
  have hcap := h.cap
  unfold planV
  simp only [manyOk, Bool.and_eq_true] at hm
  obtain ⟨⟨⟨⟨h1, -⟩, h3⟩, h4⟩, h5⟩ := hm
  go_enter Try.func55, Try.ntmps55
  go_wp2_with (go_at_call 49; refine (within_any _ _ _ _).mono ?_; rintro e w' ⟨rfl, rfl⟩)
  go_loopw [40] (fun i wr => ∃ k : Nat, k ≤ p.edges.length ∧ i = .int .i64 k ∧ Hid (∀ j (hj : j < p.edges.length), j < k → edgeIn p.tasks p.edges[j] = true) ∧ Below (planBox 26 p (.slice A p.edges.length c) w).heap.size (planBox 26 p (.slice A p.edges.length c) w) wr) (fun i _ => p.edges.length - (intOf i).toNat)
  case atStart => exact ⟨0, Nat.zero_le _, rfl, fun j hj h0 => absurd h0 (by omega), Below.refl _ _⟩
  case round =>
    obtain ⟨k, hk, rfl, hok, hb⟩ := hrel
    obtain ⟨x0, x1, x2, x3, x4, hs, hbw⟩ := planBox_cells hb
    have hs1 : w.heap.size < wr.heap.size := by omega
    by_cases hlt : k < p.edges.length
    · obtain ⟨b, o, rfl, hbb, c0, c1⟩ := (h.below hbw).edge hlt
      have hba := hb.alloc hb.size (.cells #[.int .i64 p.edges[k].fr, .int .i64 p.edges[k].to] 52)
      have hbwa := hbw.alloc hbw.size (.cells #[.int .i64 p.edges[k].fr, .int .i64 p.edges[k].to] 52)
      have bad : edgeIn p.tasks p.edges[k] = false → Hid (planFault p = 2) := fun hf => planFault_edge Hm.out (fun hin => by
        rw [hin _ (List.getElem_mem hlt)] at hf; cases hf)
      cases g1 : inB p.edges[k].fr 0 (p.tasks - 1)
      · have H := bad (by simp [edgeIn, g1])
        clear bad
        go_wp2_with (go_at_call 49; refine (within_any _ _ _ _).mono ?_; rintro e w' ⟨rfl, rfl⟩)
        go_ret
        exact ⟨ret_int H.out.symm, hbwa⟩
      cases g2 : inB p.edges[k].to 0 (p.tasks - 1)
      · have H := bad (by simp [edgeIn, g2])
        clear bad
        go_wp2_with (go_at_call 49; refine (within_any _ _ _ _).mono ?_; rintro e w' ⟨rfl, rfl⟩)
        go_ret
        exact ⟨ret_int H.out.symm, hbwa⟩
      · have S : Hid (∀ j (hj : j < p.edges.length), j < k + 1 → edgeIn p.tasks p.edges[j] = true) := by
          intro j hj hjk
          by_cases e : j = k
          · subst e; simp [edgeIn, g1, g2]
          · exact hok.out j hj (by omega)
        clear bad
        go_wp2_with (go_at_call 49; refine (within_any _ _ _ _).mono ?_; rintro e w' ⟨rfl, rfl⟩)
        exact ⟨⟨k + 1, by omega, by go_num, S, hba⟩, by simp [intOf]; omega⟩
    · have hin : Hid (edgesIn p) := fun e he => by
        obtain ⟨j, hj, rfl⟩ := List.getElem_of_mem he
        exact hok.out j hj (by omega)
      clear hok hk
      go_wp2
      go_loopw [64] (fun i wr => ∃ k : Nat, k ≤ p.edges.length ∧ i = .int .i64 k ∧ Hid ((p.edges.take k).Nodup) ∧ Below (planBox 26 p (.slice A p.edges.length c) w).heap.size (planBox 26 p (.slice A p.edges.length c) w) wr) (fun i _ => p.edges.length - (intOf i).toNat)
      case atStart => exact ⟨0, Nat.zero_le _, rfl, by show (p.edges.take 0).Nodup; simp, hb⟩
      case round =>
        clear hb x0 x1 x2 x3 x4 hs hbw hs1
        obtain ⟨k, hk, rfl, hok, hb⟩ := hrel
        obtain ⟨x0, x1, x2, x3, x4, hs, hbw⟩ := planBox_cells hb
        have hs1 : w.heap.size < wr.heap.size := by omega
        have hkc : k ≤ c := by omega
        by_cases hlt : k < p.edges.length
        · obtain ⟨b, o, rfl, hbb, c0, c1⟩ := (h.below hbw).edge hlt
          have hba := hb.alloc hb.size (.cells #[.int .i64 p.edges[k].fr, .int .i64 p.edges[k].to] 52)
          have hbwa := hbw.alloc hbw.size (.cells #[.int .i64 p.edges[k].fr, .int .i64 p.edges[k].to] 52)
          have n0 : (wr.alloc (.cells #[.int .i64 p.edges[k].fr, .int .i64 p.edges[k].to] 52)).cell? ⟨wr.heap.size, 0, none⟩ = some (.int .i64 p.edges[k].fr) := by go_simp
          have n1 : (wr.alloc (.cells #[.int .i64 p.edges[k].fr, .int .i64 p.edges[k].to] 52)).cell? ⟨wr.heap.size, 1, none⟩ = some (.int .i64 p.edges[k].to) := by go_simp
          have x4' : (wr.alloc (.cells #[.int .i64 p.edges[k].fr, .int .i64 p.edges[k].to] 52)).cell? ⟨w.heap.size, 4, none⟩ = some (.slice (some ⟨b, o, none⟩) p.edges.length c) := by
            rw [World.cell?_alloc_lt _ _ _ (by simp; omega)]; exact x4
          have z1 : wr.heap.size < (wr.alloc (.cells #[.int .i64 p.edges[k].fr, .int .i64 p.edges[k].to] 52)).heap.size := by simp
          have z2 : w.heap.size < (wr.alloc (.cells #[.int .i64 p.edges[k].fr, .int .i64 p.edges[k].to] 52)).heap.size := by simp; omega
          have hrd := (Rd.take (k := k) (c' := c) (h.below hbw) (by omega) hkc)
          have hbase : Below w.heap.size w (wr.alloc (.cells #[.int .i64 p.edges[k].fr, .int .i64 p.edges[k].to] 52)) := hbwa
          have hrd2 : Rd edgeE (wr.alloc (.cells #[.int .i64 p.edges[k].fr, .int .i64 p.edges[k].to] 52)) w.heap.size (.slice (some ⟨b, o, none⟩) k c) (p.edges.take k) := Rd.take (h.below hbase) (by omega) c hkc
          have hlt2 : (p.edges.take k).length ≤ 2000000 := by simp; omega
          clear hrd
          by_cases hmem : p.edges[k] ∈ p.edges.take k
          · have H : Hid (planFault p = 3) := planFault_twice Hm.out hin.out (fun hnd => by
              have h1 : (p.edges.take (k + 1)).Nodup := hnd.sublist (List.take_sublist _ _)
              rw [take_snoc _ k hlt] at h1
              exact (nodup_snoc.1 h1).2 hmem)
            have hmb : decide (p.edges[k] ∈ p.edges.take k) = true := by simpa using hmem
            clear hmem
            go_wp2
            generalize wr.alloc (.cells #[.int .i64 p.edges[k].fr, .int .i64 p.edges[k].to] 52) = W2 at *
            have hlc := later_cell W2
            refine wp_region_pure (by kernel_rfl) (by kernel_rfl) ?_
            repeat (go_big_quiet_step ((go_at_call 71; rename_i x; have h1 := containsEdge_any _ (p.edges.take k) p.edges[k] x.1 hlt2 ((hrd2.below (x.2.mono hbase.size)).more (Nat.le_trans hbase.size x.2.size)); rw [hmb] at h1; exact pure_of h1)))
            refine wpQuiet_nil ?_
            rintro _ ⟨⟨w1, hb1⟩, rfl⟩
            clear hlc
            go_wp2
            go_ret
            exact ⟨ret_int H.out.symm, bnext hbase hb1⟩
          · have S : Hid ((p.edges.take (k + 1)).Nodup) := by
              show (p.edges.take (k + 1)).Nodup
              rw [take_snoc _ k hlt]
              exact nodup_snoc.2 ⟨hok.out, hmem⟩
            have hmb : decide (p.edges[k] ∈ p.edges.take k) = false := by simpa using hmem
            clear hmem
            go_wp2
            generalize wr.alloc (.cells #[.int .i64 p.edges[k].fr, .int .i64 p.edges[k].to] 52) = W2 at *
            have hlc := later_cell W2
            refine wp_region_pure (by kernel_rfl) (by kernel_rfl) ?_
            repeat (go_big_quiet_step ((go_at_call 71; rename_i x; have h1 := containsEdge_any _ (p.edges.take k) p.edges[k] x.1 hlt2 ((hrd2.below (x.2.mono hbase.size)).more (Nat.le_trans hbase.size x.2.size)); rw [hmb] at h1; exact pure_of h1)))
            refine wpQuiet_nil ?_
            rintro _ ⟨⟨w1, hb1⟩, rfl⟩
            clear hlc
            go_wp2
            exact ⟨⟨k + 1, by omega, by go_num, S, hba.trans (hb1.mono hba.size)⟩, by simp [intOf]; omega⟩
        · have hnd : Hid p.edges.Nodup := by
            have h1 := hok.out
            rw [List.take_of_length_le (by omega)] at h1
            exact h1
          clear hok hk hkc
          go_wp2_with fail
          refine (waits_any p (.slice A p.edges.length c) _ Hm.out hin.out ((h.below hbw).more hbw.size)).mono ?_
          rintro e w1 ⟨v1, rfl, o1, hb1⟩
          have hbw1 := bnext hbw hb1
          obtain ⟨T, hT⟩ := Int.eq_ofNat_of_zero_le (show 0 ≤ p.tasks by omega)
          have HT := Lib.hid hT
          have hTT : p.tasks.toNat = T := by omega
          rw [hTT] at o1
          have hT1 : 1 ≤ T := by omega
          have hT2 : T ≤ 12 := by omega
          have hiff := Pg.wrounds_iff (esOf p) T (by rw [← hTT]; exact (esOf_lt hin.out).1) (by rw [← hTT]; exact (esOf_lt hin.out).2)
          have hOl : (Pg.wrounds (esOf p) T (List.replicate T 0)).length = T := by rw [Pg.wrounds_length, List.length_replicate]
          have hcy := Lib.hid (show cyclic p ↔ ∃ t, t < T ∧ Pg.Reach (esOf p) t t by unfold cyclic; rw [hTT])
          have hsm : ∀ x ∈ Pg.wrounds (esOf p) T (List.replicate T 0), x < 2 ^ T := Pg.wrounds_lt T _ _ (by rw [← hTT]; exact (esOf_lt hin.out).2) (fun x hx => by
            have := List.eq_of_mem_replicate hx
            subst this
            exact Nat.two_pow_pos T) T
          generalize Pg.wrounds (esOf p) T (List.replicate T 0) = O at *
          have Hiff := Lib.hid hiff
          have HOl := Lib.hid hOl
          clear hiff hT hTT
          rcases o1.form with ⟨_, e0⟩ | ⟨g, cap, rfl, _, hgl, _, _, _, _⟩
          · exfalso
            rw [e0] at hOl
            simp at hOl
            omega
          rw [hOl] at o1
          rw [hOl]
          clear hOl
          go_wp2
          go_loop [79] (fun i => ∃ k : Nat, k ≤ T ∧ i = .int .i64 k ∧ Hid (∀ j, j < k → (O.getD j 0).testBit j = false)) (fun i => T - (intOf i).toNat)
          case atStart => exact ⟨0, Nat.zero_le _, rfl, fun j hj => absurd hj (by omega)⟩
          case round =>
            obtain ⟨k, hk, rfl, hok⟩ := hrel
            by_cases hlt2 : k < T
            · have ck := o1.nat (k := k) (by rw [HOl.out]; exact hlt2)
              have hkO : k < O.length := by rw [HOl.out]; exact hlt2
              have hx : O[k] < 9223372036854775808 := Nat.lt_of_lt_of_le (hsm _ (List.getElem_mem hkO)) (Nat.le_trans (Nat.pow_le_pow_right (by omega) hT2) (by decide))
              have hbt := bit_test O[k] k hx
              have hg : Hid (O.getD k 0 = O[k]) := by unfold Hid; rw [List.getD_eq_getElem?_getD, List.getElem?_eq_getElem hkO]; rfl
              cases hb2 : O[k].testBit k
              · rw [hb2] at hbt
                have S : Hid (∀ j, j < k + 1 → (O.getD j 0).testBit j = false) := by
                  intro j hj
                  by_cases e : j = k
                  · subst e; rw [hg.out]; exact hb2
                  · exact hok.out j (by omega)
                go_wp2
                exact ⟨⟨k + 1, by omega, by go_num, S⟩, by simp [intOf]; omega⟩
              · rw [hb2] at hbt
                have H : Hid (planFault p = 4) := planFault_cycle Hm.out hin.out hnd.out (hcy.out.2 ⟨k, hlt2, (Hiff.out k k).1 (by rw [hg.out]; exact hb2)⟩)
                go_wp2
                go_ret
                exact ⟨ret_int H.out.symm, hbw1⟩
            · have H : Hid (planFault p = 0) := planFault_zero.2 ⟨Hm.out, hin.out, hnd.out, fun hc => by
                obtain ⟨t, ht, hr⟩ := hcy.out.1 hc
                have h1 := (Hiff.out t t).2 hr
                rw [hok.out t (by omega)] at h1
                cases h1⟩
              go_wp2
              go_ret
              exact ⟨ret_int H.out.symm, hbw1⟩

theorem implPlanFault_any (p : Plan) (ve : Value) (w : World) (hl : p.edges.length ≤ 2000000) (h : Rd edgeE w w.heap.size ve p.edges) :
    Calls Try.prog 55 #[planV p ve] w fun e w' => e = .returned (.int .i64 (planFault p)) ∧ Below w.heap.size w w' := by
  cases hm : manyOk p
  · exact implPlanFault_many p ve w hl h hm
  · exact implPlanFault_ok p ve w h hm
end Go.Proofs.Ytnaicippgocdfaa
end
section
namespace Go.Proofs.Ytnaicippgocdfaa
open Go.RowKit
set_option maxRecDepth 100000
set_option maxHeartbeats 2000000

/-- what t waits for, in order -/
def beforeL (es : List (Nat × Nat)) (T t : Nat) : List Nat := (List.range T).filter fun s => decide ((s, t) ∈ es)
/-- what waits for t, in order -/
def behindL (es : List (Nat × Nat)) (T t : Nat) : List Nat := (List.range T).filter fun s => decide ((t, s) ∈ es)
/-- x if q is in l -/
def onceL (l : List (Nat × Nat)) (q : Nat × Nat) (x : Nat) : List Nat := if q ∈ l then [x] else []
theorem beforeL_succ (es : List (Nat × Nat)) (k t : Nat) : beforeL es (k + 1) t = beforeL es k t ++ onceL es (k, t) k := by
  unfold beforeL onceL
  rw [List.range_succ, List.filter_append]
  by_cases h : (k, t) ∈ es <;> simp [h]
theorem behindL_succ (es : List (Nat × Nat)) (k t : Nat) : behindL es (k + 1) t = behindL es k t ++ onceL es (t, k) k := by
  unfold behindL onceL
  rw [List.range_succ, List.filter_append]
  by_cases h : (t, k) ∈ es <;> simp [h]
theorem beforeL_len (es : List (Nat × Nat)) (T t : Nat) : (beforeL es T t).length ≤ T := by
  have := List.length_filter_le (fun s => decide ((s, t) ∈ es)) (List.range T)
  simpa [beforeL] using this
theorem behindL_len (es : List (Nat × Nat)) (T t : Nat) : (behindL es T t).length ≤ T := by
  have := List.length_filter_le (fun s => decide ((t, s) ∈ es)) (List.range T)
  simpa [behindL] using this
theorem onceL_len (l : List (Nat × Nat)) (q : Nat × Nat) (x : Nat) : (onceL l q x).length ≤ 1 := by
  unfold onceL
  split <;> simp
theorem onceL_yes {l l' : List (Nat × Nat)} {q : Nat × Nat} {x : Nat} (h : l' = l ++ [q]) (hq : q ∉ l) : onceL l' q x = onceL l q x ++ [x] := by
  subst h
  simp [onceL, hq]
theorem onceL_no {l l' : List (Nat × Nat)} {q e : Nat × Nat} {x : Nat} (h : l' = l ++ [e]) (hq : e ≠ q) : onceL l' q x = onceL l q x := by
  subst h
  simp [onceL, Ne.symm hq]
theorem esL_new {p : Plan} (he : edgesIn p) (hn : p.edges.Nodup) {j : Nat} (hj : j < p.edges.length) : (p.edges[j].fr.toNat, p.edges[j].to.toNat) ∉ esL (p.edges.take j) := by
  intro hm
  simp only [esL, List.mem_map] at hm
  obtain ⟨e, hel, hee⟩ := hm
  obtain ⟨i, hi, rfl⟩ := List.getElem_of_mem hel
  have hi2 : i < j := by
    rw [List.length_take] at hi
    omega
  rw [List.getElem_take] at hee
  have h1 := edgesIn_get he (k := i) (by omega)
  have h2 := edgesIn_get he hj
  simp only [Prod.mk.injEq] at hee
  have e1 : p.edges[i].fr = p.edges[j].fr := by omega
  have e2 : p.edges[i].to = p.edges[j].to := by omega
  have : p.edges[i] = p.edges[j] := by
    cases hx : p.edges[i]; cases hy : p.edges[j]
    rw [hx, hy] at e1 e2
    simp only at e1 e2
    rw [e1, e2]
  exact List.pairwise_iff_getElem.1 hn i j (by omega) hj hi2 this

theorem specBefore_any (p : Plan) (ve : Value) (t : Nat) (w : World) (hm : manyOk p = true) (he : edgesIn p) (hn : p.edges.Nodup) (h : Rd edgeE w w.heap.size ve p.edges) :
    Calls Try.prog 60 #[planV p ve, .int .i64 (t : Int)] w fun e w' => ∃ v, e = .returned v ∧ Ow natE 3 w' w.heap.size v (beforeL (esOf p) p.tasks.toNat t) ∧ Below w.heap.size w w' := by
  obtain ⟨A, c, rfl, -⟩ := id h
  obtain ⟨t1, t2⟩ := manyOk_tasks hm
  have hlen := manyOk_edges hm
  obtain ⟨T, hT⟩ := Int.eq_ofNat_of_zero_le (show 0 ≤ p.tasks by omega)
  have HT := Lib.hid hT
  have HTn := Lib.hid (show p.tasks.toNat = T by omega)
  have hT12 : T ≤ 12 := by omega
  clear hT
  obtain ⟨j0, hj0, jz0, jz1, jz2⟩ := info_parts int_info
  unfold planV
  go_enter Try.func60, Try.ntmps60
  go_wp2
  go_loopw [5, 6] (fun vl i wr => ∃ k : Nat, k ≤ T ∧ i = .int .i64 k ∧ Ow natE 3 wr (w.heap.size + 1) vl (beforeL (esOf p) k t) ∧ BoxAt w.heap.size p (.slice A p.edges.length c) wr ∧ Below w.heap.size w wr) (fun _ i _ => T - (intOf i).toNat)
  case atStart =>
    have D := BoxAt.new 26 p (.slice A p.edges.length c) w
    refine ⟨0, Nat.zero_le _, rfl, ?_, D.below ((Below.refl _ _).alloc (Nat.le_refl _) _), ?_⟩
    · exact (Ow.empty natE 3 (planBox 26 p (.slice A p.edges.length c) w) (g := w.heap.size + 1) (by rw [planBox_size]))
    · repeat (first | exact Below.refl _ _ | refine Below.alloc ?_ (by simp <;> omega) _)
  case round =>
    obtain ⟨k, hk, rfl, ho, D, hb⟩ := hrel
    obtain ⟨x0, x1, x2, x3, x4, xs⟩ := D.cells
    by_cases hlt : k < T
    · have hltI : (k : Int) < p.tasks := by rw [HT.out]; omega
      obtain ⟨wo, rfl⟩ : ∃ wo : World, wo = wr := ⟨_, rfl⟩
      go_wp2
      clear x0 x1 x2 x3 x4 xs
      go_loopw [5, 7] (fun vl i wr => ∃ j : Nat, j ≤ p.edges.length ∧ i = .int .i64 j ∧ Ow natE 3 wr (w.heap.size + 1) vl (beforeL (esOf p) k t ++ onceL (esL (p.edges.take j)) (k, t) k) ∧ BoxAt w.heap.size p (.slice A p.edges.length c) wr ∧ Below w.heap.size w wr) (fun _ i _ => p.edges.length - (intOf i).toNat)
      case atStart => exact ⟨0, Nat.zero_le _, rfl, by simpa [onceL, esL] using ho, D, hb⟩
      case round =>
        clear ho D hb
        obtain ⟨j, hj, rfl, ho, D, hb⟩ := hrel
        obtain ⟨x0, x1, x2, x3, x4, xs⟩ := D.cells
        by_cases hjt : j < p.edges.length
        · have hjI : (j : Int) < (p.edges.length : Int) := by omega
          obtain ⟨b, o, rfl, hbb, c0, c1⟩ := (h.below hb).edge hjt
          obtain ⟨f1, f2, f3, f4⟩ := edgesIn_get he hjt
          have htk := Lib.hid (show esL (p.edges.take (j + 1)) = esL (p.edges.take j) ++ [(p.edges[j].fr.toNat, p.edges[j].to.toNat)] by unfold esL; rw [take_snoc _ j hjt, List.map_append]; rfl)
          have hnew := Lib.hid (esL_new he hn hjt)
          generalize p.edges[j].fr = fx at *
          generalize p.edges[j].to = tx at *
          obtain ⟨a, rfl⟩ := Int.eq_ofNat_of_zero_le f1
          obtain ⟨d, rfl⟩ := Int.eq_ofNat_of_zero_le f3
          simp only [Int.toNat_natCast] at htk hnew
          by_cases hxy : a = k ∧ d = t
          · obtain ⟨e1, e2⟩ := hxy
            subst e1
            subst e2
            have S := Lib.hid (onceL_yes (l := esL (p.edges.take j)) (l' := esL (p.edges.take (j + 1))) (q := (a, d)) (x := a) htk.out hnew.out)
            have Hl := Lib.hid (show (beforeL (esOf p) a d ++ onceL (esL (p.edges.take j)) (a, d) a).length ≤ 3000000 by
              have h1 := beforeL_len (esOf p) a d
              have h2 := onceL_len (esL (p.edges.take j)) (a, d) a
              rw [List.length_append]
              omega)
            have hab : ((a : Int) == (a : Int)) = true := by simp
            have hab2 : ((d : Int) == (d : Int)) = true := by simp
            have ha : Hid (∀ w : World, Below w.heap.size w (w.alloc (.cells #[.int .i64 (a : Int)] 3))) := fun w => (Below.refl _ _).alloc (Nat.le_refl _) _
            go_wp2_with (at_builtin; refine wpList_push_all _ natE (by decide) rfl (.tmp 40) (.tmp 42) rfl Try.underlying27 hj0 jz0 jz1 jz2 rfl (l := beforeL (esOf p) a d ++ onceL (esL (p.edges.take j)) (a, d) a) rfl (ho.below (ha.out wr)) rfl (Rd.one natE _ _ a rfl rfl 1 (Nat.le_refl _) (Nat.lt_succ_self _)) Hl.out (by simp) (by decide) (by simp; omega) ?_; intro v5 w5 o5 g5 _)
            have D5 := (D.below (ha.out wr)).far g5 (fun e => by have := ho.within _ e.symm; omega)
            have hb' := bnext hb (ha.out wr)
            have W5 := hb'.grown g5 hb'.size (fun g hg => by have := ho.within _ hg; omega)
            refine ⟨⟨j + 1, by omega, by go_num, ?_, D5, W5⟩, by simp [intOf]; omega⟩
            rw [S.out, ← List.append_assoc]
            exact o5
          · have S := Lib.hid (onceL_no (l := esL (p.edges.take j)) (l' := esL (p.edges.take (j + 1))) (q := (k, t)) (e := (a, d)) (x := k) htk.out (fun e => hxy (by simp only [Prod.mk.injEq] at e; omega)))
            have hout : ∀ w', Below wr.heap.size wr w' → (∃ j_1 : Nat, j_1 ≤ p.edges.length ∧ Value.int .i64 ((j : Int) + 1) = Value.int .i64 (j_1 : Int) ∧ Ow natE 3 w' (w.heap.size + 1) u5 (beforeL (esOf p) k t ++ onceL (esL (p.edges.take j_1)) (k, t) k) ∧ BoxAt w.heap.size p (.slice (some ⟨b, o, none⟩) p.edges.length c) w' ∧ Below w.heap.size w w') := fun w' hw' => ⟨j + 1, by omega, by go_num, by rw [S.out]; exact ho.below hw', D.below hw', bnext hb hw'⟩
            have Hout := Lib.hid hout
            clear hout
            by_cases hfa : a = k
            · have hab : ((a : Int) == ((k : Nat) : Int)) = true := by simp [hfa]
              have hdb : ((d : Int) == ((t : Nat) : Int)) = false := beq_eq_false_iff_ne.2 (by omega)
              clear hfa hxy
              go_wp2
              exact ⟨Hout.out _ (Below.refl _ _), by simp [intOf]; omega⟩
            · have hab : ((a : Int) == ((k : Nat) : Int)) = false := beq_eq_false_iff_ne.2 (by omega)
              clear hfa hxy
              go_wp2
              exact ⟨Hout.out _ (Below.refl _ _), by simp [intOf]; omega⟩
        · have hjI : ¬ (j : Int) < (p.edges.length : Int) := by omega
          have hj' : j = p.edges.length := by omega
          subst hj'
          rw [List.take_length] at ho
          have S := Lib.hid (beforeL_succ (esOf p) k t)
          go_wp2
          exact ⟨⟨k + 1, by omega, by go_num, by rw [S.out]; exact ho, D, hb⟩, by simp [intOf]; omega⟩
    · have hltI : ¬ (k : Int) < p.tasks := by rw [HT.out]; omega
      have hk' : k = T := by omega
      subst hk'
      go_wp2
      go_ret
      refine ⟨_, rfl, ?_, hb⟩
      rw [HTn.out]
      exact ho.more (by omega)

theorem specBehind_any (p : Plan) (ve : Value) (t : Nat) (w : World) (hm : manyOk p = true) (he : edgesIn p) (hn : p.edges.Nodup) (h : Rd edgeE w w.heap.size ve p.edges) :
    Calls Try.prog 58 #[planV p ve, .int .i64 (t : Int)] w fun e w' => ∃ v, e = .returned v ∧ Ow natE 3 w' w.heap.size v (behindL (esOf p) p.tasks.toNat t) ∧ Below w.heap.size w w' := by
  obtain ⟨A, c, rfl, -⟩ := id h
  obtain ⟨t1, t2⟩ := manyOk_tasks hm
  have hlen := manyOk_edges hm
  obtain ⟨T, hT⟩ := Int.eq_ofNat_of_zero_le (show 0 ≤ p.tasks by omega)
  have HT := Lib.hid hT
  have HTn := Lib.hid (show p.tasks.toNat = T by omega)
  have hT12 : T ≤ 12 := by omega
  clear hT
  obtain ⟨j0, hj0, jz0, jz1, jz2⟩ := info_parts int_info
  unfold planV
  go_enter Try.func58, Try.ntmps58
  go_wp2
  go_loopw [5, 6] (fun vl i wr => ∃ k : Nat, k ≤ T ∧ i = .int .i64 k ∧ Ow natE 3 wr (w.heap.size + 1) vl (behindL (esOf p) k t) ∧ BoxAt w.heap.size p (.slice A p.edges.length c) wr ∧ Below w.heap.size w wr) (fun _ i _ => T - (intOf i).toNat)
  case atStart =>
    have D := BoxAt.new 26 p (.slice A p.edges.length c) w
    refine ⟨0, Nat.zero_le _, rfl, ?_, D.below ((Below.refl _ _).alloc (Nat.le_refl _) _), ?_⟩
    · exact (Ow.empty natE 3 (planBox 26 p (.slice A p.edges.length c) w) (g := w.heap.size + 1) (by rw [planBox_size]))
    · repeat (first | exact Below.refl _ _ | refine Below.alloc ?_ (by simp <;> omega) _)
  case round =>
    obtain ⟨k, hk, rfl, ho, D, hb⟩ := hrel
    obtain ⟨x0, x1, x2, x3, x4, xs⟩ := D.cells
    by_cases hlt : k < T
    · have hltI : (k : Int) < p.tasks := by rw [HT.out]; omega
      obtain ⟨wo, rfl⟩ : ∃ wo : World, wo = wr := ⟨_, rfl⟩
      go_wp2
      clear x0 x1 x2 x3 x4 xs
      go_loopw [5, 7] (fun vl i wr => ∃ j : Nat, j ≤ p.edges.length ∧ i = .int .i64 j ∧ Ow natE 3 wr (w.heap.size + 1) vl (behindL (esOf p) k t ++ onceL (esL (p.edges.take j)) (t, k) k) ∧ BoxAt w.heap.size p (.slice A p.edges.length c) wr ∧ Below w.heap.size w wr) (fun _ i _ => p.edges.length - (intOf i).toNat)
      case atStart => exact ⟨0, Nat.zero_le _, rfl, by simpa [onceL, esL] using ho, D, hb⟩
      case round =>
        clear ho D hb
        obtain ⟨j, hj, rfl, ho, D, hb⟩ := hrel
        obtain ⟨x0, x1, x2, x3, x4, xs⟩ := D.cells
        by_cases hjt : j < p.edges.length
        · have hjI : (j : Int) < (p.edges.length : Int) := by omega
          obtain ⟨b, o, rfl, hbb, c0, c1⟩ := (h.below hb).edge hjt
          obtain ⟨f1, f2, f3, f4⟩ := edgesIn_get he hjt
          have htk := Lib.hid (show esL (p.edges.take (j + 1)) = esL (p.edges.take j) ++ [(p.edges[j].fr.toNat, p.edges[j].to.toNat)] by unfold esL; rw [take_snoc _ j hjt, List.map_append]; rfl)
          have hnew := Lib.hid (esL_new he hn hjt)
          generalize p.edges[j].fr = fx at *
          generalize p.edges[j].to = tx at *
          obtain ⟨a, rfl⟩ := Int.eq_ofNat_of_zero_le f1
          obtain ⟨d, rfl⟩ := Int.eq_ofNat_of_zero_le f3
          simp only [Int.toNat_natCast] at htk hnew
          by_cases hxy : d = k ∧ a = t
          · obtain ⟨e1, e2⟩ := hxy
            subst e1
            subst e2
            have S := Lib.hid (onceL_yes (l := esL (p.edges.take j)) (l' := esL (p.edges.take (j + 1))) (q := (a, d)) (x := d) htk.out hnew.out)
            have Hl := Lib.hid (show (behindL (esOf p) d a ++ onceL (esL (p.edges.take j)) (a, d) d).length ≤ 3000000 by
              have h1 := behindL_len (esOf p) d a
              have h2 := onceL_len (esL (p.edges.take j)) (a, d) d
              rw [List.length_append]
              omega)
            have hab : ((d : Int) == (d : Int)) = true := by simp
            have hab2 : ((a : Int) == (a : Int)) = true := by simp
            have ha : Hid (∀ w : World, Below w.heap.size w (w.alloc (.cells #[.int .i64 (d : Int)] 3))) := fun w => (Below.refl _ _).alloc (Nat.le_refl _) _
            go_wp2_with (at_builtin; refine wpList_push_all _ natE (by decide) rfl (.tmp 40) (.tmp 42) rfl Try.underlying27 hj0 jz0 jz1 jz2 rfl (l := behindL (esOf p) d a ++ onceL (esL (p.edges.take j)) (a, d) d) rfl (ho.below (ha.out wr)) rfl (Rd.one natE _ _ d rfl rfl 1 (Nat.le_refl _) (Nat.lt_succ_self _)) Hl.out (by simp) (by decide) (by simp; omega) ?_; intro v5 w5 o5 g5 _)
            have D5 := (D.below (ha.out wr)).far g5 (fun e => by have := ho.within _ e.symm; omega)
            have hb' := bnext hb (ha.out wr)
            have W5 := hb'.grown g5 hb'.size (fun g hg => by have := ho.within _ hg; omega)
            refine ⟨⟨j + 1, by omega, by go_num, ?_, D5, W5⟩, by simp [intOf]; omega⟩
            rw [S.out, ← List.append_assoc]
            exact o5
          · have S := Lib.hid (onceL_no (l := esL (p.edges.take j)) (l' := esL (p.edges.take (j + 1))) (q := (t, k)) (e := (a, d)) (x := k) htk.out (fun e => hxy (by simp only [Prod.mk.injEq] at e; omega)))
            have hout : ∀ w', Below wr.heap.size wr w' → (∃ j_1 : Nat, j_1 ≤ p.edges.length ∧ Value.int .i64 ((j : Int) + 1) = Value.int .i64 (j_1 : Int) ∧ Ow natE 3 w' (w.heap.size + 1) u5 (behindL (esOf p) k t ++ onceL (esL (p.edges.take j_1)) (t, k) k) ∧ BoxAt w.heap.size p (.slice (some ⟨b, o, none⟩) p.edges.length c) w' ∧ Below w.heap.size w w') := fun w' hw' => ⟨j + 1, by omega, by go_num, by rw [S.out]; exact ho.below hw', D.below hw', bnext hb hw'⟩
            have Hout := Lib.hid hout
            clear hout
            by_cases hfa : a = t
            · have hab : ((a : Int) == ((t : Nat) : Int)) = true := by simp [hfa]
              have hdb : ((d : Int) == ((k : Nat) : Int)) = false := beq_eq_false_iff_ne.2 (by omega)
              clear hfa hxy
              go_wp2
              exact ⟨Hout.out _ (Below.refl _ _), by simp [intOf]; omega⟩
            · have hab : ((a : Int) == ((t : Nat) : Int)) = false := beq_eq_false_iff_ne.2 (by omega)
              clear hfa hxy
              go_wp2
              exact ⟨Hout.out _ (Below.refl _ _), by simp [intOf]; omega⟩
        · have hjI : ¬ (j : Int) < (p.edges.length : Int) := by omega
          have hj' : j = p.edges.length := by omega
          subst hj'
          rw [List.take_length] at ho
          have S := Lib.hid (behindL_succ (esOf p) k t)
          go_wp2
          exact ⟨⟨k + 1, by omega, by go_num, by rw [S.out]; exact ho, D, hb⟩, by simp [intOf]; omega⟩
    · have hltI : ¬ (k : Int) < p.tasks := by rw [HT.out]; omega
      have hk' : k = T := by omega
      subst hk'
      go_wp2
      go_ret
      refine ⟨_, rfl, ?_, hb⟩
      rw [HTn.out]
      exact ho.more (by omega)
end Go.Proofs.Ytnaicippgocdfaa
end
section
namespace Go.Proofs.Ytnaicippgocdfaa
open Go.RowKit

/-- t may come next behind those of out -/
def mayCome (es : List (Nat × Nat)) (out : List Nat) (t : Nat) : Bool := !decide (t ∈ out) && es.all fun e => !decide (e.2 = t) || decide (e.1 ∈ out)
def pickT (es : List (Nat × Nat)) (T : Nat) (out : List Nat) : Option Nat := (List.range T).find? (mayCome es out)
/-- the first n tasks of the order -/
def orderL (es : List (Nat × Nat)) (T : Nat) : Nat → List Nat
  | 0 => []
  | n + 1 => match pickT es T (orderL es T n) with
    | some t => orderL es T n ++ [t]
    | none => orderL es T n

theorem mayCome_iff {es : List (Nat × Nat)} {out : List Nat} {t : Nat} : mayCome es out t = true ↔ t ∉ out ∧ ∀ s, (s, t) ∈ es → s ∈ out := by
  unfold mayCome
  simp only [Bool.and_eq_true, Bool.not_eq_true', decide_eq_false_iff_not, List.all_eq_true, Bool.or_eq_true, decide_eq_true_eq, Prod.forall]
  constructor
  · rintro ⟨h1, h2⟩
    refine ⟨h1, fun s hs => ?_⟩
    rcases h2 s t hs with h | h
    · exact absurd rfl h
    · exact h
  · rintro ⟨h1, h2⟩
    refine ⟨h1, fun a b hab => ?_⟩
    by_cases hb : b = t
    · subst hb; exact .inr (h2 a hab)
    · exact .inl hb

theorem Way.lower {es : List (Nat × Nat)} {b : Nat} {U : Nat → Prop} (hU : ∀ u, U u → ∃ v, U v ∧ (v, u) ∈ es) (hb : U b) : ∀ n, ∃ a l, U a ∧ l.length = n ∧ Pg.Way es a l b ∧ ∀ x ∈ a :: l, U x
  | 0 => ⟨b, [], hb, rfl, .nil b, by simpa using hb⟩
  | n + 1 => by
    obtain ⟨a, l, ha, hl, hw, hx⟩ := Way.lower hU hb n
    obtain ⟨v, hv, he⟩ := hU a ha
    refine ⟨v, a :: l, hv, by simp [hl], .cons he hw, ?_⟩
    intro x hx'
    rcases List.mem_cons.1 hx' with rfl | h
    · exact hv
    · exact hx x h

theorem Way.head {es : List (Nat × Nat)} : ∀ {a x b : Nat} (l1 : List Nat) {l2 : List Nat}, Pg.Way es a (l1 ++ x :: l2) b → Pg.Way es a (l1 ++ [x]) x
  | _, _, _, [], _, h => by cases h with | cons h1 _ => exact .cons h1 (.nil _)
  | _, _, _, _ :: l1, _, h => by cases h with | cons h1 h2 => exact .cons h1 (Way.head l1 h2)

theorem Way.turn {es : List (Nat × Nat)} {b : Nat} : ∀ (l : List Nat) {a : Nat}, Pg.Way es a l b → ¬ (a :: l).Nodup → ∃ x ∈ a :: l, Pg.Reach es x x
  | [], a, _, h => absurd (by simp) h
  | c :: l, a, hw, hn => by
    by_cases ha : a ∈ c :: l
    · obtain ⟨l1, l2, he⟩ := List.append_of_mem ha
      rw [he] at hw
      exact ⟨a, by simp, l1 ++ [a], by simp, Way.head l1 hw⟩
    · have hn2 : ¬ (c :: l).Nodup := fun h => hn (List.nodup_cons.2 ⟨ha, h⟩)
      cases hw with
      | cons h1 h2 =>
        obtain ⟨x, hx, hr⟩ := Way.turn l h2 hn2
        exact ⟨x, List.mem_cons_of_mem _ hx, hr⟩

theorem pick_some {es : List (Nat × Nat)} {T : Nat} {out : List Nat} (h1 : ∀ e ∈ es, e.1 < T) (hac : ∀ t, t < T → ¬ Pg.Reach es t t) (hlt : ∃ t, t < T ∧ t ∉ out) : ∃ t, pickT es T out = some t ∧ t < T ∧ mayCome es out t = true := by
  cases hp : pickT es T out with
  | some t =>
    have hm := List.find?_some hp
    have hr := List.mem_of_find?_eq_some hp
    exact ⟨t, rfl, by simpa using hr, hm⟩
  | none =>
    exfalso
    unfold pickT at hp
    rw [List.find?_eq_none] at hp
    obtain ⟨t, htT, hto⟩ := hlt
    have hU : ∀ u, (u < T ∧ u ∉ out) → ∃ v, (v < T ∧ v ∉ out) ∧ (v, u) ∈ es := by
      rintro u ⟨hu, huo⟩
      have hno := hp u (by simpa using hu)
      rw [mayCome_iff] at hno
      have : ¬ ∀ s, (s, u) ∈ es → s ∈ out := fun h => hno ⟨huo, h⟩
      obtain ⟨s, hs'⟩ := Classical.not_forall.1 this
      obtain ⟨hs, hso⟩ := Classical.not_imp.1 hs'
      exact ⟨s, ⟨h1 _ hs, hso⟩, hs⟩
    obtain ⟨a, l, _, hl, hw, hx⟩ := Way.lower (U := fun u => u < T ∧ u ∉ out) hU ⟨htT, hto⟩ T
    have hnn : ¬ (a :: l).Nodup := fun hn => by
      have := Pg.nodup_le T (a :: l) hn (fun x hx' => (hx x hx').1)
      simp only [List.length_cons] at this
      omega
    obtain ⟨x, hx', hr⟩ := Way.turn l hw hnn
    exact hac x (hx x hx').1 hr

/-- what holds of the first tasks of the order -/
structure OrderInv (es : List (Nat × Nat)) (T n : Nat) (o : List Nat) : Prop where
  len : o.length = n
  nodup : o.Nodup
  lt : ∀ x ∈ o, x < T
  closed : ∀ i (h : i < o.length) s, (s, o[i]) ∈ es → s ∈ o.take i

theorem all_le : ∀ (T : Nat) (o : List Nat), (∀ t, t < T → t ∈ o) → T ≤ o.length
  | 0, _, _ => Nat.zero_le _
  | T + 1, o, h => by
    have h1 := all_le T (o.erase T) (fun t ht => (List.mem_erase_of_ne (by omega)).2 (h t (by omega)))
    have h2 := h T (by omega)
    have h3 := List.length_pos_of_mem h2
    rw [List.length_erase_of_mem h2] at h1
    omega
theorem exists_out {T : Nat} {o : List Nat} (hl : o.length < T) : ∃ t, t < T ∧ t ∉ o := by
  refine Classical.byContradiction fun h => ?_
  have := all_le T o (fun t ht => Classical.byContradiction fun hn => h ⟨t, ht, hn⟩)
  omega

theorem orderL_inv {es : List (Nat × Nat)} {T : Nat} (h1 : ∀ e ∈ es, e.1 < T) (hac : ∀ t, t < T → ¬ Pg.Reach es t t) : ∀ n, n ≤ T → OrderInv es T n (orderL es T n)
  | 0, _ => ⟨rfl, by simp [orderL], by simp [orderL], fun i h => absurd h (by simp [orderL])⟩
  | n + 1, hn => by
    have ih := orderL_inv h1 hac n (by omega)
    obtain ⟨t, hp, htT, hm⟩ := pick_some h1 hac (exists_out (T := T) (o := orderL es T n) (by rw [ih.len]; omega))
    obtain ⟨m1, m2⟩ := mayCome_iff.1 hm
    have he : orderL es T (n + 1) = orderL es T n ++ [t] := by
      show (match pickT es T (orderL es T n) with | some t => orderL es T n ++ [t] | none => orderL es T n) = _
      rw [hp]
    rw [he]
    refine ⟨by simp [ih.len], nodup_snoc.2 ⟨ih.nodup, m1⟩, ?_, ?_⟩
    · intro x hx
      rcases List.mem_append.1 hx with h | h
      · exact ih.lt x h
      · rw [List.mem_singleton.1 h]; exact htT
    · intro i hi s hs
      simp only [List.length_append, List.length_singleton] at hi
      by_cases hin : i < (orderL es T n).length
      · rw [List.getElem_append_left hin] at hs
        rw [List.take_append_of_le_length (by omega)]
        exact ih.closed i hin s hs
      · have hi' : i = (orderL es T n).length := by omega
        subst hi'
        rw [List.getElem_append_right (by omega)] at hs
        simp only [Nat.sub_self, List.getElem_cons_zero] at hs
        rw [List.take_append_of_le_length (Nat.le_refl _), List.take_length]
        exact m2 s hs

theorem orderL_succ {es : List (Nat × Nat)} {T n t : Nat} (hp : pickT es T (orderL es T n) = some t) : orderL es T (n + 1) = orderL es T n ++ [t] := by
  show (match pickT es T (orderL es T n) with | some t => orderL es T n ++ [t] | none => orderL es T n) = _
  rw [hp]
theorem pickT_first {es : List (Nat × Nat)} {T t : Nat} {out : List Nat} (htT : t < T) (hm : mayCome es out t = true) (hno : ∀ s, s < t → mayCome es out s = false) : pickT es T out = some t := by
  unfold pickT
  rw [List.find?_eq_some_iff_getElem]
  refine ⟨hm, t, by simpa using htT, by simp, fun j hj => ?_⟩
  simp [hno j hj]
end Go.Proofs.Ytnaicippgocdfaa
end
section
namespace Go.Proofs.Ytnaicippgocdfaa
open Go.RowKit
set_option maxRecDepth 100000
set_option maxHeartbeats 1000000

theorem idxOf_any {α : Type} {p : α → Bool} {l : List α} : (0 ≤ idxOf p l) ↔ ∃ x ∈ l, p x = true := by
  unfold idxOf
  cases h : l.findIdx? p with
  | none =>
    rw [List.findIdx?_eq_none_iff] at h
    simp only
    refine ⟨fun h => absurd h (by omega), ?_⟩
    rintro ⟨x, hx, hp⟩
    have := h x hx
    rw [hp] at this
    cases this
  | some i =>
    rw [List.findIdx?_eq_some_iff_getElem] at h
    obtain ⟨hi, hp, _⟩ := h
    simp only
    exact ⟨fun _ => ⟨_, List.getElem_mem hi, hp⟩, fun _ => by omega⟩

theorem indexInt_any (v : Value) (l : List Nat) (x : Nat) (B : Nat) (w : World) (hl : l.length ≤ 2000000) (h : Rd natE w B v l) :
    Calls Try.prog 80 #[v, .int .i64 (x : Int)] w fun e w' => e = .returned (.int .i64 (idxOf (fun y => decide (x = y)) l)) ∧ w = w' := by
  obtain ⟨A, c, rfl, -⟩ := id h
  go_enter Try.func80, Try.ntmps80
  go_wp2
  go_loop [8] (fun i => ∃ k : Nat, k ≤ l.length ∧ i = .int .i64 k ∧ Hid (∀ j (hj : j < k) (hj' : j < l.length), decide (x = l[j]) = false)) (fun i => l.length - (intOf i).toNat)
  case atStart => exact ⟨0, Nat.zero_le _, rfl, fun j hj => absurd hj (by omega)⟩
  case round =>
    obtain ⟨k, hk, rfl, hno⟩ := hrel
    by_cases hlt : k < l.length
    · obtain ⟨b, o, rfl, hbb, c0⟩ := h.nat hlt
      have hltI : (k : Int) < (l.length : Int) := by omega
      by_cases hx : x = l[k]
      · have H := Lib.hid (idxOf_found (p := fun y => decide (x = y)) hlt (fun j hj => hno.out j hj (by omega)) (show decide (x = l[k]) = true by simp [hx]))
        have hxb : ((x : Int) == (l[k] : Int)) = true := by simp [hx]
        clear hx
        go_wp2
        go_ret
        exact ⟨ret_int (by rw [H.out]), rfl⟩
      · have hxb : ((x : Int) == (l[k] : Int)) = false := beq_eq_false_iff_ne.2 (by omega)
        have S : Hid (∀ j (hj : j < k + 1) (hj' : j < l.length), decide (x = l[j]) = false) := by
          intro j hj hj'
          by_cases e : j = k
          · subst e; simpa using hx
          · exact hno.out j (by omega) hj'
        clear hx
        go_wp2
        exact ⟨⟨k + 1, by omega, by go_num, S⟩, by simp [intOf]; omega⟩
    · have hltI : ¬ (k : Int) < (l.length : Int) := by omega
      have H := Lib.hid (idxOf_none (p := fun y => decide (x = y)) (l := l) (fun j hj => hno.out j (by omega) hj))
      go_wp2
      go_ret
      exact ⟨ret_int (by rw [H.out]), rfl⟩

theorem containsInt_any (v : Value) (l : List Nat) (x : Nat) (B : Nat) (w : World) (hl : l.length ≤ 2000000) (h : Rd natE w B v l) :
    Calls Try.prog 75 #[v, .int .i64 (x : Int)] w fun e w' => e = .returned (.bool (decide (x ∈ l))) ∧ w = w' := by
  have H := Lib.hid (show decide (0 ≤ idxOf (fun y => decide (x = y)) l) = decide (x ∈ l) from decide_eq_decide.2 (idxOf_any.trans (by simp)))
  go_enter Try.func75, Try.ntmps75
  go_wp2_with fail
  refine (indexInt_any v l x B _ hl h).mono ?_
  rintro e w1 ⟨rfl, rfl⟩
  go_wp2_with fail
  go_ret
  exact ⟨ret_bool (by rw [← H.out]), rfl⟩

theorem allIn1_any (x : Nat) (q B : Nat) (vl : Value) (l : List Nat) (w : World) (hl : l.length ≤ 2000000) (hq : w.cell? ⟨q, 0, none⟩ = some vl) (h : Rd natE w B vl l) :
    Calls Try.prog 82 #[.int .i64 (x : Int), .pointer (some ⟨q, 0, none⟩)] w fun e w' => e = .returned (.bool (!decide (x ∈ l))) ∧ w = w' := by
  obtain ⟨A, c, rfl, -⟩ := id h
  go_enter Try.func82, Try.ntmps82
  go_wp2_with fail
  refine (containsInt_any _ l x B _ hl h).mono ?_
  rintro e w1 ⟨rfl, rfl⟩
  go_wp2_with fail
  go_ret
  exact ⟨rfl, rfl⟩

theorem indexFuncAll_any (v : Value) (s : List Nat) (q B B' : Nat) (vl : Value) (l : List Nat) (w : World) (hl : l.length ≤ 2000000) (hs : s.length ≤ 2000000) (h : Rd natE w B v s) (hq : w.cell? ⟨q, 0, none⟩ = some vl) (h' : Rd natE w B' vl l) :
    Calls Try.prog 94 #[v, .func (.func 82) #[] #[.pointer (some ⟨q, 0, none⟩)]] w
      fun e w' => e = .returned (.int .i64 (idxOf (fun x => !decide (x ∈ l)) s)) ∧ w = w' := by
  obtain ⟨A, c, rfl, -⟩ := id h
  go_enter Try.func94, Try.ntmps94
  go_wp2
  go_loop [8] (fun i => ∃ k : Nat, k ≤ s.length ∧ i = .int .i64 k ∧ Hid (∀ j (hj : j < k) (hj' : j < s.length), (!decide (s[j] ∈ l)) = false)) (fun i => s.length - (intOf i).toNat)
  case atStart => exact ⟨0, Nat.zero_le _, rfl, fun j hj => absurd hj (by omega)⟩
  case round =>
    obtain ⟨k, hk, rfl, hno⟩ := hrel
    by_cases hlt : k < s.length
    · obtain ⟨b, o, rfl, hbb, c0⟩ := h.nat hlt
      have hltI : (k : Int) < (s.length : Int) := by omega
      cases t1 : !decide (s[k] ∈ l)
      · have S : Hid (∀ j (hj : j < k + 1) (hj' : j < s.length), (!decide (s[j] ∈ l)) = false) := by
          intro j hj hj'
          by_cases e : j = k
          · subst e; exact t1
          · exact hno.out j (by omega) hj'
        have T1 := Lib.hid t1
        clear t1
        go_wp2_with (go_at_call 82; refine (allIn1_any s[k] q B' vl l _ hl hq h').mono ?_; rintro e w1 ⟨rfl, rfl⟩; rw [T1.out])
        exact ⟨⟨k + 1, by omega, by go_num, S⟩, by simp [intOf]; omega⟩
      · have H := Lib.hid (idxOf_found (p := fun x => !decide (x ∈ l)) hlt (fun j hj => hno.out j hj (by omega)) t1)
        have T1 := Lib.hid t1
        clear t1
        go_wp2_with (go_at_call 82; refine (allIn1_any s[k] q B' vl l _ hl hq h').mono ?_; rintro e w1 ⟨rfl, rfl⟩; rw [T1.out])
        go_ret
        exact ⟨ret_int (by rw [H.out]), rfl⟩
    · have hltI : ¬ (k : Int) < (s.length : Int) := by omega
      have H := Lib.hid (idxOf_none (p := fun x => !decide (x ∈ l)) (l := s) (fun j hj => hno.out j (by omega) hj))
      go_wp2
      go_ret
      exact ⟨ret_int (by rw [H.out]), rfl⟩

theorem containsFuncAll_any (v : Value) (s : List Nat) (q B B' : Nat) (vl : Value) (l : List Nat) (w : World) (hl : l.length ≤ 2000000) (hs : s.length ≤ 2000000) (h : Rd natE w B v s) (hq : w.cell? ⟨q, 0, none⟩ = some vl) (h' : Rd natE w B' vl l) :
    Calls Try.prog 81 #[v, .func (.func 82) #[] #[.pointer (some ⟨q, 0, none⟩)]] w
      fun e w' => e = .returned (.bool (!decide (∀ x ∈ s, x ∈ l))) ∧ w = w' := by
  have H := Lib.hid (show decide (0 ≤ idxOf (fun x => !decide (x ∈ l)) s) = !decide (∀ x ∈ s, x ∈ l) by
    rw [← decide_not]
    refine decide_eq_decide.2 (idxOf_any.trans ?_)
    simp only [Bool.not_eq_true', decide_eq_false_iff_not, Classical.not_forall, exists_prop])
  go_enter Try.func81, Try.ntmps81
  go_wp2_with fail
  refine (indexFuncAll_any v s q B B' vl l _ hl hs h hq h').mono ?_
  rintro e w1 ⟨rfl, rfl⟩
  go_wp2_with fail
  go_ret
  exact ⟨ret_bool (by rw [← H.out]), rfl⟩

theorem allIn_any (v : Value) (s : List Nat) (vl : Value) (l : List Nat) (w : World) (hl : l.length ≤ 2000000) (hs : s.length ≤ 2000000) (h : Rd natE w w.heap.size v s) (h' : Rd natE w w.heap.size vl l) :
    Calls Try.prog 76 #[v, vl] w fun e w' => e = .returned (.bool (decide (∀ x ∈ s, x ∈ l))) ∧ Below w.heap.size w w' := by
  obtain ⟨A, c, rfl, -⟩ := id h'
  have hb0 : Below w.heap.size w (w.alloc (.cells #[.slice A l.length c] 27)) := (Below.refl _ _).alloc (Nat.le_refl _) _
  go_enter Try.func76, Try.ntmps76
  go_wp2_with fail
  refine (containsFuncAll_any v s w.heap.size w.heap.size w.heap.size (.slice A l.length c) l _ hl hs (h.below hb0) (by go_simp) (h'.below hb0)).mono ?_
  rintro e w1 ⟨rfl, rfl⟩
  go_wp2_with fail
  go_ret
  exact ⟨ret_bool (by simp), hb0⟩
end Go.Proofs.Ytnaicippgocdfaa
end
section
namespace Go.Proofs
open Go.Shelf
def Try.lays189_ren : Go.Shelf.Ren := ⟨fun | 189 => 72 | 125 => 79 | 257 => 78 | 128 => 92 | 129 => 93 | 294 => 83 | 295 => 84 | 296 => 85 | 297 => 86 | 298 => 87 | 299 => 88 | 216 => 89 | 300 => 90 | 301 => 91 | 328 => 95 | 329 => 96 | 330 => 97 | 331 => 98 | 332 => 99 | 215 => 100 | 343 => 101 | n => n, fun | 28 => 27 | 3 => 3 | 46 => 73 | 0 => 0 | 51 => 90 | 53 => 92 | 4 => 4 | 183 => 82 | 182 => 81 | 131 => 87 | 5 => 5 | 9 => 9 | 218 => 94 | 222 => 98 | 228 => 100 | 229 => 101 | n => n, fun | n => n⟩
theorem Try.lays189 : Go.Proofs.Lays.n189 Try.prog Try.lays189_ren := {
  mixed := by kernel_rfl
  f125 := Try.func79.trans (congrArg some (by kernel_rfl))
  f128 := Try.func92.trans (congrArg some (by kernel_rfl))
  f129 := Try.func93.trans (congrArg some (by kernel_rfl))
  f189 := Try.func72.trans (congrArg some (by kernel_rfl))
  f215 := Try.func100.trans (congrArg some (by kernel_rfl))
  f216 := Try.func89.trans (congrArg some (by kernel_rfl))
  f257 := Try.func78.trans (congrArg some (by kernel_rfl))
  f294 := Try.func83.trans (congrArg some (by kernel_rfl))
  f295 := Try.func84.trans (congrArg some (by kernel_rfl))
  f296 := Try.func85.trans (congrArg some (by kernel_rfl))
  f297 := Try.func86.trans (congrArg some (by kernel_rfl))
  f298 := Try.func87.trans (congrArg some (by kernel_rfl))
  f299 := Try.func88.trans (congrArg some (by kernel_rfl))
  f300 := Try.func90.trans (congrArg some (by kernel_rfl))
  f301 := Try.func91.trans (congrArg some (by kernel_rfl))
  f328 := Try.func95.trans (congrArg some (by kernel_rfl))
  f329 := Try.func96.trans (congrArg some (by kernel_rfl))
  f330 := Try.func97.trans (congrArg some (by kernel_rfl))
  f331 := Try.func98.trans (congrArg some (by kernel_rfl))
  f332 := Try.func99.trans (congrArg some (by kernel_rfl))
  f343 := Try.func101.trans (congrArg some (by kernel_rfl))
  t0 := Try.underlying0
  a0 := Try.isAgg0
  z0 := Try.sizeOf0
  v0 := Try.zeroValue0
  t3 := Try.underlying3
  a3 := Try.isAgg3
  z3 := Try.sizeOf3
  v3 := Try.zeroValue3
  t4 := Try.underlying4
  a4 := Try.isAgg4
  z4 := Try.sizeOf4
  v4 := Try.zeroValue4
  t5 := Try.underlying5
  a5 := Try.isAgg5
  z5 := Try.sizeOf5
  v5 := Try.zeroValue5
  t9 := Try.underlying9
  a9 := Try.isAgg9
  z9 := Try.sizeOf9
  v9 := Try.zeroValue9
  t28 := Try.underlying27
  a28 := Try.isAgg27
  z28 := Try.sizeOf27
  v28 := Try.zeroValue27
  t46 := Try.underlying73
  a46 := Try.isAgg73
  z46 := Try.sizeOf73
  v46 := Try.zeroValue73
  t51 := Try.underlying90
  a51 := Try.isAgg90
  z51 := Try.sizeOf90
  v51 := Try.zeroValue90
  t53 := Try.underlying92
  a53 := Try.isAgg92
  z53 := Try.sizeOf92
  v53 := Try.zeroValue92
  t131 := Try.underlying87
  a131 := Try.isAgg87
  z131 := Try.sizeOf87
  v131 := Try.zeroValue87
  t182 := Try.underlying81
  a182 := Try.isAgg81
  z182 := Try.sizeOf81
  v182 := Try.zeroValue81
  t183 := Try.underlying82
  a183 := Try.isAgg82
  z183 := Try.sizeOf82
  v183 := Try.zeroValue82
  t218 := Try.underlying94
  a218 := Try.isAgg94
  z218 := Try.sizeOf94
  v218 := Try.zeroValue94
  t222 := Try.underlying98
  a222 := Try.isAgg98
  z222 := Try.sizeOf98
  v222 := Try.zeroValue98
  t228 := Try.underlying100
  a228 := Try.isAgg100
  z228 := Try.sizeOf100
  v228 := Try.zeroValue100
  t229 := Try.underlying101
  a229 := Try.isAgg101
  z229 := Try.sizeOf101
  v229 := Try.zeroValue101 }
open Go.Sort Go.RowKit in
theorem Try.slices_Sort_int (blk off cap : Nat) (zs : List Int) (w : World) (hH : Holds (Value.int .i64) w blk off zs.toArray) (hblk : blk < w.heap.size) (hsz : zs.length < 4611686018427387904) :
    Calls Try.prog 72 #[.slice (some ⟨blk, off, none⟩) zs.length cap] w fun e w' =>
      e = .returned (.tuple #[]) ∧ ∃ n os, w' = grow (putRow (Value.int .i64) (Sort.ahead w n) blk off (zs.mergeSort fun x y => decide (x ≤ y)).toArray) os := Any.slices_Sort_int Try.lays189 blk off cap zs w hH hblk hsz
open Go.RowKit Go.Sort in
/-- .. and plain. (LAID: no walk: one application.) -/
theorem Try.slices_Sort_int_none (p : Option Addr) (cap : Nat) (w : World) :
    Calls Try.prog 72 #[.slice p 0 cap] w fun e w' => e = .returned (.tuple #[]) ∧ w' = w := Any.slices_Sort_int_none Try.lays189 p cap w
end Go.Proofs
end
