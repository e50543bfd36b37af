/-
  Draws: the cursor over the bytes of a draw, and what is drawn with it.
-/
import Derived.Test.YtjobmbjadpldfaaDk0
import Derived.IntWalk
namespace Go.Proofs.Ytjobmbjadpldfaa
open Go.RowKit
set_option maxRecDepth 100000
set_option maxHeartbeats 1000000
set_option linter.unusedVariables false

/-- a byte in a cell -/
def byteE : Enc UInt8 := { cells := fun x => [.int .u8 (x.toNat : Int)], sz := 1, len := fun _ => rfl, one := fun _ u hu => by simp at hu; subst hu; rfl }
/-- the cursor of a draw -/
structure Cur where
  i : Nat
  h : Int
abbrev curCells (v : Value) (c : Cur) : List Value := [v, .int .i64 (c.i : Int), .int .i64 c.h]
/-- block b is the cursor c over the bytes code -/
structure Drw (b : Nat) (v : Value) (code : List UInt8) (c : Cur) (w : World) : Prop where
  box : DBox b (curCells v c) w
  rd : Rd byteE w b v code
  small : code.length ≤ 1048576
  le : c.i ≤ code.length
/-- what a draw leaves -/
def DrP (b : Nat) (v : Value) (code : List UInt8) (r : Value) (c' : Cur) (w : World) (e : Ending) (w' : World) : Prop := e = .returned r ∧ Drw b v code c' w' ∧ Chg [b] w w'

theorem Rd.byte {w : World} {B : Nat} {A : Option Addr} {n c : Nat} {l : List UInt8} (h : Rd byteE w B (.slice A n c) l) {k : Nat} (hk : k < l.length) :
    ∃ b o, A = some ⟨b, o, none⟩ ∧ b < B ∧ w.cell? ⟨b, o + k, none⟩ = some (.int .u8 (l[k].toNat : Int)) := by
  obtain ⟨A', c', hv, _, hA⟩ := h
  obtain ⟨b, o, hA', hb, hc⟩ := hA (by omega)
  simp only [Value.slice.injEq] at hv
  obtain ⟨rfl, _, _⟩ := hv
  exact ⟨b, o, hA', hb, by simpa [byteE] using hc k hk 0 _ rfl⟩
theorem and_255 (a : Int) : 0 ≤ bits .and .i64 a 255 ∧ bits .and .i64 a 255 ≤ 255 := by
  show 0 ≤ IntKind.i64.wrap ((BitVec.ofInt 64 a &&& BitVec.ofInt 64 255).toNat : Int) ∧ IntKind.i64.wrap ((BitVec.ofInt 64 a &&& BitVec.ofInt 64 255).toNat : Int) ≤ 255
  have h : (BitVec.ofInt 64 a &&& BitVec.ofInt 64 255).toNat ≤ 255 := by
    rw [BitVec.toNat_and]
    exact Nat.and_le_right
  rw [IntKind.wrap_i64]
  omega
def mixH (h : Int) : Int := wrap64 (wrap64 (h * 6364136223846793005) + 1442695040888963407)
def xorH (h : Int) : Int := bits .and .i64 (bits .xor .i64 (h / 8589934592) (h / 35184372088832)) 255
def curByte (code : List UInt8) (c : Cur) : Int × Cur :=
  if h : c.i < code.length then (bits .and .i64 (xorH (mixH c.h) + (code[c.i].toNat : Int)) 255, ⟨c.i + 1, mixH c.h⟩) else (xorH (mixH c.h), ⟨c.i, mixH c.h⟩)
theorem curByte_bd (code : List UInt8) (c : Cur) : 0 ≤ (curByte code c).1 ∧ (curByte code c).1 ≤ 255 := by
  unfold curByte
  split
  · exact and_255 _
  · exact and_255 _
theorem Drw.chg {b : Nat} {v : Value} {code : List UInt8} {c : Cur} {w w' : World} {F : List Nat} (h : Drw b v code c w) (hc : Chg F w w') (hF : ∀ x ∈ F, b < x) : Drw b v code c w' :=
  ⟨h.box.chg hc (fun hm => by have := hF _ hm; omega), h.rd.keep (fun p hp => hc.cell (Nat.lt_trans hp h.box.lt) (fun hm => by have := hF _ hm; omega)), h.small, h.le⟩
theorem Drw.below {b : Nat} {v : Value} {code : List UInt8} {c : Cur} {w w' : World} (h : Drw b v code c w) (hb : Below w.heap.size w w') : Drw b v code c w' :=
  h.chg (Chg.of_below [] hb) (fun x hx => by cases hx)
theorem Drw.step {b : Nat} {v : Value} {code : List UInt8} {c c' : Cur} {w w' : World} (h : Drw b v code c w) (hb : DBox b (curCells v c') w') (hc : Chg [b] w w') (hl : c'.i ≤ code.length) : Drw b v code c' w' :=
  ⟨hb, h.rd.keep (fun p hp => hc.cell (Nat.lt_trans hp h.box.lt) (fun hm => by have : p.block = b := by simpa using hm
                                                                               omega)), h.small, hl⟩

theorem DBox.drewN {b : Nat} {cs : List Value} {w : World} (h : DBox b cs w) (n : Nat) : DBox b cs (w.drewN n) := ⟨h.cell, h.free, h.lt⟩
theorem Chg.drewN {F : List Nat} {a w : World} (h : Chg F a w) (n : Nat) : Chg F a (w.drewN n) := ⟨h.os, h.tape, h.output, h.size, h.block⟩
theorem DBox.put1 {b : Nat} {x i y u : Value} {w : World} (h : DBox b [x, i, y] w) : DBox b [x, u, y] (w.setCell ⟨b, 1, none⟩ u) := h.put 1 (by simp) u
theorem DBox.put2 {b : Nat} {x i y u : Value} {w : World} (h : DBox b [x, i, y] w) : DBox b [x, i, u] (w.setCell ⟨b, 2, none⟩ u) := h.put 2 (by simp) u
theorem Chg.setOwn {b o : Nat} {a w : World} {u : Value} (h : Chg [b] a w) : Chg [b] a (w.setCell ⟨b, o, none⟩ u) := h.trans (Chg.setCell w b o u)
theorem ret_val {a b : Value} (h : a = b) : Ending.returned a = .returned b := by rw [h]

/-! the cursor at its start -/
theorem and_m30 (a : Int) : 0 ≤ bits .and .i64 a 1073741823 ∧ bits .and .i64 a 1073741823 ≤ 1073741823 := by
  show 0 ≤ IntKind.i64.wrap ((BitVec.ofInt 64 a &&& BitVec.ofInt 64 1073741823).toNat : Int) ∧ IntKind.i64.wrap ((BitVec.ofInt 64 a &&& BitVec.ofInt 64 1073741823).toNat : Int) ≤ 1073741823
  have h : (BitVec.ofInt 64 a &&& BitVec.ofInt 64 1073741823).toNat ≤ 1073741823 := by
    rw [BitVec.toNat_and]
    exact Nat.and_le_right
  rw [IntKind.wrap_i64]
  omega
def newH (code : List UInt8) : Nat → Int
  | 0 => 94701 + code.length
  | k + 1 => bits .and .i64 (newH code k * 131 + ((code.getD k 0).toNat : Int) + 7) 1073741823
theorem newH_bd (code : List UInt8) (hs : code.length ≤ 1048576) : ∀ k, 0 ≤ newH code k ∧ newH code k ≤ 1073741823
  | 0 => by unfold newH; omega
  | k + 1 => and_m30 _
theorem newH_succ (code : List UInt8) {k : Nat} (h : k < code.length) : newH code (k + 1) = bits .and .i64 (newH code k * 131 + (code[k].toNat : Int) + 7) 1073741823 := by
  rw [newH, List.getD_eq_getElem?_getD, List.getElem?_eq_getElem h]
  rfl
def curNew (code : List UInt8) : Cur := ⟨0, newH code (min code.length 4000)⟩
def NewP (v : Value) (code : List UInt8) (w : World) (e : Ending) (w' : World) : Prop := ∃ g, e = .returned (.pointer (some ⟨g, 0, none⟩)) ∧ g = w.heap.size ∧ Drw g v code (curNew code) w' ∧ Below w.heap.size w w'
/-! a number below another one -/
def curBelow (code : List UInt8) (n : Int) (c : Cur) : Int × Cur :=
  if n ≤ 0 then (0, c) else if n ≤ 256 then ((curByte code c).1 % n, (curByte code c).2) else
    let a := curByte code c
    let b := curByte code a.2
    let d := curByte code b.2
    let e := curByte code d.2
    ((a.1 * 16777216 + b.1 * 65536 + d.1 * 256 + e.1) % n, e.2)
theorem curBelow_bd (code : List UInt8) {n : Int} (c : Cur) (h : 0 < n) : 0 ≤ (curBelow code n c).1 ∧ (curBelow code n c).1 < n := by
  unfold curBelow
  rw [if_neg (by omega)]
  split
  · exact ⟨Int.emod_nonneg _ (by omega), Int.emod_lt_of_pos _ h⟩
  · exact ⟨Int.emod_nonneg _ (by omega), Int.emod_lt_of_pos _ h⟩
theorem DrP.next {b : Nat} {v : Value} {code : List UInt8} {r : Value} {c' : Cur} {w w1 : World} {e : Ending} {w' : World} (hc : Chg [b] w w1) (h : DrP b v code r c' w1 e w') : DrP b v code r c' w e w' := ⟨h.1, h.2.1, hc.trans h.2.2⟩
/-- one time out of n -/
def curOnce (code : List UInt8) (n : Int) (c : Cur) : Bool × Cur := ((curBelow code n c).1 == 0, (curBelow code n c).2)
end Go.Proofs.Ytjobmbjadpldfaa
