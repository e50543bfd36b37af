/-
  Words for memory: how a list of plain data lies in a slice; a slice of the call's own; what is kept when new memory is made. Plain facts on finite graphs: the closure by rounds over the edges, and the search by a list, both tell what can be reached. Closed facts of the whole program, each by itself. The head's string is laid out as a list of numbers first. Walks of the helpers of the laws on values of the type Edge: to, eq, and the slices' own. Written by program (flat.py). Arguments read as data: slices of plain structs, plans. Walks of the helpers of the laws on values of the type Fence: to,
-/
import Derived.Test.YtonlnjdempbfoaaRows
import Derived.WalkKit
import Derived.Lib.Hide
import Derived.Deep.QuietTactic
import Derived.BigQuiet
import Derived.StillTailTactics
import Derived.Deep.RegionHeld3
import Derived.Maps.AppendAt
import Derived.Deep.AppendLies
import Derived.KernelRfl
import Derived.ProofKit
import Derived.Deep.Slices
import Derived.RegionTactic
import Derived.OwnWalk
section
namespace Go.Proofs.Ytonlnjdempbfoaa
open Go.RowKit
/-- how a datum lies in cells -/
structure Enc (α : Type) where
 cells : α → List Value
 sz : Nat
 len : ∀ x, (cells x).length = sz
 one : ∀ x, ∀ u ∈ cells x, u.oneCell' = true
section
variable {α : Type} {e : Enc α} {w w' : World} {B B' : Nat} {v : Value} {l : List α}
theorem Enc.flat_length (e : Enc α) : ∀ l : List α, (l.flatMap e.cells).length = l.length * e.sz
 | [] => by simp
 | x :: l => by rw [List.flatMap_cons, List.length_append, e.len, Enc.flat_length e l, List.length_cons, Nat.succ_mul, Nat.add_comm]
theorem Enc.flat_get (e : Enc α) {j : Nat} (hj : j < e.sz) : ∀ (l : List α) (k : Nat) (h : k < l.length), (l.flatMap e.cells)[k * e.sz + j]? = (e.cells l[k])[j]?
 | [], k, h => absurd h (by simp)
 | x :: l, 0, _ => by
  rw [List.flatMap_cons, Nat.zero_mul, Nat.zero_add, List.getElem?_append_left (by rw [e.len]; exact hj)]
  rfl
 | x :: l, k + 1, h => by
  rw [List.flatMap_cons, List.getElem?_append_right (by rw [e.len, Nat.succ_mul]; omega), e.len,
   show (k + 1) * e.sz + j - e.sz = k * e.sz + j from by rw [Nat.succ_mul]; omega]
  exact Enc.flat_get e hj l k (by simpa using h)
/-- cells from place i on, laid one behind the other -/
def setSeq (xs : List Value) (i : Nat) : List Value → List Value
 | [] => xs
 | u :: us => setSeq (xs.set i u) (i + 1) us
def wSeq (w : World) (g i : Nat) : List Value → World
 | [] => w
 | u :: us => wSeq (w.setCell ⟨g, i, none⟩ u) g (i + 1) us
theorem setSeq_eq : ∀ (us xs : List Value) (i : Nat), i + us.length ≤ xs.length → setSeq xs i us = xs.take i ++ us ++ xs.drop (i + us.length)
 | [], xs, i, _ => by simp [setSeq]
 | u :: us, xs, i, h => by
  simp only [List.length_cons] at h
  rw [setSeq, setSeq_eq us _ _ (by simp; omega)]
  have h1 : (xs.set i u).take (i + 1) = xs.take i ++ [u] := by
   rw [List.take_set, List.take_succ_eq_append_getElem (by omega), List.set_append_right _ _ (by simp; omega)]
   simp [show i - min i xs.length = 0 from by omega]
  have h2 : (xs.set i u).drop (i + 1 + us.length) = xs.drop (i + (u :: us).length) := by
   rw [List.drop_set_of_lt (by omega)]
   congr 1
   simp; omega
  rw [h1, h2]
  simp
theorem Enc.flat_put (e : Enc α) (x : α) : ∀ (l : List α) (k : Nat), k < l.length → setSeq (l.flatMap e.cells) (k * e.sz) (e.cells x) = (l.set k x).flatMap e.cells := by
 intro l k hk
 rw [setSeq_eq _ _ _ (by
  rw [e.flat_length, e.len]
  have : (k + 1) * e.sz ≤ l.length * e.sz := Nat.mul_le_mul_right _ hk
  rw [Nat.succ_mul] at this; exact this), e.len]
 have hl : l = l.take k ++ l[k] :: l.drop (k + 1) := by
  rw [List.getElem_cons_drop hk, List.take_append_drop]
 have hs : l.set k x = l.take k ++ x :: l.drop (k + 1) := by
  rw [List.set_eq_take_append_cons_drop, if_pos hk]
 rw [hs]
 have e1 : (l.take k).flatMap e.cells = (l.flatMap e.cells).take (k * e.sz) := by
  conv => rhs; rw [hl, List.flatMap_append]
  rw [List.take_left' (by rw [e.flat_length, List.length_take, Nat.min_eq_left (Nat.le_of_lt hk)])]
 have e2 : (l.drop (k + 1)).flatMap e.cells = (l.flatMap e.cells).drop (k * e.sz + e.sz) := by
  conv => rhs; rw [hl, List.flatMap_append, List.flatMap_cons, ← List.append_assoc]
  rw [List.drop_left' (by rw [List.length_append, e.flat_length, e.len, List.length_take, Nat.min_eq_left (Nat.le_of_lt hk)])]
 rw [List.flatMap_append, List.flatMap_cons, e1, e2, List.append_assoc]
/-- v is a slice that reads as l, below block B -/
def Rd (e : Enc α) (w : World) (B : Nat) (v : Value) (l : List α) : Prop :=
 ∃ A c, v = .slice A l.length c ∧ l.length ≤ c ∧ (0 < l.length → ∃ b o, A = some ⟨b, o, none⟩ ∧ b < B ∧
  ∀ (k : Nat) (h : k < l.length) (j : Nat) (u : Value), (e.cells l[k])[j]? = some u → w.cell? ⟨b, o + k * e.sz + j, none⟩ = some u)
theorem Rd.keep (h : Rd e w B v l) (hk : ∀ p : Addr, p.block < B → w'.cell? p = w.cell? p) : Rd e w' B v l := by
 obtain ⟨A, c, hv, hcap, hA⟩ := h
 refine ⟨A, c, hv, hcap, fun hl => ?_⟩
 obtain ⟨b, o, hb, hlt, hc⟩ := hA hl
 exact ⟨b, o, hb, hlt, fun k hk' j u hu => (hk _ hlt).trans (hc k hk' j u hu)⟩
theorem Rd.more (h : Rd e w B v l) (hB : B ≤ B') : Rd e w B' v l := by
 obtain ⟨A, c, hv, hcap, hA⟩ := h
 refine ⟨A, c, hv, hcap, fun hl => ?_⟩
 obtain ⟨b, o, hb, hlt, hc⟩ := hA hl
 exact ⟨b, o, hb, by omega, hc⟩
theorem Rd.below (h : Rd e w B v l) (hb : Below B w w') : Rd e w' B v l := h.keep fun _ hp => hb.cell hp
/-- v is a slice of the call's own, from block base on: it reads as l -/
def Ow (e : Enc α) (E : TypeId) (w : World) (base : Nat) (v : Value) (l : List α) : Prop := w.ownsRow base E e.sz v l.length (l.flatMap e.cells)
theorem Ow.nil (e : Enc α) (E : TypeId) (w : World) (base : Nat) : Ow e E w base (.slice none 0 0) [] := World.ownsRow_nil w base E e.sz
theorem Ow.form {E : TypeId} {base : Nat} (h : Ow e E w base v l) : (v = .slice none 0 0 ∧ l = []) ∨
  ∃ g cap, v = .slice (some ⟨g, 0, none⟩) l.length cap ∧ base ≤ g ∧ g < w.heap.size ∧ l.length ≤ cap ∧ cap ≤ maxLen ∧ (∀ j, w.frozen? ⟨g, j, none⟩ = false) ∧
   ∀ (k : Nat) (h : k < l.length) (j : Nat) (u : Value), (e.cells l[k])[j]? = some u → w.cell? ⟨g, k * e.sz + j, none⟩ = some u := by
 have h0 := h
 rcases h.2 with ⟨hv, hn⟩ | ⟨g, cap, cur, hv, hg, hh, hc, hm, _, _⟩
 ·exact .inl ⟨hv, List.eq_nil_of_length_eq_zero hn⟩
 ·subst hv
  refine .inr ⟨g, cap, rfl, hg, (h.lt g rfl).2, hc, hm, fun j => World.ownsRow.frozenAt h j, fun k hk j u hu => ?_⟩
  have hj : j < e.sz := by
   have := (List.getElem?_eq_some_iff.1 hu).1
   rw [e.len] at this; exact this
  have hlt : k * e.sz + j < l.length * e.sz := by
   have : (k + 1) * e.sz ≤ l.length * e.sz := Nat.mul_le_mul_right _ hk
   rw [Nat.succ_mul] at this; omega
  rw [World.ownsRow.cellAt h _ hlt, e.flat_get hj l k hk]
  exact hu
theorem Ow.free {E : TypeId} {base g n cap : Nat} (h : Ow e E w base (.slice (some ⟨g, 0, none⟩) n cap) l) (j : Nat) : w.frozen? ⟨g, j, none⟩ = false := by
 rcases h.form with ⟨h1, _⟩ | ⟨g', cap', hv, _, _, _, _, hf, _⟩
 ·simp at h1
 ·simp only [Value.slice.injEq, Option.some.injEq, Addr.mk.injEq, and_true] at hv
  obtain ⟨rfl, _, _⟩ := hv
  exact hf j
theorem Ow.blk {E : TypeId} {base g n cap : Nat} (h : Ow e E w base (.slice (some ⟨g, 0, none⟩) n cap) l) : base ≤ g ∧ g < w.heap.size := by
 rcases h.form with ⟨h1, _⟩ | ⟨g', cap', hv, hb, hg, _⟩
 ·simp at h1
 ·simp only [Value.slice.injEq, Option.some.injEq, Addr.mk.injEq, and_true] at hv
  obtain ⟨rfl, _, _⟩ := hv
  exact ⟨hb, hg⟩
theorem Rd.of_own {E : TypeId} {base : Nat} (h : Ow e E w base v l) : Rd e w w.heap.size v l := by
 rcases h.form with ⟨rfl, rfl⟩ | ⟨g, cap, rfl, _, hlt, hcap, _, _, hc⟩
 ·exact ⟨none, 0, rfl, Nat.le_refl _, fun h => absurd h (by simp)⟩
 ·exact ⟨_, cap, rfl, hcap, fun _ => ⟨g, 0, rfl, hlt, fun k hk j u hu => by rw [Nat.zero_add]; exact hc k hk j u hu⟩⟩
theorem Rd.take {A : Option Addr} {n c k : Nat} (h : Rd e w B (.slice A n c) l) (hk : k ≤ l.length) (c' : Nat) (hc' : k ≤ c') : Rd e w B (.slice A k c') (l.take k) := by
 obtain ⟨A', c0, hv, _, hA⟩ := h
 simp only [Value.slice.injEq] at hv
 obtain ⟨rfl, rfl, rfl⟩ := hv
 refine ⟨A, c', by rw [List.length_take, Nat.min_eq_left hk], by rw [List.length_take, Nat.min_eq_left hk]; exact hc', fun hl => ?_⟩
 rw [List.length_take, Nat.min_eq_left hk] at hl
 obtain ⟨b, o, hb, hlt, hc⟩ := hA (by omega)
 refine ⟨b, o, hb, hlt, fun i hi j u hu => ?_⟩
 rw [List.length_take, Nat.min_eq_left hk] at hi
 rw [List.getElem_take] at hu
 exact hc i (by omega) j u hu
theorem Rd.cap {A : Option Addr} {n c : Nat} (h : Rd e w B (.slice A n c) l) : l.length ≤ c := by
 obtain ⟨A', c0, hv, hc, _⟩ := h
 simp only [Value.slice.injEq] at hv
 rw [hv.2.2]
 exact hc
theorem Rd.nil (e : Enc α) (w : World) (B c : Nat) : Rd e w B (.slice none 0 c) [] := ⟨none, c, rfl, Nat.zero_le _, fun h => absurd h (by simp)⟩
/-- a slice of the call's own, with room for one list of cells more -/
theorem Ow.snoc {E : TypeId} {base : Nat} {x : α} (h : w.ownsRow base E e.sz v (l.length + 1) (l.flatMap e.cells ++ e.cells x)) : Ow e E w base v (l ++ [x]) := by
 unfold Ow
 rw [List.length_append, List.length_singleton, List.flatMap_append, List.flatMap_singleton]
 exact h
theorem Ow.below {E : TypeId} {base : Nat} (h : Ow e E w base v l) (hb : Below w.heap.size w w') : Ow e E w' base v l := by
 refine World.ownsRow.kept (row := none) h ⟨hb.os, hb.tape, hb.output, hb.size, fun k hk _ => hb.block k hk⟩ ?_
 cases hv : v.ownBlock with
 | none => exact .inl rfl
 | some g => exact .inr (by simp)
theorem Ow.more {E : TypeId} {base base' : Nat} (h : Ow e E w base v l) (hb : base' ≤ base) : Ow e E w base' v l := by
 obtain ⟨h1, h2⟩ := h
 refine ⟨h1, ?_⟩
 rcases h2 with h2 | ⟨g, cap, cur, hv, hg, r⟩
 ·exact .inl h2
 ·exact .inr ⟨g, cap, cur, hv, by omega, r⟩
end
theorem wSeq_own {E : TypeId} {sz base g cap : Nat} (n : Nat) : ∀ (us xs : List Value) (w : World) (i : Nat), w.ownsRow base E sz (.slice (some ⟨g, 0, none⟩) n cap) n xs →
  (wSeq w g i us).ownsRow base E sz (.slice (some ⟨g, 0, none⟩) n cap) n (setSeq xs i us) ∧ w.grownBy (wSeq w g i us) (some g)
 | [], xs, w, i, h => ⟨h, World.grownBy.refl w _⟩
 | u :: us, xs, w, i, h => by
  have h1 := World.ownsRow.stored h i u
  have h2 := wSeq_own n us _ _ (i + 1) h1.1
  exact ⟨h2.1, h1.2.trans h2.2⟩
/-- one element of the call's own slice is written -/
theorem Ow.put {α : Type} {e : Enc α} {E : TypeId} {w : World} {base g cap n : Nat} {l : List α} (h : Ow e E w base (.slice (some ⟨g, 0, none⟩) n cap) l) (hn : l.length = n) (k : Nat) (hk : k < n) (x : α) :
  Ow e E (wSeq w g (k * e.sz) (e.cells x)) base (.slice (some ⟨g, 0, none⟩) n cap) (l.set k x) ∧ w.grownBy (wSeq w g (k * e.sz) (e.cells x)) (some g) := by
 subst hn
 have := wSeq_own (cap := cap) l.length (e.cells x) _ w (k * e.sz) h
 rw [e.flat_put x l k hk] at this
 unfold Ow
 rw [List.length_set]
 exact this
theorem madeCells_flat {α : Type} (e : Enc α) (x : α) (n : Nat) (hsz : 0 < e.sz) : (madeCells (e.cells x).toArray (n * e.sz)).toList = (List.replicate n x).flatMap e.cells := by
 apply List.ext_getElem?
 intro i
 by_cases hi : i < n * e.sz
 ·have hk : i / e.sz < n := Nat.div_lt_of_lt_mul (by rw [Nat.mul_comm]; exact hi)
  have hj : i % e.sz < e.sz := Nat.mod_lt _ hsz
  have hij : i / e.sz * e.sz + i % e.sz = i := by rw [Nat.mul_comm]; exact Nat.div_add_mod _ _
  have h1 := e.flat_get hj (List.replicate n x) (i / e.sz) (by simpa using hk)
  rw [hij] at h1
  rw [h1]
  have hl : i % e.sz < (e.cells x).length := by rw [e.len]; exact hj
  have hz : 0 < (e.cells x).length := by rw [e.len]; exact hsz
  simp [madeCells, hi, e.len, hj]
 ·rw [List.getElem?_eq_none (by simp [madeCells]; omega), List.getElem?_eq_none (by rw [e.flat_length]; simp; omega)]
/-- a slice that make has made -/
theorem Ow.made {α : Type} (e : Enc α) (E : TypeId) (w : World) (x : α) (n : Nat) (hsz : 0 < e.sz) (hn : n ≤ maxLen) {z : Array Value} (hz : z = (e.cells x).toArray) {m : Nat} (hm : m = n * e.sz) :
  Ow e E (w.alloc (.cells (madeCells z m) E)) w.heap.size (.slice (some ⟨w.heap.size, 0, none⟩) n n) (List.replicate n x) := by
 subst hz; subst hm
 have := World.ownsRow_lit (base := w.heap.size) (e := E) (size := e.sz) w (madeCells (e.cells x).toArray (n * e.sz)) n (Nat.le_refl _) hn (size_madeCells _ _)
 rw [madeCells_flat e x n hsz] at this
 unfold Ow
 rw [List.length_replicate]
 exact this
theorem Ow.ne_ {α β : Type} {e : Enc α} {e' : Enc β} {E E' : TypeId} {w : World} {base base' : Nat} {v v' : Value} {l : List α} {l' : List β} (h : Ow e E w base v l) (h' : Ow e' E' w base' v' l') (hne : E ≠ E') :
  v.ownBlock = none ∨ v.ownBlock ≠ v'.ownBlock := by
 rcases h.2 with ⟨rfl, _⟩ | ⟨g, cap, cur, rfl, _, hh, _⟩
 ·exact .inl rfl
 ·rcases h'.2 with ⟨rfl, _⟩ | ⟨g', cap', cur', rfl, _, hh', _⟩
  ·exact .inr (by simp [Value.ownBlock])
  ·refine .inr (fun he => ?_)
   have : g = g' := by simpa [Value.ownBlock] using he
   subst this
   rw [hh] at hh'
   injection hh' with hh'
   injection hh' with _ ht
   exact hne ht
theorem Ow.grown {α : Type} {e : Enc α} {E : TypeId} {w w' : World} {base : Nat} {v : Value} {l : List α} {row : Option Nat} (h : Ow e E w base v l) (hg : w.grownBy w' row) (hne : v.ownBlock = none ∨ v.ownBlock ≠ row) : Ow e E w' base v l :=
 World.ownsRow.kept h hg hne
theorem news_new (w : World) (cs : Array Value) (T : TypeId) {g : Nat} (hg : g = w.heap.size) : ∀ j u, cs.toList[j]? = some u → (w.alloc (.cells cs T)).cell? ((⟨g, 0, none⟩ : Addr).add j) = some u := by
 subst hg
 intro j u hu
 have h : (w.alloc (.cells cs T)).cell? ⟨w.heap.size, j, none⟩ = cs[j]? := cell_of_row _ _ j cs T (0, 0) (heap_alloc_new w _)
 have e : ((⟨w.heap.size, 0, none⟩ : Addr).add j) = ⟨w.heap.size, j, none⟩ := by
  unfold Addr.add
  split <;> simp_all
 rw [e, h]
 simpa using hu
/-- one element is appended to a slice of the call's own -/
theorem wpList_push {α : Type} {P : Program} {ops : Array Oper} {rest : List Oper} {o : Oper} {a : Act} {Q : Exit → Act → World → Prop} {w : World} (e : Enc α) (hsz : 0 < e.sz) {base : Nat} {E t : TypeId} {i : TypeInfo} {z : Value} {bytes : Nat}
  (hgd : o.guard = none) (s x : Operand) (ho : o.op = .call { callee := .builtin .append, args := #[s, x], argTypes := #[t, t] })
  (ht : P.underlying t = some (.slice E)) (hi : P.info? E = some i) (hz : i.zero = some z) (hsize : i.size = e.sz) (hby : i.bytes = bytes) (hzs : z.cells.size = e.sz)
  {v : Value} {l : List α} (y : α) (hs : a.eval s = v) (hown : Ow e E w base v l) (ad : Addr) (c : Nat) (hx : a.eval x = .slice (some ad) 1 c) (hnews : ∀ j u, (e.cells y)[j]? = some u → w.cell? (ad.add j) = some u)
  (hlen : l.length ≤ 3000000) (hbytes : bytes ≤ 10000) (hbase : base ≤ w.heap.size)
  (h : ∀ v' w', Ow e E w' base v' (l ++ [y]) → w.grownBy w' v.ownBlock → wpList P ops Q rest (a.put o.dst v') w') : wpList P ops Q (o :: rest) a w := by
 refine wpList_append_own w hgd s x t ho base E i z e.sz bytes ht hi hz hsize hby hzs hsz v l.length (l.flatMap e.cells) hs hown ad 1 c (e.cells y) hx (by rw [e.len, Nat.one_mul]) hnews (e.one y) (by simp [maxLen]; omega) ?_ hbase ?_
 ·have h1 : (l.length + 1) * bytes ≤ 3000001 * 10000 := Nat.mul_le_mul (by omega) hbytes
  omega
 ·intro v' w' h1 h2 _
  exact h v' w' (Ow.snoc h1) h2
/-- an int in a cell -/
def intE : Enc Int := { cells := fun x => [.int .i64 x], sz := 1, len := fun _ => rfl, one := fun _ u hu => by simp at hu; subst hu; rfl }
theorem bcell {W w1 : World} (hb : Below W.heap.size W w1) : (∀ b o, b < W.heap.size → w1.cell? ⟨b, o, none⟩ = W.cell? ⟨b, o, none⟩) ∧ (∀ b o, b < W.heap.size → w1.frozen? ⟨b, o, none⟩ = W.frozen? ⟨b, o, none⟩) :=
 ⟨fun b o h => hb.cell (p := ⟨b, o, none⟩) h, fun b o h => hb.frozen (p := ⟨b, o, none⟩) h⟩
theorem bnext {w w1 w2 : World} (h : Below w.heap.size w w1) (k : Below w1.heap.size w1 w2) : Below w.heap.size w w2 := h.trans (k.mono h.size)
theorem bdrewN {B : Nat} {a w : World} (h : Below B a w) (n : Nat) : Below B a (w.drewN n) := ⟨h.os, h.tape, h.output, h.size, h.block⟩
theorem ret_int {k : IntKind} {a b : Int} (h : a = b) : Ending.returned (.int k a) = .returned (.int k b) := by rw [h]
theorem ret_bool {a b : Bool} (h : a = b) : Ending.returned (.bool a) = .returned (.bool b) := by rw [h]
theorem take_snoc {α : Type} (l : List α) (k : Nat) (h : k < l.length) : l.take (k + 1) = l.take k ++ [l[k]] := by
 rw [List.take_succ_eq_append_getElem h]
/-! A region that draws its order, whose operations only read old memory and whose callees only make new memory and hand back values that do not depend on it: one walk serves. -/
/-- the worlds that may come behind w: what was there is as it was -/
def Later (w : World) : Type := { u : World // Below w.heap.size w u }
instance (w : World) : Nonempty (Later w) := ⟨⟨w, Below.refl _ _⟩⟩
theorem wp_region_pure {P : Program} {id : Nat} {Q : Exit → Act → World → Prop} {a : Act} {w : World} {l : List Oper} (hm : P.follows .mixedOrders = true) (hB : Region.lexB .any l.toArray = true)
  (h : wpQuiet P l.toArray (fun w' => ∃ u : Later w, w' = u.1) (fun a' => ∀ w', (∃ u : Later w, w' = u.1) → Q .normal a' w') l a) : (Code.region id l.toArray true).wp P Q a w :=
 wp_region_quiet (C := fun w' => ∃ u : Later w, w' = u.1) hm hB ⟨⟨w.drew, (Below.refl _ _).drew⟩, rfl⟩ (by simpa using h)
theorem later_cell (w : World) : ∀ (u : Later w) (b o : Nat), b < w.heap.size → (u.1).cell? ⟨b, o, none⟩ = w.cell? ⟨b, o, none⟩ := fun u b o h => u.2.cell (p := ⟨b, o, none⟩) h
theorem pure_of {P : Program} {f : FuncId} {args : Array Value} {w : World} {u : Later w} {v : Value}
  (h : Calls P f args u.1 fun e w' => e = .returned v ∧ Below u.1.heap.size u.1 w') : Calls P f args u.1 fun e w'' => e = .returned v ∧ ∃ u' : Later w, w'' = u'.1 :=
 h.mono fun _ _ ⟨he, hb⟩ => ⟨he, ⟨_, bnext u.2 hb⟩, rfl⟩
theorem pure_at {P : Program} {f : FuncId} {args : Array Value} {w : World} {u : Later w} {v : Value}
  (h : ∀ u : Later w, Calls P f args u.1 fun e w' => e = .returned v ∧ Below u.1.heap.size u.1 w') : Calls P f args u.1 fun e w'' => e = .returned v ∧ ∃ u' : Later w, w'' = u'.1 :=
 (h u).mono fun _ _ ⟨he, hb⟩ => ⟨he, ⟨_, bnext u.2 hb⟩, rfl⟩
theorem pure_same {P : Program} {f : FuncId} {args : Array Value} {w : World} {u : Later w} {v : Value}
  (h : ∀ u : Later w, Calls P f args u.1 fun e w' => e = .returned v ∧ u.1 = w') : Calls P f args u.1 fun e w'' => e = .returned v ∧ ∃ u' : Later w, w'' = u'.1 :=
 (h u).mono fun _ _ ⟨he, hb⟩ => ⟨he, u, hb.symm⟩
end Go.Proofs.Ytonlnjdempbfoaa
end
section
namespace Go.Proofs.Ytonlnjdempbfoaa.Pg
/-- a way along edges; the list has the nodes that it comes to, one behind the other -/
inductive Way (es : List (Nat × Nat)) : Nat → List Nat → Nat → Prop
 | nil (a : Nat) : Way es a [] a
 | cons {a c b : Nat} {l : List Nat} : (a, c) ∈ es → Way es c l b → Way es a (c :: l) b
/-- b is reached from a by one edge or more -/
def Reach (es : List (Nat × Nat)) (a b : Nat) : Prop := ∃ l, l ≠ [] ∧ Way es a l b
theorem Way.split {es : List (Nat × Nat)} {x b : Nat} {l2 : List Nat} : ∀ {a : Nat} (l1 : List Nat), Way es a (l1 ++ x :: l2) b → Way es x l2 b
 | _, [], h => by cases h with | cons _ h => exact h
 | _, _ :: l1, h => by cases h with | cons _ h => exact Way.split l1 h
theorem Way.snoc {es : List (Nat × Nat)} {b c : Nat} : ∀ {a : Nat} {l : List Nat}, Way es a l b → (b, c) ∈ es → Way es a (l ++ [c]) c
 | _, _, .nil _, he => .cons he (.nil _)
 | _, _, .cons h1 h2, he => .cons h1 (h2.snoc he)
theorem Way.simple {es : List (Nat × Nat)} {b : Nat} : ∀ (l : List Nat) {a c : Nat}, Way es a (c :: l) b → ∃ l', Way es a (c :: l') b ∧ (c :: l').Nodup
 | [], _, _, h => ⟨[], h, by simp⟩
 | d :: l, a, c, h => by
  cases h with
  | cons h1 h2 =>
   obtain ⟨l', hw, hn⟩ := Way.simple l h2
   by_cases hc : c ∈ d :: l'
   ·obtain ⟨l1, l2, he⟩ := List.append_of_mem hc
    rw [he] at hw hn
    refine ⟨l2, .cons h1 (hw.split l1), ?_⟩
    exact (List.nodup_append.1 hn).2.1
   ·exact ⟨d :: l', .cons h1 hw, List.nodup_cons.2 ⟨hc, hn⟩⟩
theorem nodup_le : ∀ (T : Nat) (l : List Nat), l.Nodup → (∀ x ∈ l, x < T) → l.length ≤ T
 | 0, l, _, h => by
  cases l with
  | nil => simp
  | cons a l => exact absurd (h a (by simp)) (by omega)
 | T + 1, l, hn, h => by
  have h1 := nodup_le T (l.erase T) (hn.erase T) (fun x hx => by
   have hx' := (hn.mem_erase_iff).1 hx
   have := h x hx'.2
   have := hx'.1
   omega)
  have h2 : l.length ≤ (l.erase T).length + 1 := by
   rw [List.length_erase]
   split <;> omega
  omega
theorem Way.mem {es : List (Nat × Nat)} {b : Nat} {T : Nat} (hes : ∀ e ∈ es, e.2 < T) : ∀ {a : Nat} {l : List Nat}, Way es a l b → ∀ x ∈ l, x < T
 | _, _, .nil _ => by simp
 | _, _, .cons h1 h2 => by
  intro x hx
  rcases List.mem_cons.1 hx with rfl | hx
  ·exact hes _ h1
  ·exact h2.mem hes x hx
/-- a short way -/
theorem Reach.short {es : List (Nat × Nat)} {a b T : Nat} (hes : ∀ e ∈ es, e.2 < T) (h : Reach es a b) : ∃ l, l ≠ [] ∧ l.length ≤ T ∧ Way es a l b := by
 obtain ⟨l, hl, hw⟩ := h
 match l, hl, hw with
 | c :: l, _, hw =>
  obtain ⟨l', hw', hn⟩ := hw.simple l
  exact ⟨c :: l', by simp, nodup_le T _ hn (hw'.mem hes), hw'⟩
theorem Reach.one {es : List (Nat × Nat)} {a b : Nat} (h : (a, b) ∈ es) : Reach es a b := ⟨[b], by simp, .cons h (.nil _)⟩
theorem Reach.cons {es : List (Nat × Nat)} {a c b : Nat} (h : (a, c) ∈ es) (h' : Reach es c b) : Reach es a b := by
 obtain ⟨l, _, hw⟩ := h'
 exact ⟨c :: l, by simp, .cons h hw⟩
theorem Reach.snoc {es : List (Nat × Nat)} {a c b : Nat} (h' : Reach es a c) (h : (c, b) ∈ es) : Reach es a b := by
 obtain ⟨l, _, hw⟩ := h'
 exact ⟨l ++ [b], by simp, hw.snoc h⟩
theorem Way.append {es : List (Nat × Nat)} {b c : Nat} {l2 : List Nat} : ∀ {a : Nat} {l : List Nat}, Way es a l b → Way es b l2 c → Way es a (l ++ l2) c
 | _, _, .nil _, h => h
 | _, _, .cons h1 h2, h => .cons h1 (h2.append h)
theorem Reach.trans {es : List (Nat × Nat)} {a c b : Nat} (h : Reach es a c) (h' : Reach es c b) : Reach es a b := by
 obtain ⟨l, hl, hw⟩ := h
 obtain ⟨l', _, hw'⟩ := h'
 exact ⟨l ++ l', by simp [hl], hw.append hw'⟩
/-! The closure by rounds: o a is a set of nodes, as a number. -/
/-! The search by a list. -/
/-- what one edge does at a node x -/
def bstep (x : Nat) (s : List Bool × List Nat) (e : Nat × Nat) : List Bool × List Nat :=
 if e.1 = x ∧ s.1.getD e.2 true = false then (s.1.set e.2 true, s.2 ++ [e.2]) else s
def bnode (es : List (Nat × Nat)) (x : Nat) (s : List Bool × List Nat) : List Bool × List Nat := es.foldl (bstep x) s
/-- what holds all the time -/
structure Binv (es : List (Nat × Nat)) (T t : Nat) (s : List Bool × List Nat) : Prop where
 size : s.1.length = T
 head : ∃ l, s.2 = t :: l ∧ l.Nodup ∧ (∀ y, y ∈ l ↔ s.1.getD y false = true)
 reach : ∀ y, s.1.getD y false = true → Reach es t y
theorem Binv.lt {es : List (Nat × Nat)} {T t : Nat} {s : List Bool × List Nat} (h : Binv es T t s) : s.2.length ≤ T + 1 := by
 obtain ⟨l, hl, hn, hm⟩ := h.head
 rw [hl, List.length_cons]
 have := nodup_le T l hn (fun x hx => by
  have := (hm x).1 hx
  rw [List.getD_eq_getElem?_getD] at this
  by_cases hx' : x < s.1.length
  ·rw [h.size] at hx'; exact hx'
  ·rw [List.getElem?_eq_none (by omega)] at this; simp at this)
 omega
theorem Binv.start (es : List (Nat × Nat)) (T t : Nat) : Binv es T t (List.replicate T false, [t]) := by
 refine ⟨by simp, ⟨[], rfl, by simp, fun y => ?_⟩, fun y => ?_⟩
 ·simp [List.getD_eq_getElem?_getD, List.getElem?_replicate]; split <;> simp
 ·simp [List.getD_eq_getElem?_getD, List.getElem?_replicate]; split <;> simp
theorem Binv.step {es : List (Nat × Nat)} {T t x : Nat} {s : List Bool × List Nat} (h : Binv es T t s) (hx : x ∈ s.2) (e : Nat × Nat) (he : e ∈ es) (h2 : e.2 < T) : Binv es T t (bstep x s e) := by
 unfold bstep
 split
 ·rename_i hc
  obtain ⟨h1, hf⟩ := hc
  obtain ⟨l, hl, hn, hm⟩ := h.head
  have hlt : e.2 < s.1.length := by rw [h.size]; exact h2
  have hf' : s.1.getD e.2 false = false := by
   rw [List.getD_eq_getElem?_getD, List.getElem?_eq_getElem hlt] at hf ⊢
   simpa using hf
  have hg : ∀ y, (s.1.set e.2 true).getD y false = true ↔ y = e.2 ∨ s.1.getD y false = true := by
   intro y
   simp only [List.getD_eq_getElem?_getD, List.getElem?_set]
   by_cases hy : e.2 = y
   ·subst hy; simp [hlt]
   ·rw [if_neg hy]
    exact ⟨fun h => .inr h, fun h => h.resolve_left (fun h => hy h.symm)⟩
  have hr : Reach es t e.2 := by
   rw [hl] at hx
   rcases List.mem_cons.1 hx with rfl | hx
   ·exact .one (by rw [← h1]; exact he)
   ·exact (h.reach x ((hm x).1 hx)).snoc (by rw [← h1]; exact he)
  refine ⟨by simpa using h.size, ⟨l ++ [e.2], by simp [hl], ?_, fun y => ?_⟩, fun y hy => ?_⟩
  ·rw [List.nodup_append]
   refine ⟨hn, by simp, ?_⟩
   intro a ha b hb hab
   simp only [List.mem_singleton] at hb
   rw [hab, hb] at ha
   rw [(hm _).1 ha] at hf'
   cases hf'
  ·rw [hg]
   simp only [List.mem_append, List.mem_singleton, hm]
   exact Or.comm
  ·rcases (hg y).1 hy with rfl | hy
   ·exact hr
   ·exact h.reach y hy
 ·exact h
theorem bstep_mem {x y : Nat} {s : List Bool × List Nat} {e : Nat × Nat} (h : y ∈ s.2) : y ∈ (bstep x s e).2 := by
 unfold bstep
 split
 ·simp [h]
 ·exact h
theorem bstep_pre {x : Nat} {s : List Bool × List Nat} {e : Nat × Nat} : ∃ r, (bstep x s e).2 = s.2 ++ r := by
 unfold bstep
 split
 ·exact ⟨[e.2], rfl⟩
 ·exact ⟨[], by simp⟩
theorem bnode_pre (es : List (Nat × Nat)) (x : Nat) : ∀ s : List Bool × List Nat, ∃ r, (bnode es x s).2 = s.2 ++ r := by
 unfold bnode
 induction es with
 | nil => intro s; exact ⟨[], by simp⟩
 | cons e es ih =>
  intro s
  rw [List.foldl_cons]
  obtain ⟨r, hr⟩ := ih (bstep x s e)
  obtain ⟨r', hr'⟩ := bstep_pre (x := x) (s := s) (e := e)
  exact ⟨r' ++ r, by rw [hr, hr', List.append_assoc]⟩
theorem bnode_inv {es0 : List (Nat × Nat)} {T t x : Nat} (es : List (Nat × Nat)) : ∀ {s : List Bool × List Nat}, Binv es0 T t s → x ∈ s.2 → (∀ e ∈ es, e ∈ es0) → (∀ e ∈ es, e.2 < T) → Binv es0 T t (bnode es x s) := by
 unfold bnode
 induction es with
 | nil => intro s h _ _ _; exact h
 | cons e es ih =>
  intro s h hx hs h2
  rw [List.foldl_cons]
  exact ih (h.step hx e (hs e (by simp)) (h2 e (by simp))) (bstep_mem hx) (fun e' he' => hs e' (by simp [he'])) (fun e' he' => h2 e' (by simp [he']))
theorem bstep_keep {x y : Nat} {s : List Bool × List Nat} {e : Nat × Nat} (h : s.1.getD y false = true) : (bstep x s e).1.getD y false = true := by
 unfold bstep
 split
 ·simp only [List.getD_eq_getElem?_getD, List.getElem?_set] at h ⊢
  by_cases hy : e.2 = y
  ·subst hy
   by_cases hl : e.2 < s.1.length
   ·simp [hl]
   ·rw [List.getElem?_eq_none (by omega)] at h; simp at h
  ·rw [if_neg hy]; exact h
 ·exact h
theorem bnode_keep (es : List (Nat × Nat)) (x y : Nat) : ∀ s : List Bool × List Nat, s.1.getD y false = true → (bnode es x s).1.getD y false = true := by
 unfold bnode
 induction es with
 | nil => intro s h; exact h
 | cons e es ih => intro s h; rw [List.foldl_cons]; exact ih _ (bstep_keep h)
theorem bstep_length (x : Nat) (s : List Bool × List Nat) (e : Nat × Nat) : (bstep x s e).1.length = s.1.length := by
 unfold bstep
 split <;> simp
theorem bnode_length (es : List (Nat × Nat)) (x : Nat) : ∀ s : List Bool × List Nat, (bnode es x s).1.length = s.1.length := by
 unfold bnode
 induction es with
 | nil => intro s; rfl
 | cons e es ih => intro s; rw [List.foldl_cons, ih, bstep_length]
/-- when a node has been looked at, all that its edges lead to is marked -/
theorem bnode_edge (es : List (Nat × Nat)) (x y : Nat) : ∀ s : List Bool × List Nat, (∀ e ∈ es, e.2 < s.1.length) → (x, y) ∈ es → (bnode es x s).1.getD y false = true := by
 unfold bnode
 induction es with
 | nil => intro s _ h; simp at h
 | cons e es ih =>
  intro s hl hm
  rw [List.foldl_cons]
  rcases List.mem_cons.1 hm with he | hm
  ·refine bnode_keep es x y _ ?_
   have hlt := hl e (by simp)
   have h1 : e.1 = x := by rw [← he]
   have h2 : e.2 = y := by rw [← he]
   unfold bstep
   split
   ·rw [h2] at hlt ⊢
    simp [List.getD_eq_getElem?_getD, hlt]
   ·rename_i hc
    rw [h2] at hc hlt
    simp only [h1, true_and] at hc
    rw [List.getD_eq_getElem?_getD, List.getElem?_eq_getElem hlt] at hc ⊢
    simpa using hc
  ·exact ih _ (fun e' he' => by rw [bstep_length]; exact hl e' (by simp [he'])) hm
/-- h nodes of the list have been looked at -/
structure Bat (es : List (Nat × Nat)) (T t h : Nat) (s : List Bool × List Nat) : Prop where
 inv : Binv es T t s
 le : h ≤ s.2.length
 done : ∀ i x, i < h → s.2[i]? = some x → ∀ y, (x, y) ∈ es → s.1.getD y false = true
theorem Bat.start (es : List (Nat × Nat)) (T t : Nat) : Bat es T t 0 (List.replicate T false, [t]) :=
 ⟨.start es T t, Nat.zero_le _, fun i _ hi => absurd hi (by omega)⟩
theorem Bat.next {es : List (Nat × Nat)} {T t h : Nat} {s : List Bool × List Nat} (hb : Bat es T t h s) (h2 : ∀ e ∈ es, e.2 < T) {x : Nat} (hx : s.2[h]? = some x) : Bat es T t (h + 1) (bnode es x s) := by
 obtain ⟨r, hr⟩ := bnode_pre es x s
 have hlt : h < s.2.length := by
  rcases Nat.lt_or_ge h s.2.length with h' | h'
  ·exact h'
  ·rw [List.getElem?_eq_none h'] at hx; cases hx
 refine ⟨bnode_inv es hb.inv (List.mem_of_getElem? hx) (fun _ h => h) h2, by rw [hr]; simp; omega, fun i z hi' hiz y hy => ?_⟩
 rw [hr, List.getElem?_append_left (by omega)] at hiz
 rcases Nat.lt_or_eq_of_le (Nat.le_of_lt_succ hi') with hl | rfl
 ·exact bnode_keep es _ y _ (hb.done i z hl hiz y hy)
 ·have : x = z := Option.some.inj (hx.symm.trans hiz)
  subst this
  exact bnode_edge es x y _ (by rw [hb.inv.size]; exact h2) hy
/-- at the end the marks tell what can be reached -/
theorem Bat.iff {es : List (Nat × Nat)} {T t : Nat} {s : List Bool × List Nat} (hb : Bat es T t s.2.length s) (y : Nat) : s.1.getD y false = true ↔ Reach es t y := by
 refine ⟨hb.inv.reach y, fun hr => ?_⟩
 obtain ⟨l, hl, hn, hm⟩ := hb.inv.head
 have hclosed : ∀ x, x ∈ s.2 → ∀ y, (x, y) ∈ es → s.1.getD y false = true := by
  intro x hx y hy
  obtain ⟨i, hi⟩ := List.getElem?_of_mem hx
  exact hb.done i x (by
   rcases Nat.lt_or_ge i s.2.length with h' | h'
   ·exact h'
   ·rw [List.getElem?_eq_none h'] at hi; cases hi) hi y hy
 have key : ∀ (w : List Nat) (a : Nat), a ∈ s.2 → w ≠ [] → Way es a w y → s.1.getD y false = true := by
  intro w
  induction w with
  | nil => intro a _ h; exact absurd rfl h
  | cons c w ih =>
   intro a ha _ hw
   cases hw with
   | cons h1 h2 =>
    have hc := hclosed a ha c h1
    cases w with
    | nil => cases h2; exact hc
    | cons d w => exact ih c (by rw [hl]; exact List.mem_cons_of_mem _ ((hm c).2 hc)) (by simp) h2
 obtain ⟨w, hw, hway⟩ := hr
 exact key w t (by rw [hl]; simp) hw hway
end Go.Proofs.Ytonlnjdempbfoaa.Pg
end
section
namespace Go.Proofs.Ytonlnjdempbfoaa
open Go.ChangeShapes Go.WideShapes Go.ChangeAt Go.RowKit
set_option maxRecDepth 100000
def headChars : List Char := [Char.ofNat 104, Char.ofNat 97, Char.ofNat 114, Char.ofNat 110, Char.ofNat 101, Char.ofNat 115, Char.ofNat 115, Char.ofNat 32, Char.ofNat 57, Char.ofNat 55, Char.ofNat 56, Char.ofNat 97, Char.ofNat 101, Char.ofNat 54, Char.ofNat 52, Char.ofNat 98, Char.ofNat 53, Char.ofNat 98, Char.ofNat 48, Char.ofNat 97, Char.ofNat 52, Char.ofNat 52, Char.ofNat 102, Char.ofNat 48, Char.ofNat 50, Char.ofNat 56, Char.ofNat 97, Char.ofNat 52, Char.ofNat 54, Char.ofNat 57, Char.ofNat 99, Char.ofNat 98, Char.ofNat 99, Char.ofNat 56, Char.ofNat 100, Char.ofNat 56, Char.ofNat 100, Char.ofNat 56, Char.ofNat 100, Char.ofNat 52, Char.ofNat 99, Char.ofNat 97, Char.ofNat 50, Char.ofNat 48, Char.ofNat 97, Char.ofNat 57, Char.ofNat 51, Char.ofNat 53, Char.ofNat 48, Char.ofNat 49, Char.ofNat 56, Char.ofNat 48, Char.ofNat 100, Char.ofNat 55, Char.ofNat 51, Char.ofNat 97, Char.ofNat 53, Char.ofNat 48, Char.ofNat 97, Char.ofNat 51, Char.ofNat 101, Char.ofNat 99, Char.ofNat 48, Char.ofNat 100, Char.ofNat 56, Char.ofNat 50, Char.ofNat 50, Char.ofNat 97, Char.ofNat 100, Char.ofNat 49, Char.ofNat 54, Char.ofNat 57, Char.ofNat 32, Char.ofNat 99, Char.ofNat 117, Char.ofNat 116, Char.ofNat 32, Char.ofNat 97, Char.ofNat 116, Char.ofNat 32, Char.ofNat 108, Char.ofNat 111, Char.ofNat 111, Char.ofNat 112, Char.ofNat 46, Char.ofNat 101, Char.ofNat 120, Char.ofNat 97, Char.ofNat 109, Char.ofNat 112, Char.ofNat 108, Char.ofNat 101, Char.ofNat 47, Char.ofNat 103, Char.ofNat 48, Char.ofNat 48, Char.ofNat 57, Char.ofNat 54, Char.ofNat 53, Char.ofNat 47, Char.ofNat 108, Char.ofNat 97, Char.ofNat 119, Char.ofNat 115, Char.ofNat 46, Char.ofNat 70, Char.ofNat 110, Char.ofNat 80, Char.ofNat 97, Char.ofNat 114, Char.ofNat 116, Char.ofNat 115]
theorem head_eq : Try.prog.initOrder = String.ofList headChars := by
 unfold headChars
 dsimp only [Try.prog, Try.progTables]
theorem head_toList : Try.prog.initOrder.toList = headChars := by rw [head_eq, String.toList_ofList]
def cutW : List Char := [Char.ofNat 99, Char.ofNat 117, Char.ofNat 116]
def headRest : List (List Char) := (behindMainWord (wordsSigns headChars)).tail
theorem head_words : behindMainWord (wordsSigns headChars) = cutW :: headRest := by kernel_rfl
theorem gc_no : (cutW == "gc".toList) = false := by kernel_rfl
theorem spec_no : (cutW == "spec".toList) = false := by kernel_rfl
theorem carried_no : (cutW == "carried".toList) = false := by kernel_rfl
theorem cut_yes : (cutW == "cut".toList) = true := by kernel_rfl
theorem strip_words : stripLifts liftWords (cutW :: headRest) = ([], cutW :: headRest) := by kernel_rfl
theorem make_of (P : Program) (r : List (List Char)) (h : behindMainWord (wordsSigns P.initOrder.toList) = cutW :: r) : P.make = some .cut := by
 unfold Program.make
 rw [h]
 simp only [gc_no, spec_no, cut_yes, Bool.or_false, Bool.true_or, if_true, Bool.false_eq_true, if_false]
theorem headLifts_of (P : Program) (r : List (List Char)) (h : behindMainWord (wordsSigns P.initOrder.toList) = cutW :: r) (hs : stripLifts liftWords (cutW :: r) = ([], cutW :: r)) : P.headLifts = [] := by
 unfold Program.headLifts
 simp only [h, hs]
 split <;> rfl
theorem liftsFinal_of (P : Program) (r : List (List Char)) (h : behindMainWord (wordsSigns P.initOrder.toList) = cutW :: r) (hs : stripLifts liftWords (cutW :: r) = ([], cutW :: r)) : P.liftsFinal = false := by
 unfold Program.liftsFinal
 have hc : (some cutW == some "carried".toList) = false := carried_no
 simp only [headLifts_of P r h hs, h, List.head?_cons, hc, Bool.false_and, Bool.false_or]
 rfl
theorem mayEnter_of (P : Program) (r : List (List Char)) (h : behindMainWord (wordsSigns P.initOrder.toList) = cutW :: r) (hs : stripLifts liftWords (cutW :: r) = ([], cutW :: r))
  (hl : P.laysLater = false) (hr : P.bearsReflect = false) (hd : P.doorFits [] = true) : P.mayEnter = true := by
 unfold Program.mayEnter
 have hc : (some cutW == some "cut".toList) = true := cut_yes
 simp only [h, hs, gc_no, spec_no, carried_no, hl, hr, hd, hc, List.head?_cons, Bool.or_false, Bool.false_or, Bool.false_and, Bool.not_false, Bool.or_true, Bool.and_true]
 rfl
theorem prog_words : behindMainWord (wordsSigns Try.prog.initOrder.toList) = cutW :: headRest := by rw [head_toList, head_words]
theorem laysLater_prog : Try.prog.laysLater = false := by kernel_rfl
theorem bearsReflect_prog : Try.prog.bearsReflect = false := by kernel_rfl
theorem doorFits_prog : Try.prog.doorFits [] = true := by kernel_rfl
theorem mayEnter_prog : Try.prog.mayEnter = true := mayEnter_of _ _ prog_words strip_words laysLater_prog bearsReflect_prog doorFits_prog
theorem liftsFinal_prog : Try.prog.liftsFinal = false := liftsFinal_of _ _ prog_words strip_words
theorem make_prog : Try.prog.make = some .cut := make_of _ _ prog_words
theorem laidOut_prog : laidOutB Try.prog = true := by kernel_rfl
theorem mapsRowed_prog : mapsRowed Try.prog = true := by kernel_rfl
theorem stopsHeard_prog : Try.prog.stopsHeard = true := by kernel_rfl
theorem plainKeys_prog : Try.prog.plainKeys = true := by kernel_rfl
theorem own_prog : ownKnob Try.prog.godebug = none := by kernel_rfl
/-- the row's closed facts, one by one -/
theorem facts_of {f : FuncId} {fn : Func} {s : ChangeSpec} {c : OpenClaim}
  (k1 : c.wf (OpenSpec.ofChange s) = true) (k4 : fn.params.all (Try.prog.readableRec ·) = true) (k5 : namedTie Try.prog c.named s.vars = true)
  (kp : ((c.stops == []) && (Try.prog.stops == []) && (c.knobs == []) && (Try.prog.stopKnobs == [])) = true)
  (k10 : (c.inPlace == Try.prog.inPlace f) = true) (k11 : (c.unfollowed == Try.prog.unfollowed f) = true) (k12 : (c.recurses == Try.prog.recurses f) = true) (k13 : (c.named == Try.prog.varsNamed f) = true)
  (k14 : ((c.maps == (fn.params.toList ++ s.plain.varTypes Try.prog).any (Try.prog.mapsRec ·)) && (c.ifaces == (fn.params.toList ++ s.plain.varTypes Try.prog).any (Try.prog.ifacesRec ·)) && (c.mapsOut == Try.prog.mapsAmong fn.resultTypes.toList) &&
   (c.loops == (fn.params.toList ++ s.plain.varTypes Try.prog).any (Try.prog.loopsFrom ·)) && (c.wideKeys == (fn.params.toList ++ s.plain.varTypes Try.prog ++ fn.resultTypes.toList).any (Try.prog.wideKeysFrom ·)) &&
   s.vars.all (Try.prog.varReadable ·) && fn.resultTypes.all (fun t => Try.prog.readableRec t && decide (t < Try.prog.types.size)) && (c.ifacesOut == fn.resultTypes.toList.any (Try.prog.ifacesRec ·)) && (c.loopsOut == fn.resultTypes.toList.any (Try.prog.loopsFrom ·)) && (c.plainKeys == true) && c.shortTexts.isNone) = true)
  (k26 : c.lifted = false) (k27 : c.make = .cut) (k28 : (c.kinds == (if c.domain.isEmpty then [] else fn.params.toList.map fun t => match Try.prog.underlying t with | some (.int k) => some k | _ => none)) = true) (k29 : (c.pinned == c.pinnedBy) = true)
  (k30 : ((c.veiled == (fn.params.toList ++ s.plain.varTypes Try.prog ++ fn.resultTypes.toList).any (Try.prog.veiledRec ·)) && c.veiledFits Try.prog fn.params.toList (fn.params.toList ++ s.plain.varTypes Try.prog ++ fn.resultTypes.toList)) = true) :
  joinedFacts Try.prog f fn s c = true := by
 simp only [Bool.and_eq_true] at kp k14 k30
 obtain ⟨⟨⟨p1, p2⟩, p3⟩, p4⟩ := kp
 obtain ⟨⟨⟨⟨⟨⟨⟨⟨⟨⟨q1, q2⟩, q3⟩, q4⟩, q5⟩, q6⟩, q7⟩, q8⟩, q9⟩, q10⟩, q11⟩ := k14
 unfold joinedFacts
 simp only [Bool.and_eq_true]
 rw [make_prog, liftsFinal_prog, plainKeys_prog, k26, k27]
 exact ⟨⟨⟨⟨⟨⟨⟨⟨⟨⟨⟨⟨⟨⟨⟨⟨⟨⟨⟨⟨⟨⟨⟨⟨⟨⟨⟨⟨⟨⟨⟨k1, laidOut_prog⟩, mapsRowed_prog⟩, k4⟩, k5⟩, p1⟩, p2⟩, p3⟩, p4⟩, k10⟩, k11⟩, k12⟩, k13⟩, q1⟩, q2⟩, q3⟩, q4⟩, q5⟩, q6⟩, q7⟩, q8⟩, q9⟩, q10⟩, q11⟩, stopsHeard_prog⟩, mayEnter_prog⟩, rfl⟩, rfl⟩, k28⟩, k29⟩, k30.1⟩, k30.2⟩
end Go.Proofs.Ytonlnjdempbfoaa
end
section
namespace Go.Proofs.Ytonlnjdempbfoaa
open Go.RowKit
set_option maxRecDepth 100000
set_option maxHeartbeats 400000
structure Edge where
 fr : Int
 to : Int
deriving DecidableEq, Inhabited
def edgeE : Enc Edge := { cells := fun s => [.int .i64 s.fr, .int .i64 s.to], sz := 2, len := fun _ => rfl, one := fun _ u hu => by simp at hu; rcases hu with rfl | rfl <;> rfl }
@[go_sem] def edgeV (s : Edge) : Value := .agg #[.int .i64 s.fr, .int .i64 s.to]
theorem Rd.edge {w : World} {B : Nat} {A : Option Addr} {n c : Nat} {l : List Edge} (h : Rd edgeE w B (.slice A n c) l) {k : Nat} (hk : k < l.length) :
  ∃ b o, A = some ⟨b, o, none⟩ ∧ b < B ∧ w.cell? ⟨b, o + k * 2, none⟩ = some (.int .i64 l[k].fr) ∧ w.cell? ⟨b, o + k * 2 + 1, none⟩ = some (.int .i64 l[k].to) := by
 obtain ⟨A', c', hv, _, hA⟩ := h
 obtain ⟨b, o, hA', hb, hc⟩ := hA (by omega)
 simp only [Value.slice.injEq] at hv
 obtain ⟨rfl, _, _⟩ := hv
 exact ⟨b, o, hA', hb, hc k hk 0 _ rfl, hc k hk 1 _ rfl⟩
theorem Ow.edge {E : TypeId} {w : World} {base g n cap : Nat} {l : List Edge} (h : Ow edgeE E w base (.slice (some ⟨g, 0, none⟩) n cap) l) {k : Nat} (hk : k < l.length) :
  w.cell? ⟨g, k * 2, none⟩ = some (.int .i64 l[k].fr) ∧ w.cell? ⟨g, k * 2 + 1, none⟩ = some (.int .i64 l[k].to) := by
 rcases h.form with ⟨h1, _⟩ | ⟨g', cap', hv, _, _, _, _, _, hc⟩
 ·simp at h1
 ·simp only [Value.slice.injEq, Option.some.injEq, Addr.mk.injEq, and_true] at hv
  obtain ⟨rfl, _, _⟩ := hv
  exact ⟨hc k hk 0 _ rfl, hc k hk 1 _ rfl⟩
theorem edge_info : (Try.prog.info? 94).map (fun i => (i.zero, i.size, i.bytes)) = some (some (edgeV ⟨0, 0⟩), 2, 16) := by kernel_rfl
end Go.Proofs.Ytonlnjdempbfoaa
end
section
namespace Go.Proofs.Ytonlnjdempbfoaa
open Go.ChangeShapes Go.WideShapes Go.ChangeAt Go.RowKit Go.Deep
set_option maxRecDepth 100000
section
variable {H : Type} {enc : TypeId × Value → H} {P : Program} {w : World} {spare : Nat → Bool} {held : Bool}
theorem read_slice {α : Type} [Inhabited α] (E : Enc α) (ok : α → Prop) {t e : TypeId} {fuel : Nat} {cs : List Value} {x : DataW H × List MemPlace} (ht : P.underlying t = some (.slice e)) (hsz : P.cellsOf e = E.sz) (hpos : 0 < E.sz)
  (hel : ∀ n cs' y, DataW.trod enc P w 0 spare held n e cs' = some y → ∃ z : α, cs' = E.cells z ∧ ok z)
  (h : DataW.trod enc P w 0 spare held fuel t cs = some x) : ∃ (v : Value) (l : List α), cs = [v] ∧ Rd E w w.heap.size v l ∧ (∀ z ∈ l, ok z) ∧ l.length ≤ maxLen := by
 rcases open_slice ht h with ⟨rfl, _⟩ | ⟨a, len, cap, m, n, D, Pl, rfl, _, hl, hm, hmm, _, hi⟩
 ·exact ⟨_, [], rfl, ⟨none, 0, rfl, by simp, fun h => absurd h (by simp)⟩, by simp, by simp⟩
 ·have hlm : len ≤ m := by rw [hmm]; split <;> omega
  have hsp0 : 0 < len → a.spot = none ∧ a.block < w.heap.size := by
   intro h0l
   obtain ⟨cs', hc, ht'⟩ := hi 0 (by omega)
   obtain ⟨z, rfl, hz⟩ := hel _ _ _ ht'
   rw [hsz] at hc
   obtain ⟨_, hlen, hat⟩ := World.cells?_some hc
   have h0 := hat 0 hpos
   have e0 : (a.add (0 * E.sz)).add 0 = a := by simp [Addr.add]
   rw [e0, List.getElem?_eq_getElem (by rw [E.len]; exact hpos)] at h0
   refine ⟨World.cell?_spot h0, ?_⟩
   rcases Nat.lt_or_ge a.block w.heap.size with hlt | hge
   ·exact hlt
   ·unfold World.cell? at h0
    rw [Array.getElem?_eq_none hge] at h0
    simp at h0
  have each : ∀ i, i < len → ∃ z : α, ok z ∧ ∀ j u, (E.cells z)[j]? = some u → w.cell? ⟨a.block, a.off + i * E.sz + j, none⟩ = some u := by
   intro i hil
   have hsp := (hsp0 (by omega)).1
   obtain ⟨cs', hc, ht'⟩ := hi i (by omega)
   obtain ⟨z, rfl, hz⟩ := hel _ _ _ ht'
   rw [hsz] at hc
   obtain ⟨_, hlen, hat⟩ := World.cells?_some hc
   have hadd : ∀ j, ((a.add (i * E.sz)).add j) = ⟨a.block, a.off + i * E.sz + j, none⟩ := by
    intro j
    obtain ⟨ab, ao, sp⟩ := a
    simp only at hsp
    subst hsp
    unfold Addr.add
    by_cases h1 : i * E.sz = 0 <;> by_cases h2 : j = 0 <;> simp [h1, h2]
   refine ⟨z, hz, fun j u hu => ?_⟩
   have hj : j < E.sz := by
    have := (List.getElem?_eq_some_iff.1 hu).1
    rw [E.len] at this
    exact this
   rw [← hadd, hat j hj]
   exact hu
  obtain ⟨f, hf⟩ := choose_lt each
  refine ⟨_, (List.range len).map f, rfl, ⟨some a, cap, by simp, by simpa using hl, fun hp => ?_⟩, ?_, by simp; omega⟩
  ·simp only [List.length_map, List.length_range] at hp
   obtain ⟨hsp, hb⟩ := hsp0 hp
   refine ⟨a.block, a.off, by rw [← hsp], hb, fun k hk j u hu => ?_⟩
   simp only [List.length_map, List.length_range] at hk
   simp only [List.getElem_map, List.getElem_range] at hu
   exact (hf k hk).2 j u hu
  ·intro z hz
   simp only [List.mem_map, List.mem_range] at hz
   obtain ⟨i, hi', rfl⟩ := hz
   exact (hf i hi').1
end
end Go.Proofs.Ytonlnjdempbfoaa
end
section
namespace Go.Proofs.Ytonlnjdempbfoaa
open Go.RowKit
set_option maxRecDepth 100000
set_option maxHeartbeats 400000
structure Fence where
 run : Int
 task : Int
 try_ : Int
 text : ByteArray
deriving DecidableEq, Inhabited
@[go_sem] def fenceV (s : Fence) : Value := .agg #[.int .i64 s.run, .int .i64 s.task, .int .i64 s.try_, .string s.text]
end Go.Proofs.Ytonlnjdempbfoaa
end
section
namespace Go.Proofs.Ytonlnjdempbfoaa
open Go.RowKit
theorem pS : (∀ (a : Act) (d : Tmp) (v : Value), a.put (some d) v = { a with tmps := a.tmps.setIfInBounds d v }) ∧ (∀ (a : Act) (v : Value), a.put none v = a) ∧ (∀ (l : List Value) (i : Nat) (v : Value), l.toArray.setIfInBounds i v = (l.set i v).toArray) ∧
  (∀ (x : Value) (l : List Value) (v : Value), (x :: l).set 0 v = v :: l) ∧ (∀ (x : Value) (l : List Value) (i : Nat) (v : Value), (x :: l).set (i + 1) v = x :: l.set i v) :=
 ⟨fun _ _ _ => rfl, fun _ _ => rfl, fun _ _ _ => List.setIfInBounds_toArray .., fun _ _ _ => rfl, fun _ _ _ _ => rfl⟩
end Go.Proofs.Ytonlnjdempbfoaa
end
section
namespace Go.Proofs.Ytonlnjdempbfoaa
open Go.RowKit
set_option maxRecDepth 100000
set_option maxHeartbeats 400000
structure Slot where
 task : Int
 worker : Int
 fr : Int
 to : Int
deriving DecidableEq, Inhabited
@[go_sem] def slotV (s : Slot) : Value := .agg #[.int .i64 s.task, .int .i64 s.worker, .int .i64 s.fr, .int .i64 s.to]
end Go.Proofs.Ytonlnjdempbfoaa
end
section
namespace Go.Proofs.Ytonlnjdempbfoaa
open Go.RowKit
set_option maxRecDepth 100000
structure Plan where
 prio : Int
 most : Int
 wait : Int
 tasks : Int
 edges : List Edge
deriving DecidableEq, Inhabited
@[go_sem] abbrev planV (p : Plan) (ve : Value) : Value := .agg #[.int .i64 p.prio, .int .i64 p.most, .int .i64 p.wait, .int .i64 p.tasks, ve]
def natE : Enc Nat := { cells := fun x => [.int .i64 (x : Int)], sz := 1, len := fun _ => rfl, one := fun _ u hu => by simp at hu; subst hu; rfl }
def boolE : Enc Bool := { cells := fun x => [.bool x], sz := 1, len := fun _ => rfl, one := fun _ u hu => by simp at hu; subst hu; rfl }
def inB (n lo hi : Int) : Bool := decide (lo ≤ n) && decide (n ≤ hi)
theorem inB_iff {n lo hi : Int} : inB n lo hi = true ↔ lo ≤ n ∧ n ≤ hi := by simp [inB]
def manyOk (p : Plan) : Bool := inB p.tasks 1 12 && decide (p.edges.length ≤ 30) && inB p.prio 0 9 && inB p.most 1 5 && inB p.wait 1 20
def edgeIn (T : Int) (e : Edge) : Bool := inB e.fr 0 (T - 1) && inB e.to 0 (T - 1)
def esL (l : List Edge) : List (Nat × Nat) := l.map fun e => (e.fr.toNat, e.to.toNat)
def esOf (p : Plan) : List (Nat × Nat) := esL p.edges
def edgesIn (p : Plan) : Prop := ∀ e ∈ p.edges, edgeIn p.tasks e = true
def cyclic (p : Plan) : Prop := ∃ t, t < p.tasks.toNat ∧ Pg.Reach (esOf p) t t
open Classical in
noncomputable def planFault (p : Plan) : Int :=
 if manyOk p = false then 1 else if ¬ edgesIn p then 2 else if ¬ p.edges.Nodup then 3 else if cyclic p then 4 else 0
theorem planFault_zero {p : Plan} : planFault p = 0 ↔ manyOk p = true ∧ edgesIn p ∧ p.edges.Nodup ∧ ¬ cyclic p := by
 unfold planFault
 cases h1 : manyOk p
 ·simp
 ·by_cases h2 : edgesIn p <;> by_cases h3 : p.edges.Nodup <;> by_cases h4 : cyclic p <;> simp [h2, h3, h4]
theorem manyOk_tasks {p : Plan} (h : manyOk p = true) : 1 ≤ p.tasks ∧ p.tasks ≤ 12 := by
 simp only [manyOk, Bool.and_eq_true] at h
 exact inB_iff.1 h.1.1.1.1
theorem manyOk_edges {p : Plan} (h : manyOk p = true) : p.edges.length ≤ 30 := by
 simp only [manyOk, Bool.and_eq_true, decide_eq_true_eq] at h
 exact h.1.1.1.2
theorem edgesIn_get {p : Plan} (h : edgesIn p) {k : Nat} (hk : k < p.edges.length) : 0 ≤ p.edges[k].fr ∧ p.edges[k].fr < p.tasks ∧ 0 ≤ p.edges[k].to ∧ p.edges[k].to < p.tasks := by
 have := h _ (List.getElem_mem hk)
 simp only [edgeIn, Bool.and_eq_true, inB_iff] at this
 omega
theorem esOf_lt {p : Plan} (h : edgesIn p) : (∀ e ∈ esOf p, e.1 < p.tasks.toNat) ∧ (∀ e ∈ esOf p, e.2 < p.tasks.toNat) := by
 have : ∀ e ∈ esOf p, e.1 < p.tasks.toNat ∧ e.2 < p.tasks.toNat := by
  intro e he
  simp only [esOf, esL, List.mem_map] at he
  obtain ⟨x, hx, rfl⟩ := he
  have := h x hx
  simp only [edgeIn, Bool.and_eq_true, inB_iff] at this
  simp only
  omega
 exact ⟨fun e he => (this e he).1, fun e he => (this e he).2⟩
theorem Rd.nat {w : World} {B : Nat} {A : Option Addr} {n c : Nat} {l : List Nat} (h : Rd natE w B (.slice A n c) l) {k : Nat} (hk : k < l.length) :
  ∃ b o, A = some ⟨b, o, none⟩ ∧ b < B ∧ w.cell? ⟨b, o + k, none⟩ = some (.int .i64 (l[k] : Int)) := by
 obtain ⟨A', c', hv, _, hA⟩ := h
 obtain ⟨b, o, hA', hb, hc⟩ := hA (by omega)
 simp only [Value.slice.injEq] at hv
 obtain ⟨rfl, _, _⟩ := hv
 exact ⟨b, o, hA', hb, by simpa [natE] using hc k hk 0 _ rfl⟩
theorem Rd.int {w : World} {B : Nat} {A : Option Addr} {n c : Nat} {l : List Int} (h : Rd intE w B (.slice A n c) l) {k : Nat} (hk : k < l.length) :
  ∃ b o, A = some ⟨b, o, none⟩ ∧ b < B ∧ w.cell? ⟨b, o + k, none⟩ = some (.int .i64 l[k]) := by
 obtain ⟨A', c', hv, _, hA⟩ := h
 obtain ⟨b, o, hA', hb, hc⟩ := hA (by omega)
 simp only [Value.slice.injEq] at hv
 obtain ⟨rfl, _, _⟩ := hv
 exact ⟨b, o, hA', hb, by simpa [intE] using hc k hk 0 _ rfl⟩
theorem Rd.bool {w : World} {B : Nat} {A : Option Addr} {n c : Nat} {l : List Bool} (h : Rd boolE w B (.slice A n c) l) {k : Nat} (hk : k < l.length) :
  ∃ b o, A = some ⟨b, o, none⟩ ∧ b < B ∧ w.cell? ⟨b, o + k, none⟩ = some (.bool l[k]) := by
 obtain ⟨A', c', hv, _, hA⟩ := h
 obtain ⟨b, o, hA', hb, hc⟩ := hA (by omega)
 simp only [Value.slice.injEq] at hv
 obtain ⟨rfl, _, _⟩ := hv
 exact ⟨b, o, hA', hb, by simpa [boolE] using hc k hk 0 _ rfl⟩
theorem Ow.one_ {α : Type} {e : Enc α} (hsz : e.sz = 1) {E : TypeId} {w : World} {base g n cap : Nat} {l : List α} (h : Ow e E w base (.slice (some ⟨g, 0, none⟩) n cap) l) {k : Nat} (hk : k < l.length) {u : Value} (hu : (e.cells l[k])[0]? = some u) :
  w.cell? ⟨g, k, none⟩ = some u := by
 rcases h.form with ⟨h1, _⟩ | ⟨g', cap', hv, _, _, _, _, _, hc⟩
 ·simp at h1
 ·simp only [Value.slice.injEq, Option.some.injEq, Addr.mk.injEq, and_true] at hv
  obtain ⟨rfl, _, _⟩ := hv
  have := hc k hk 0 u hu
  rw [hsz] at this
  simpa using this
theorem Ow.nat {E : TypeId} {w : World} {base g n cap : Nat} {l : List Nat} (h : Ow natE E w base (.slice (some ⟨g, 0, none⟩) n cap) l) {k : Nat} (hk : k < l.length) : w.cell? ⟨g, k, none⟩ = some (.int .i64 (l[k] : Int)) := h.one_ rfl hk rfl
theorem Ow.int {E : TypeId} {w : World} {base g n cap : Nat} {l : List Int} (h : Ow intE E w base (.slice (some ⟨g, 0, none⟩) n cap) l) {k : Nat} (hk : k < l.length) : w.cell? ⟨g, k, none⟩ = some (.int .i64 l[k]) := h.one_ rfl hk rfl
theorem Ow.bool {E : TypeId} {w : World} {base g n cap : Nat} {l : List Bool} (h : Ow boolE E w base (.slice (some ⟨g, 0, none⟩) n cap) l) {k : Nat} (hk : k < l.length) : w.cell? ⟨g, k, none⟩ = some (.bool l[k]) := h.one_ rfl hk rfl
/-- the world with a plan's variable laid -/
def planBox (T : TypeId) (p : Plan) (ve : Value) (w : World) : World := w.alloc (.cells #[.int .i64 p.prio, .int .i64 p.most, .int .i64 p.wait, .int .i64 p.tasks, ve] T)
theorem planBox_below (T : TypeId) (p : Plan) (ve : Value) (w : World) : Below w.heap.size w (planBox T p ve w) := (Below.refl _ _).alloc (Nat.le_refl _) _
theorem planBox_size (T : TypeId) (p : Plan) (ve : Value) (w : World) : (planBox T p ve w).heap.size = w.heap.size + 1 := by simp [planBox]
theorem planBox_cells {T : TypeId} {p : Plan} {ve : Value} {w wr : World} (hb : Below (planBox T p ve w).heap.size (planBox T p ve w) wr) :
  wr.cell? ⟨w.heap.size, 0, none⟩ = some (.int .i64 p.prio) ∧ wr.cell? ⟨w.heap.size, 1, none⟩ = some (.int .i64 p.most) ∧ wr.cell? ⟨w.heap.size, 2, none⟩ = some (.int .i64 p.wait) ∧
   wr.cell? ⟨w.heap.size, 3, none⟩ = some (.int .i64 p.tasks) ∧ wr.cell? ⟨w.heap.size, 4, none⟩ = some ve ∧ w.heap.size + 1 ≤ wr.heap.size ∧ Below w.heap.size w wr := by
 have hs := planBox_size T p ve w
 have h : ∀ j u, (planBox T p ve w).cell? ⟨w.heap.size, j, none⟩ = some u → wr.cell? ⟨w.heap.size, j, none⟩ = some u := fun j u hu => (hb.cell (p := ⟨w.heap.size, j, none⟩) (by rw [hs]; simp)).trans hu
 refine ⟨h 0 _ ?_, h 1 _ ?_, h 2 _ ?_, h 3 _ ?_, h 4 _ ?_, by rw [← hs]; exact hb.size, (planBox_below T p ve w).trans (hb.mono (by rw [hs]; omega))⟩
 all_goals simp [planBox, go_sem]
end Go.Proofs.Ytonlnjdempbfoaa
end
section
namespace Go.Proofs.Ytonlnjdempbfoaa
open Go.RowKit
section
variable {P : Program} {ops : Array Oper} {Q : Exit → Act → World → Prop} {md : Region.Mode} {S : World → Prop} {last : Nat}
/-- whatever order is picked, and S holds behind every operation but the last -/
def wpAnyL (P : Program) (md : Region.Mode) (ops : Array Oper) (Q : Exit → Act → World → Prop) (S : World → Prop) (last : Nat) : Nat → Array Bool → Act → World → Prop
 | 0, listed, a, w => Region.ready md ops listed = [] ∧ Q .normal a w
 | fuel + 1, listed, a, w =>
  (Region.ready md ops listed = [] → Q .normal a w) ∧
  ∀ i ∈ Region.ready md ops listed, wpOp P ops Q i (fun a' w' => (i ≠ last → S w') ∧ wpAnyL P md ops Q S last fuel (listed.setIfInBounds i true) a' w') a w
theorem wpAny_of_L : ∀ (fuel : Nat) (listed : Array Bool) (a : Act) (w : World), wpAnyL P md ops Q S last fuel listed a w → wpAny P md ops Q fuel listed a w
 | 0, _, _, _, h => h
 | fuel + 1, _, _, _, h => ⟨h.1, fun i hi => wpOp_mono (fun a' w' h' => wpAny_of_L fuel _ a' w' h'.2) (h.2 i hi)⟩
/-- the last operation waits for operation i by an edge of its own -/
def lastWaits (md : Region.Mode) (ops : Array Oper) (last i : Nat) : Bool :=
 match ops[last]? with
 | some o => o.after.any fun e => Region.binds md e && e.on == i
 | none => true
theorem wpAnyL_first {i : Nat} {oi : Oper} {v : Value} (hi : ops[i]? = some oi) (hsel : ∀ (j : Nat) (o : Oper) cs b, ops[j]? = some o → o.op ≠ .select cs b)
  (hQ : ∀ c a w, Q (.panic c) (a.put oi.dst v) w → Q (.panic c) a w) (hl : lastWaits md ops last i = true) :
  ∀ (fuel : Nat) (listed : Array Bool) (a : Act) (w : World),
   (∀ j oj, ops[j]? = some oj → j ≠ i → listed.getD j true = false → (∀ e ∈ oj.after, Region.binds md e = true → e.on ≠ i) → oi.apart ops oj = true) →
   i ∈ Region.ready md ops listed → YieldsIf P ops S oi v a → S w →
   wpAnyL P md ops Q S last fuel (listed.setIfInBounds i true) (a.put oi.dst v) w → wpAnyL P md ops Q S last (fuel + 1) listed a w := by
 intro fuel
 induction fuel with
 | zero =>
  intro listed a w _ hr hy hS H
  refine ⟨fun h => (by rw [h] at hr; cases hr), fun j hj => ?_⟩
  by_cases hji : j = i
  ·subst hji; exact hy.wpOp hi hS ⟨fun _ => hS, H⟩
  ·have := ready_mono hj hji
   rw [H.1] at this
   cases this
 | succ fuel ih =>
  intro listed a w hfree hr hy hS H
  refine ⟨fun h => (by rw [h] at hr; cases hr), fun j hj => ?_⟩
  by_cases hji : j = i
  ·subst hji; exact hy.wpOp hi hS ⟨fun _ => hS, H⟩
  ·have h1 := H.2 j (ready_mono hj hji)
   obtain ⟨hjun, oj, hoj, hall⟩ := mem_ready.1 hj
   have hnot : ∀ e ∈ oj.after, Region.binds md e = true → e.on ≠ i := fun e he hb heq => by
    have h1 := hall e he hb
    have h0 := (mem_ready.1 hr).1
    rw [heq] at h1
    rcases Nat.lt_or_ge i listed.size with h' | h'
    ·simp [h'] at h0 h1; rw [h0] at h1; cases h1
    ·simp [Array.getElem?_eq_none h'] at h1
   have hjl : j ≠ last := by
    intro e
    subst e
    unfold lastWaits at hl
    rw [hoj] at hl
    simp only [Array.any_eq_true] at hl
    obtain ⟨k, hk, hb⟩ := hl
    simp only [Bool.and_eq_true, beq_iff_eq] at hb
    exact hnot _ (Array.getElem_mem hk) hb.1 hb.2
   have h2 := wpOp_putIf hoj (hfree j oj hoj hji hjun hnot) (fun cs b => hsel i oi cs b hi) (fun cs b => hsel j oj cs b hoj) hQ hy h1
   have hfree' : ∀ k ok, ops[k]? = some ok → k ≠ i → (listed.setIfInBounds j true).getD k true = false →
     (∀ e ∈ ok.after, Region.binds md e = true → e.on ≠ i) → oi.apart ops ok = true := fun k ok hk hki hun hno => by
    refine hfree k ok hk hki ?_ hno
    by_cases hjk : j = k
    ·subst hjk; exact hjun
    ·rw [getD_set_ne true hjk] at hun; exact hun
   refine wpOp_mono (fun a' w' h3 => ⟨h3.2.1, ih (listed.setIfInBounds j true) a' w' hfree' (ready_mono hr (Ne.symm hji)) h3.1 (h3.2.1 hjl) ?_⟩) h2
   rw [Array.setIfInBounds_comm _ _ hji]
   exact h3.2.2
theorem wpAnyL_take {i : Nat} {oi : Oper} {v : Value} {fuel : Nat} {listed : Array Bool} {a : Act} {w : World} (hi : ops[i]? = some oi)
  (hs : Region.noSelect ops = true) (hl : lastWaits md ops last i = true) (hf : Region.free md ops listed i = true) (hr : (Region.ready md ops listed).contains i = true)
  (hQ : ∀ c a w, Q (.panic c) (a.put oi.dst v) w → Q (.panic c) a w) (hS : S w) (hy : YieldsIf P ops S oi v a)
  (h : wpAnyL P md ops Q S last fuel (listed.setIfInBounds i true) (a.put oi.dst v) w) : wpAnyL P md ops Q S last (fuel + 1) listed a w :=
 wpAnyL_first hi (Region.noSelect_spec hs) hQ hl fuel listed a w (Region.free_spec hi hf) (by simpa using hr) hy hS h
/-- operation i is taken first: the side conditions by the walk's own steps -/
theorem aT (i : Nat) {oi : Oper} {v : Value} {fuel : Nat} {listed : Array Bool} {a : Act} {w : World} (hS : S w)
  (h : wpAnyL P md ops Q S last fuel (listed.setIfInBounds i true) (a.put oi.dst v) w) (hi : ops[i]? = some oi := by rfl)
  (hs : Region.noSelect ops = true := by kernel_rfl) (hl : lastWaits md ops last i = true := by kernel_rfl) (hf : Region.free md ops listed i = true := by kernel_rfl) (hr : (Region.ready md ops listed).contains i = true := by kernel_rfl)
  (hQ : ∀ c a w, Q (.panic c) (a.put oi.dst v) w → Q (.panic c) a w := by exact fun _ _ _ h => h) (hw : Region.wanted oi (yielded ops a.tmps) = true := by rfl)
  (hy : ∀ w, S w → (execOp a.eval oi).run P w = .ok (.value v) w := by (intro w hSw; (try dsimp only at hSw); go_simp; all_goals with_reducible rfl)) : wpAnyL P md ops Q S last (fuel + 1) listed a w :=
 wpAnyL_take hi hs hl hf hr hQ hS (Or.inl ⟨hw, hy⟩) h
/-- one operation alone may come up -/
theorem wpAnyL_one {i : Nat} {o : Oper} {fuel : Nat} {listed : Array Bool} {a : Act} {w : World} (ho : ops[i]? = some o) (hr : Region.ready md ops listed = [i])
  (h : ∀ K' : Act → World → Prop, Hid (∀ a w, (i ≠ last → S w) → wpAnyL P md ops Q S last fuel (listed.setIfInBounds i true) a w → K' a w) →
   if Region.wanted o (yielded ops a.tmps) = true then Oper.wp P o a w K' Q else K' (a.put o.dst undef) w) : wpAnyL P md ops Q S last (fuel + 1) listed a w := by
 refine ⟨fun h0 => (by rw [hr] at h0; cases h0), fun j hj => ?_⟩
 rw [hr, List.mem_singleton] at hj
 subst hj
 exact wpOp_step ho (fun K' hK => h K' (fun a w hS hW => hK a w ⟨hS, hW⟩))
theorem oT (i : Nat) {o : Oper} {fuel : Nat} {listed : Array Bool} {a : Act} {w : World}
  (h : ∀ K' : Act → World → Prop, Hid (∀ a w, (i ≠ last → S w) → wpAnyL P md ops Q S last fuel (listed.setIfInBounds i true) a w → K' a w) →
   if Region.wanted o (yielded ops a.tmps) = true then Oper.wp P o a w K' Q else K' (a.put o.dst undef) w) (ho : ops[i]? = some o := by rfl) (hr : Region.ready md ops listed = [i] := by kernel_rfl) : wpAnyL P md ops Q S last (fuel + 1) listed a w := wpAnyL_one ho hr h
theorem wpAnyL_done {listed : Array Bool} {a : Act} {w : World} (hr : Region.ready md ops listed = []) (h : Q .normal a w) : ∀ fuel, wpAnyL P md ops Q S last fuel listed a w
 | 0 => ⟨hr, h⟩
 | _ + 1 => ⟨fun _ => h, by rw [hr]; intro i hi; cases hi⟩
theorem wp_region_last {id : Nat} {a : Act} {w : World} (S : World → Prop) (last : Nat) (hm : P.follows .mixedOrders = true) (hS : S w.drew)
  (h : S w.drew → wpAnyL P .any ops Q S last ops.size (Array.replicate ops.size false) a w.drew) : (Code.region id ops true).wp P Q a w :=
 wp_region_any hm (wpAny_of_L _ _ _ _ (h hS))
end
end Go.Proofs.Ytonlnjdempbfoaa
end
section
namespace Go.Proofs.Ytonlnjdempbfoaa
open Go.RowKit
set_option maxRecDepth 100000
set_option linter.unusedVariables false
/-- operation i of a region that draws its order is taken first: it is wanted -/
theorem takeY {P : Program} {md : Region.Mode} {Q : Exit → Act → World → Prop} {S : World → Prop} {l : List Oper} (i : Nat) {oi : Oper} {v : Value} {fuel : Nat} {listed : Array Bool} {a : Act} {w : World} (hi : l[i]? = some oi)
  (hs : Region.noSelect l.toArray = true) (hf : Region.free md l.toArray listed i = true) (hr : (Region.ready md l.toArray listed).contains i = true) (hQ : ∀ c a w, Q (.panic c) (a.put oi.dst v) w → Q (.panic c) a w)
  (hw : Region.wanted oi (yielded l.toArray a.tmps) = true) (hy : ∀ w, S w → (execOp a.eval oi).run P w = .ok (.value v) w) (hS : S w)
  (h : wpAnyH P md l.toArray Q S fuel (listed.setIfInBounds i true) (a.put oi.dst v) w) : wpAnyH P md l.toArray Q S (fuel + 1) listed a w :=
 wpAnyH_take (by rw [List.getElem?_toArray]; exact hi) hs hf hr hQ (.inl ⟨hw, hy⟩) hS h
/-- operation i comes up alone -/
theorem readyC {P : Program} {md : Region.Mode} {Q : Exit → Act → World → Prop} {S : World → Prop} {l : List Oper} (i : Nat) {o : Oper} {fuel : Nat} {listed : Array Bool} {a : Act} {w : World} (ho : l[i]? = some o)
  (hr : Region.ready md l.toArray listed = [i]) (hw : Region.wanted o (yielded l.toArray a.tmps) = true)
  (h : ∀ K' : Act → World → Prop, Shut (∀ a w, S w → (S w → wpAnyH P md l.toArray Q S fuel (listed.setIfInBounds i true) a w) → K' a w) → Oper.wp P o a w K' Q) : wpAnyH P md l.toArray Q S (fuel + 1) listed a w :=
 wpAnyH_ready hr (by simp) (AllReadyH.cons (o := o) (by rw [List.getElem?_toArray]; exact ho) (fun K hK => by rw [if_pos hw]; exact h K hK) AllReadyH.nil)
/-- two operations come up -/
theorem readyC2 {P : Program} {md : Region.Mode} {Q : Exit → Act → World → Prop} {S : World → Prop} {l : List Oper} (i j : Nat) {oi oj : Oper} {fuel : Nat} {listed : Array Bool} {a : Act} {w : World} (hi : l[i]? = some oi) (hj : l[j]? = some oj)
  (hr : Region.ready md l.toArray listed = [i, j]) (wi : Region.wanted oi (yielded l.toArray a.tmps) = true) (wj : Region.wanted oj (yielded l.toArray a.tmps) = true)
  (h1 : ∀ K' : Act → World → Prop, Shut (∀ a w, S w → (S w → wpAnyH P md l.toArray Q S fuel (listed.setIfInBounds i true) a w) → K' a w) → Oper.wp P oi a w K' Q)
  (h2 : ∀ K' : Act → World → Prop, Shut (∀ a w, S w → (S w → wpAnyH P md l.toArray Q S fuel (listed.setIfInBounds j true) a w) → K' a w) → Oper.wp P oj a w K' Q) : wpAnyH P md l.toArray Q S (fuel + 1) listed a w :=
 wpAnyH_ready hr (by simp) (AllReadyH.cons (o := oi) (by rw [List.getElem?_toArray]; exact hi) (fun K hK => by rw [if_pos wi]; exact h1 K hK) (AllReadyH.cons (o := oj) (by rw [List.getElem?_toArray]; exact hj) (fun K hK => by rw [if_pos wj]; exact h2 K hK) AllReadyH.nil))
/-- operation i is taken first: the side conditions by the walk's own steps -/
theorem tY {P : Program} {md : Region.Mode} {Q : Exit → Act → World → Prop} {S : World → Prop} {l : List Oper} (i : Nat) {oi : Oper} {v : Value} {fuel : Nat} {listed : Array Bool} {a : Act} {w : World}
  (h : wpAnyH P md l.toArray Q S fuel (listed.setIfInBounds i true) (a.put oi.dst v) w) (hi : l[i]? = some oi := by rfl)
  (hs : Region.noSelect l.toArray = true := by kernel_rfl) (hf : Region.free md l.toArray listed i = true := by kernel_rfl) (hr : (Region.ready md l.toArray listed).contains i = true := by kernel_rfl) (hQ : ∀ c a w, Q (.panic c) (a.put oi.dst v) w → Q (.panic c) a w := by exact fun _ _ _ h => h)
  (hw : Region.wanted oi (yielded l.toArray a.tmps) = true := by rfl) (hS : S w := by assumption)
  (hy : ∀ w, S w → (execOp a.eval oi).run P w = .ok (.value v) w := by (intro w' hSw; (try dsimp only at hSw); (try have h0 := hSw.cell 0 _ rfl); (try have h1 := hSw.cell 1 _ rfl); (try have h2 := hSw.cell 2 _ rfl); (try have h3 := hSw.cell 3 _ rfl); (try have h4 := hSw.cell 4 _ rfl); (try have h5 := hSw.cell 5 _ rfl); (try have h6 := hSw.cell 6 _ rfl); (try have h7 := hSw.cell 7 _ rfl); (try have h8 := hSw.cell 8 _ rfl); (try have h9 := hSw.cell 9 _ rfl); (try have h10 := hSw.cell 10 _ rfl); (try have h11 := hSw.cell 11 _ rfl); go_simp; (try with_reducible rfl))) :
  wpAnyH P md l.toArray Q S (fuel + 1) listed a w := takeY i hi hs hf hr hQ hw hy hS h
theorem tZ {P : Program} {md : Region.Mode} {Q : Exit → Act → World → Prop} {S : World → Prop} {l : List Oper} (i : Nat) {oi : Oper} {v : Value} {fuel : Nat} {listed : Array Bool} {a : Act} {w : World}
  (h : wpAnyH P md l.toArray Q S fuel (listed.setIfInBounds i true) (a.put oi.dst v) w) (hi : l[i]? = some oi := by rfl)
  (hs : Region.noSelect l.toArray = true := by kernel_rfl) (hf : Region.free md l.toArray listed i = true := by kernel_rfl) (hr : (Region.ready md l.toArray listed).contains i = true := by kernel_rfl) (hQ : ∀ c a w, Q (.panic c) (a.put oi.dst v) w → Q (.panic c) a w := by exact fun _ _ _ h => h)
  (hw : Region.wanted oi (yielded l.toArray a.tmps) = true := by rfl) (hS : S w := by assumption) (hy : ∀ w, S w → (execOp a.eval oi).run P w = .ok (.value v) w) : wpAnyH P md l.toArray Q S (fuel + 1) listed a w := takeY i hi hs hf hr hQ hw hy hS h
theorem rC {P : Program} {md : Region.Mode} {Q : Exit → Act → World → Prop} {S : World → Prop} {l : List Oper} (i : Nat) {o : Oper} {fuel : Nat} {listed : Array Bool} {a : Act} {w : World}
  (h : ∀ K' : Act → World → Prop, Shut (∀ a w, S w → (S w → wpAnyH P md l.toArray Q S fuel (listed.setIfInBounds i true) a w) → K' a w) → Oper.wp P o a w K' Q) (ho : l[i]? = some o := by rfl)
  (hr : Region.ready md l.toArray listed = [i] := by kernel_rfl) (hw : Region.wanted o (yielded l.toArray a.tmps) = true := by rfl) : wpAnyH P md l.toArray Q S (fuel + 1) listed a w := readyC i ho hr hw h
end Go.Proofs.Ytonlnjdempbfoaa
end
section
namespace Go.Proofs.Ytonlnjdempbfoaa
open Go.RowKit
set_option maxRecDepth 100000
set_option maxHeartbeats 1000000
/-- a plan of the call's own -/
def ToPlanPost (p : Plan) (w : World) (e : Ending) (w' : World) : Prop := ∃ v, e = .returned (planV p v) ∧ Ow edgeE 94 w' w.heap.size v p.edges ∧ Below w.heap.size w w'
end Go.Proofs.Ytonlnjdempbfoaa
end
section
namespace Go.Proofs.Ytonlnjdempbfoaa
open Go.RowKit
set_option maxRecDepth 100000
set_option maxHeartbeats 400000
theorem within_any (n lo hi : Int) (w : World) : Calls Try.prog 21 #[.int .i64 n, .int .i64 lo, .int .i64 hi] w fun e w' => e = .returned (.bool (inB n lo hi)) ∧ w = w' := by
 by_cases h1 : lo ≤ n
 ·have t1 : decide (lo ≤ n) = true := by simpa using h1
  go_enter Try.func21, Try.ntmps21
  go_wp2
  go_ret
  exact ⟨ret_bool (by simp [inB, t1]), rfl⟩
 ·have t1 : decide (lo ≤ n) = false := by simpa using h1
  go_enter Try.func21, Try.ntmps21
  go_wp2
  go_ret
  exact ⟨ret_bool (by simp [inB, t1]), rfl⟩
theorem l01In_any (n lo hi : Int) (w : World) : Calls Try.prog 30 #[.int .i64 n, .int .i64 lo, .int .i64 hi] w fun e w' => e = .returned (.bool (inB n lo hi)) ∧ w = w' := by
 by_cases h1 : lo ≤ n
 ·have t1 : decide (lo ≤ n) = true := by simpa using h1
  go_enter Try.func30, Try.ntmps30
  go_wp2
  go_ret
  exact ⟨ret_bool (by simp [inB, t1]), rfl⟩
 ·have t1 : decide (lo ≤ n) = false := by simpa using h1
  go_enter Try.func30, Try.ntmps30
  go_wp2
  go_ret
  exact ⟨ret_bool (by simp [inB, t1]), rfl⟩
theorem l16Num_any (n : Int) (w : World) : Calls Try.prog 58 #[.int .i64 n] w fun e w' => e = .returned (.bool (inB n 0 1000000000)) ∧ w = w' := by
 go_enter Try.func58, Try.ntmps58
 go_wp2_with (go_at_call 30; refine (l01In_any _ _ _ _).mono ?_; rintro e w' ⟨rfl, rfl⟩)
 go_ret
 exact ⟨rfl, rfl⟩
/-- the first place where p holds; -1 -/
def idxOf {α : Type} (p : α → Bool) (l : List α) : Int := match l.findIdx? p with | some i => i | none => -1
theorem idxOf_found {α : Type} {p : α → Bool} {l : List α} {k : Nat} (hk : k < l.length) (h : ∀ j (hj : j < k), p (l[j]'(by omega)) = false) (hp : p l[k] = true) : idxOf p l = k := by
 have : l.findIdx? p = some k := by
  rw [List.findIdx?_eq_some_iff_getElem]
  exact ⟨hk, hp, fun j hj => by simp [h j hj]⟩
 simp [idxOf, this]
theorem idxOf_none {α : Type} {p : α → Bool} {l : List α} (h : ∀ j (hj : j < l.length), p l[j] = false) : idxOf p l = -1 := by
 have : l.findIdx? p = none := by
  rw [List.findIdx?_eq_none_iff]
  intro x hx
  obtain ⟨j, hj, rfl⟩ := List.getElem_of_mem hx
  exact h j hj
 simp [idxOf, this]
end Go.Proofs.Ytonlnjdempbfoaa
end
section
namespace Go.Proofs.Ytonlnjdempbfoaa
open Go.RowKit
set_option maxRecDepth 100000
set_option maxHeartbeats 1000000
theorem int_info : (Try.prog.info? 3).map (fun i => (i.zero, i.size, i.bytes)) = some (some (.int .i64 0), 1, 8) := by kernel_rfl
end Go.Proofs.Ytonlnjdempbfoaa
end
section
namespace Go.Proofs.Ytonlnjdempbfoaa
open Go.RowKit
set_option maxRecDepth 100000
/-- the block that a slice lies in is from lo on and below hi -/
def Within (v : Value) (lo hi : Nat) : Prop := ∀ g, v.ownBlock = some g → lo ≤ g ∧ g < hi
theorem Ow.within {α : Type} {e : Enc α} {E : TypeId} {w : World} {base : Nat} {v : Value} {l : List α} (h : Ow e E w base v l) : Within v base w.heap.size := by
 intro g hg
 rcases h.form with ⟨rfl, _⟩ | ⟨g', cap, rfl, h1, h2, _⟩
 ·simp [Value.ownBlock] at hg
 ·have : g' = g := by simpa [Value.ownBlock] using hg
  omega
theorem Within.apart {v v' : Value} {a b c d : Nat} (h : Within v a b) (h' : Within v' c d) (hne : b ≤ c ∨ d ≤ a) : v.ownBlock = none ∨ v.ownBlock ≠ v'.ownBlock := by
 cases hv : v.ownBlock with
 | none => exact .inl rfl
 | some g =>
  refine .inr (fun e => ?_)
  have h1 := h g hv
  have h2 := h' g e.symm
  omega
/-- block b is the variable of the plan p, whose edges' slice is v -/
structure BoxAt (b : Nat) (p : Plan) (v : Value) (w : World) : Prop where
 cells : w.cell? ⟨b, 0, none⟩ = some (.int .i64 p.prio) ∧ w.cell? ⟨b, 1, none⟩ = some (.int .i64 p.most) ∧ w.cell? ⟨b, 2, none⟩ = some (.int .i64 p.wait) ∧
  w.cell? ⟨b, 3, none⟩ = some (.int .i64 p.tasks) ∧ w.cell? ⟨b, 4, none⟩ = some v ∧ b < w.heap.size
 free : ∀ j, w.frozen? ⟨b, j, none⟩ = false
theorem BoxAt.lt {b : Nat} {p : Plan} {v : Value} {w : World} (h : BoxAt b p v w) : b < w.heap.size := h.cells.2.2.2.2.2
theorem BoxAt.new' (T : TypeId) (p : Plan) (v : Value) (w : World) {b : Nat} (hb : b = w.heap.size) : BoxAt b p v (w.alloc (.cells #[.int .i64 p.prio, .int .i64 p.most, .int .i64 p.wait, .int .i64 p.tasks, v] T)) := by
 subst hb
 refine ⟨⟨?_, ?_, ?_, ?_, ?_, by simp⟩, fun j => ?_⟩
 all_goals simp [go_sem]
theorem BoxAt.new (T : TypeId) (p : Plan) (v : Value) (w : World) : BoxAt w.heap.size p v (planBox T p v w) := BoxAt.new' T p v w rfl
theorem BoxAt.keep {b : Nat} {p : Plan} {v : Value} {w w' : World} (h : BoxAt b p v w) (hs : w.heap.size ≤ w'.heap.size) (hk : ∀ j, w'.cell? ⟨b, j, none⟩ = w.cell? ⟨b, j, none⟩) (hf : ∀ j, w'.frozen? ⟨b, j, none⟩ = w.frozen? ⟨b, j, none⟩) : BoxAt b p v w' := by
 obtain ⟨h0, h1, h2, h3, h4, h5⟩ := h.cells
 exact ⟨⟨(hk 0).trans h0, (hk 1).trans h1, (hk 2).trans h2, (hk 3).trans h3, (hk 4).trans h4, Nat.lt_of_lt_of_le h5 hs⟩, fun j => (hf j).trans (h.free j)⟩
theorem BoxAt.upto {B b : Nat} {p : Plan} {v : Value} {w w' : World} (h : BoxAt b p v w) (hb : Below B w w') (hlt : b < B) : BoxAt b p v w' :=
 h.keep hb.size (fun j => hb.cell (p := ⟨b, j, none⟩) hlt) (fun j => hb.frozen (p := ⟨b, j, none⟩) hlt)
theorem BoxAt.below {b : Nat} {p : Plan} {v : Value} {w w' : World} (h : BoxAt b p v w) (hb : Below w.heap.size w w') : BoxAt b p v w' := h.upto hb h.lt
theorem BoxAt.far {b : Nat} {p : Plan} {v : Value} {w w' : World} {row : Option Nat} (h : BoxAt b p v w) (hg : w.grownBy w' row) (hne : some b ≠ row) : BoxAt b p v w' :=
 h.keep hg.size (fun j => hg.cell_far ⟨b, j, none⟩ h.lt hne) (fun j => hg.frozen_far ⟨b, j, none⟩ h.lt hne)
theorem BoxAt.other {b : Nat} {p : Plan} {v : Value} {w : World} (h : BoxAt b p v w) {a : Addr} (hne : b ≠ a.block) (u : Value) : BoxAt b p v (w.setCell a u) :=
 h.keep (by simp [World.setCell]) (fun j => World.cell?_of_block (Below.heap_setCell w a u b hne)) (fun j => World.frozen?_of_block (Below.heap_setCell w a u b hne))
theorem BoxAt.setTasks {b : Nat} {p : Plan} {v : Value} {w : World} (h : BoxAt b p v w) (t : Int) : BoxAt b { p with tasks := t } v (w.setCell ⟨b, 3, none⟩ (.int .i64 t)) := by
 obtain ⟨h0, h1, h2, h3, h4, h5⟩ := h.cells
 have hf := h.free
 refine ⟨⟨?_, ?_, ?_, ?_, ?_, by simpa [World.setCell] using h5⟩, fun j => ?_⟩
 all_goals simp [go_sem, h0, h1, h2, h3, h4, hf]
theorem BoxAt.setEdges {b : Nat} {p : Plan} {v : Value} {w : World} (h : BoxAt b p v w) (l : List Edge) (v' : Value) : BoxAt b { p with edges := l } v' (w.setCell ⟨b, 4, none⟩ v') := by
 obtain ⟨h0, h1, h2, h3, h4, h5⟩ := h.cells
 have hf := h.free
 refine ⟨⟨?_, ?_, ?_, ?_, ?_, by simpa [World.setCell] using h5⟩, fun j => ?_⟩
 all_goals simp [go_sem, h0, h1, h2, h3, h4, hf]
theorem grown_setCell (w : World) (a : Addr) (u : Value) : w.grownBy (w.setCell a u) (some a.block) :=
 ⟨rfl, rfl, rfl, by simp [World.setCell], fun k _ hne => Below.heap_setCell w a u k (fun e => hne (by rw [e]))⟩
theorem Ow.setOther {α : Type} {e : Enc α} {E : TypeId} {w : World} {base : Nat} {v : Value} {l : List α} (h : Ow e E w base v l) {a : Addr} (hne : v.ownBlock ≠ some a.block) (u : Value) : Ow e E (w.setCell a u) base v l :=
 h.grown (grown_setCell w a u) (.inr hne)
/-- block b is the variable of the edge e -/
structure EdgeAt (b : Nat) (e : Edge) (w : World) : Prop where
 cells : w.cell? ⟨b, 0, none⟩ = some (.int .i64 e.fr) ∧ w.cell? ⟨b, 1, none⟩ = some (.int .i64 e.to) ∧ b < w.heap.size
theorem EdgeAt.new (T : TypeId) (e : Edge) (w : World) : EdgeAt w.heap.size e (w.alloc (.cells #[.int .i64 e.fr, .int .i64 e.to] T)) := by
 refine ⟨?_, ?_, by simp⟩
 all_goals simp [go_sem]
theorem EdgeAt.below {b : Nat} {e : Edge} {w w' : World} (h : EdgeAt b e w) (hb : Below w.heap.size w w') : EdgeAt b e w' := by
 obtain ⟨h0, h1, h2⟩ := h.cells
 exact ⟨(hb.cell (p := ⟨b, 0, none⟩) h2).trans h0, (hb.cell (p := ⟨b, 1, none⟩) h2).trans h1, Nat.lt_of_lt_of_le h2 hb.size⟩
/-- the world with two plans' variables laid -/
def twoBox (T : TypeId) (p : Plan) (ve : Value) (q : Plan) (vf : Value) (w : World) : World := planBox T q vf (planBox T p ve w)
theorem twoBox_at (T : TypeId) (p : Plan) (ve : Value) (q : Plan) (vf : Value) (w : World) :
  BoxAt w.heap.size p ve (twoBox T p ve q vf w) ∧ BoxAt (w.heap.size + 1) q vf (twoBox T p ve q vf w) ∧ Below w.heap.size w (twoBox T p ve q vf w) := by
 refine ⟨(BoxAt.new T p ve w).below (planBox_below _ _ _ _), ?_, bnext (planBox_below T p ve w) (planBox_below _ _ _ _)⟩
 have := BoxAt.new T q vf (planBox T p ve w)
 rw [planBox_size] at this
 exact this
end Go.Proofs.Ytonlnjdempbfoaa
end
section
namespace Go.Proofs.Ytonlnjdempbfoaa
open Go.RowKit
set_option maxRecDepth 100000
set_option maxHeartbeats 2000000
theorem bool_info : (Try.prog.info? 4).map (fun i => (i.zero, i.size, i.bytes)) = some (some (.bool false), 1, 1) := by kernel_rfl
/-- what the search answers -/
def FromPost (p : Plan) (t : Nat) (w : World) (e : Ending) (w' : World) : Prop :=
 ∃ v O, e = .returned v ∧ Ow boolE 4 w' w.heap.size v O ∧ Below w.heap.size w w' ∧ O.length = p.tasks.toNat ∧ ∀ y, O.getD y false = true ↔ Pg.Reach (esOf p) t y
theorem from_any (p : Plan) (ve : Value) (t : Nat) (w : World) (hm : manyOk p = true) (he : edgesIn p) (ht : (t : Int) < p.tasks) (h : Rd edgeE w w.heap.size ve p.edges) :
  Calls Try.prog 85 #[planV p ve, .int .i64 (t : Int)] w (FromPost p t w) := by
 obtain ⟨A, c, rfl, -⟩ := id h
 obtain ⟨t1, t2⟩ := manyOk_tasks hm
 have hlen := manyOk_edges hm
 obtain ⟨T, hT⟩ := Int.eq_ofNat_of_zero_le (show 0 ≤ p.tasks by omega)
 have HT := Lib.hid hT
 have hT12 : T ≤ 12 := by omega
 have htT : t < T := by omega
 obtain ⟨i0, hi0, hz0, hz1, hz2⟩ := info_parts bool_info
 obtain ⟨j0, hj0, jz0, jz1, jz2⟩ := info_parts int_info
 have hmk : ∀ w : World, (Instr.makeSlice 129 (.int .i64 p.tasks) (.int .i64 p.tasks)).run Try.prog w = .ok (.slice (some ⟨w.heap.size, 0, none⟩) T T) (w.alloc (.cells (madeCells #[.bool false] (T * 1)) 4)) := by
  intro w
  have := run_make (P := Try.prog) w 129 4 i0 _ Try.underlying129 hi0 hz0 .i64 .i64 T T (by omega) (by omega) (by rw [hz2]; omega) (by omega)
  rw [hz1] at this
  rw [hT]
  simpa [Value.cells] using this
 have hes : (∀ e ∈ esOf p, e.1 < T) ∧ (∀ e ∈ esOf p, e.2 < T) := by
  have := esOf_lt he
  rw [hT] at this
  simpa using this
 clear hT
 unfold planV
 go_enter Try.func85, Try.ntmps85
 go_wp2
 go_loopw [6, 7] (fun vl i wr => ∃ (k : Nat) (s : List Bool × List Nat), Hid (Pg.Bat (esOf p) T t k s) ∧ i = .int .i64 k ∧ Ow boolE 4 wr (w.heap.size + 1) (.slice (some ⟨w.heap.size + 1, 0, none⟩) T T) s.1 ∧ Ow natE 3 wr (w.heap.size + 1) vl s.2 ∧
   Below (planBox 35 p (.slice A p.edges.length c) w).heap.size (planBox 35 p (.slice A p.edges.length c) w) wr) (fun _ i _ => T + 2 - (intOf i).toNat)
 case atStart =>
  refine ⟨0, _, Pg.Bat.start (esOf p) T t, rfl, ?_, ?_, ?_⟩
  ·have := Ow.made boolE 4 (planBox 35 p (.slice A p.edges.length c) w) false T (by decide) (by simp [maxLen]; omega) (z := #[.bool false]) rfl (m := T) (by simp [boolE])
   rw [planBox_size] at this
   exact this.below ((Below.refl _ _).alloc (Nat.le_refl _) _)
  ·have := World.ownsRow_lit (base := w.heap.size + 1) (e := 3) (size := 1) ((planBox 35 p (.slice A p.edges.length c) w).alloc (.cells (madeCells #[.bool false] T) 4)) #[.int .i64 (t : Int)] 1 (by simp [planBox_size]) (by simp [maxLen]) rfl
   simp only [World.size_alloc, planBox_size] at this
   exact this
  ·exact ((Below.refl _ _).alloc (Nat.le_refl _) _).alloc (by simp) _
 case round =>
  obtain ⟨k, s, hbat, rfl, ho, hl, hb⟩ := hrel
  obtain ⟨x0, x1, x2, x3, x4, hs, hbw⟩ := planBox_cells hb
  have hs1 : w.heap.size < wr.heap.size := by omega
  have hkT := hbat.out.inv.lt
  have hkl := hbat.out.le
  have hol := Lib.hid hbat.out.inv.size
  rcases hl.form with ⟨_, e0⟩ | ⟨gl, cap, rfl, hgl0, hgl, hlc, hcm, hlf, hlcell⟩
  ·exfalso
   obtain ⟨l, hh, _⟩ := hbat.out.inv.head
   rw [hh] at e0
   cases e0
  clear hlcell hlf
  by_cases hlt : k < s.2.length
  ·have hltI : (k : Int) < (s.2.length : Int) := by omega
   obtain ⟨wo, rfl⟩ : ∃ wo : World, wo = wr := ⟨_, rfl⟩
   have hgx : s.2[k]? = some s.2[k] := List.getElem?_eq_getElem hlt
   have hBn := Lib.hid (hbat.out.next hes.2 hgx)
   clear hgx
   go_wp2
   go_loopw [6, 8] (fun vl i wr => ∃ (j : Nat), j ≤ p.edges.length ∧ i = .int .i64 j ∧ Ow boolE 4 wr (w.heap.size + 1) (.slice (some ⟨w.heap.size + 1, 0, none⟩) T T) (Pg.bnode (esL (p.edges.take j)) s.2[k] s).1 ∧ Ow natE 3 wr (w.heap.size + 1) vl (Pg.bnode (esL (p.edges.take j)) s.2[k] s).2 ∧
    Below (planBox 35 p (.slice A p.edges.length c) w).heap.size (planBox 35 p (.slice A p.edges.length c) w) wr) (fun _ i _ => p.edges.length - (intOf i).toNat)
   case atStart => exact ⟨0, Nat.zero_le _, rfl, ho, hl, hb⟩
   case round =>
    clear ho hl hb x0 x1 x2 x3 x4 hs hbw hs1 hgl0 hgl hlc hcm
    obtain ⟨j, hj, rfl, ho, hl, hb⟩ := hrel
    obtain ⟨x0, x1, x2, x3, x4, hs, hbw⟩ := planBox_cells hb
    have hs1 : w.heap.size < wr.heap.size := by omega
    by_cases hjt : j < p.edges.length
    ·have hjI : (j : Int) < (p.edges.length : Int) := by omega
     obtain ⟨b, o, rfl, hbb, c0, c1⟩ := (h.below hbw).edge hjt
     obtain ⟨f1, f2, f3, f4⟩ := edgesIn_get he hjt
     rw [HT.out] at f2 f4
     have htk := Lib.hid (show esL (p.edges.take (j + 1)) = esL (p.edges.take j) ++ [(p.edges[j].fr.toNat, p.edges[j].to.toNat)] by unfold esL; rw [take_snoc _ j hjt, List.map_append]; rfl)
     generalize p.edges[j].fr = fx at *
     generalize p.edges[j].to = tx at *
     obtain ⟨a, rfl⟩ := Int.eq_ofNat_of_zero_le f1
     obtain ⟨d, rfl⟩ := Int.eq_ofNat_of_zero_le f3
     have hstep : Hid (Pg.bnode (esL (p.edges.take (j + 1))) s.2[k] s = Pg.bstep s.2[k] (Pg.bnode (esL (p.edges.take j)) s.2[k] s) (a, d)) := by
      show Pg.bnode _ _ _ = _
      rw [htk.out]
      simp only [Int.toNat_natCast]
      unfold Pg.bnode
      rw [List.foldl_append]
      rfl
     have hbl := Pg.bnode_length (esL (p.edges.take j)) s.2[k] s
     rw [hol.out] at hbl
     obtain ⟨r, hr⟩ := Pg.bnode_pre (esL (p.edges.take j)) s.2[k] s
     have hgk : (Pg.bnode (esL (p.edges.take j)) s.2[k] s).2[k]? = some s.2[k] := by rw [hr, List.getElem?_append_left hlt, List.getElem?_eq_getElem hlt]
     have hlen2 : s.2.length ≤ (Pg.bnode (esL (p.edges.take j)) s.2[k] s).2.length := by rw [hr]; simp
     clear hr htk
     generalize hS : Pg.bnode (esL (p.edges.take j)) s.2[k] s = S at *
     have HS := Lib.hid hS
     clear hS
     generalize hx : s.2[k] = x at *
     have HX := Lib.hid hx
     clear hx
     rcases hl.form with ⟨_, e0⟩ | ⟨gl', cap', rfl, hgl0, hgl, hlc, hcm, hlf, hlcell⟩
     ·exfalso
      have := congrArg List.length e0
      simp only [List.length_nil] at this
      omega
     have hkS : k < S.2.length := by omega
     have hSk : Hid (S.2[k] = x) := by
      rw [List.getElem?_eq_getElem hkS] at hgk
      exact Option.some.inj hgk
     have cx := hl.nat hkS
     rw [hSk.out] at cx
     have hHbl := Lib.hid hbl
     have hdO : d < S.1.length := by rw [hbl]; omega
     have cO := ho.bool hdO
     have hgO := ho.blk.2
     have hkSI : (k : Int) < (S.2.length : Int) := by omega
     clear hbl hgk hlcell
     by_cases hax : a = x
     ·subst hax
      have hgd : S.1.getD d true = S.1[d] := by rw [List.getD_eq_getElem?_getD, List.getElem?_eq_getElem hdO]; rfl
      have hab : ((a : Int) == (a : Int)) = true := by simp
      cases hO : S.1[d]
      ·rw [hO] at cO
       have hnew : Hid (Pg.bnode (esL (p.edges.take (j + 1))) a s = (S.1.set d true, S.2 ++ [d])) := by
        show Pg.bnode _ _ _ = _
        rw [hstep.out]; unfold Pg.bstep; rw [if_pos ⟨rfl, by rw [hgd, hO]⟩]
       clear hgd hO hstep
       have e1 : (wr.alloc (.cells #[.int .i64 (a : Int), .int .i64 (d : Int)] 94)).cell? ⟨wr.heap.size, 1, none⟩ = some (.int .i64 (d : Int)) := by go_simp
       go_wp2
       go_quiet (fail)
       have hW := bdrewN ((Below.refl wr.heap.size wr).alloc (Nat.le_refl _) (.cells #[.int .i64 (a : Int), .int .i64 (d : Int)] 94)) nq
       have hb2 := bdrewN (hb.alloc hb.size (.cells #[.int .i64 (a : Int), .int .i64 (d : Int)] 94)) nq
       have e2 : ((wr.alloc (.cells #[.int .i64 (a : Int), .int .i64 (d : Int)] 94)).drewN nq).cell? ⟨wr.heap.size, 1, none⟩ = some (.int .i64 (d : Int)) := e1
       have hwn : wr.heap.size < ((wr.alloc (.cells #[.int .i64 (a : Int), .int .i64 (d : Int)] 94)).drewN nq).heap.size := by simp
       clear e1 c0 c1 cx cO
       generalize (wr.alloc (.cells #[.int .i64 (a : Int), .int .i64 (d : Int)] 94)).drewN nq = W2 at *
       have ho2 := ho.below hW
       have hl2 := hl.below hW
       have cO2 := ho2.bool hdO
       have hof := ho2.free
       have hput := Ow.put ho2 (n := T) (by rw [hHbl.out]) d (by omega) true
       simp only [boolE, Nat.mul_one] at hput
       have hl3 : Ow natE 3 (W2.setCell ⟨w.heap.size + 1, d, none⟩ (.bool true)) (w.heap.size + 1) (.slice (some ⟨gl', 0, none⟩) S.2.length cap') S.2 := hl2.grown hput.2 (by
        have := hl2.ne_ ho2 (by decide)
        simpa [Value.ownBlock] using this)
       have hkp := planBox_size 35 p (.slice (some ⟨b, o, none⟩) p.edges.length c) w
       have hb3 := hb2.grown hput.2 hb2.size (fun g hg => by rw [planBox_size]; simp at hg; omega)
       have ho3 := hput.1
       have hl4 := hl3.below ((Below.refl _ _).alloc (Nat.le_refl _) (.cells #[.int .i64 (d : Int)] 3))
       have hwz : w.heap.size + 1 ≤ W2.heap.size := by omega
       have hb4 := hb3.alloc hb3.size (.cells #[.int .i64 (d : Int)] 3)
       clear hput
       have hSl : S.2.length ≤ 3000000 := by
        have := (Pg.bnode_inv (x := a) (esL (p.edges.take j)) hbat.out.inv (by rw [← HX.out]; exact List.getElem_mem hlt) (fun e he' => by
         simp only [esL, List.mem_map] at he'
         obtain ⟨y, hy, rfl⟩ := he'
         simp only [esOf, esL, List.mem_map]
         exact ⟨y, List.mem_of_mem_take hy, rfl⟩) (fun e he' => by
         simp only [esL, List.mem_map] at he'
         obtain ⟨y, hy, rfl⟩ := he'
         exact hes.2 _ (by simp only [esOf, esL, List.mem_map]; exact ⟨y, List.mem_of_mem_take hy, rfl⟩))).lt
        rw [HS.out] at this
        omega
       go_wp2_with (at_builtin; refine wpList_push (v := .slice (some ⟨gl', 0, none⟩) S.2.length cap') natE (by decide) rfl (.tmp 52) (.tmp 55) rfl Try.underlying26 hj0 jz0 jz1 jz2 rfl d rfl hl4 ⟨W2.heap.size, 0, none⟩ 1 rfl (news_new _ #[.int .i64 (d : Int)] _ (by simp)) hSl (by decide) (by simp; omega) ?_; intro v' w3 hown3 hgrow3)
       have ho4 := ho3.below ((Below.refl _ _).alloc (Nat.le_refl _) (.cells #[.int .i64 (d : Int)] 3))
       have ho5 := ho4.grown hgrow3 (ho4.ne_ hl4 (by decide))
       have hb5 := hb4.grown hgrow3 hb4.size (fun g hg => by
        have hgg : gl' = g := by simpa [Value.ownBlock] using hg
        have hgl1 := hl2.blk.1
        omega)
       exact ⟨⟨j + 1, by omega, by go_num, by rw [hnew.out]; exact ho5, by rw [hnew.out]; exact hown3, hb5⟩, by simp [intOf]; omega⟩
      ·rw [hO] at cO
       have hsame : Hid (Pg.bnode (esL (p.edges.take (j + 1))) a s = S) := by
        show Pg.bnode _ _ _ = _
        rw [hstep.out]; unfold Pg.bstep; rw [if_neg (fun h => by rw [hgd, hO] at h; exact absurd h.2 (by simp))]
       clear hgd hO
       go_wp2
       go_quiet (fail)
       go_wp2
       exact ⟨⟨j + 1, by omega, by go_num, by rw [hsame.out]; exact (ho.below (bdrewN ((Below.refl wr.heap.size wr).alloc (Nat.le_refl _) _) _)), by rw [hsame.out]; exact (hl.below (bdrewN ((Below.refl wr.heap.size wr).alloc (Nat.le_refl _) _) _)), bdrewN (hb.alloc hb.size _) _⟩, by simp [intOf]; omega⟩
     ·have hab : ((a : Int) == (x : Int)) = false := beq_eq_false_iff_ne.2 (by omega)
      have hsame : Hid (Pg.bnode (esL (p.edges.take (j + 1))) x s = S) := by
       show Pg.bnode _ _ _ = _
       rw [hstep.out]; unfold Pg.bstep; rw [if_neg (fun h => hax h.1)]
      clear hax
      go_wp2
      go_quiet (fail)
      go_wp2
      exact ⟨⟨j + 1, by omega, by go_num, by rw [hsame.out]; exact (ho.below (bdrewN ((Below.refl wr.heap.size wr).alloc (Nat.le_refl _) _) _)), by rw [hsame.out]; exact (hl.below (bdrewN ((Below.refl wr.heap.size wr).alloc (Nat.le_refl _) _) _)), bdrewN (hb.alloc hb.size _) _⟩, by simp [intOf]; omega⟩
    ·have hjI : ¬ (j : Int) < (p.edges.length : Int) := by omega
     have hj' : j = p.edges.length := by omega
     subst hj'
     rw [List.take_length] at ho hl
     go_wp2
     refine ⟨⟨k + 1, _, hBn.out, by go_num, ho, hl, hb⟩, by simp [intOf]; omega⟩
  ·have hltI : ¬ (k : Int) < (s.2.length : Int) := by omega
   have hk' : k = s.2.length := by omega
   go_wp2
   go_ret
   refine ⟨_, s.1, rfl, ho.more (by omega), hbw, ?_, fun y => ?_⟩
   ·rw [hol.out, HT.out]; rfl
   ·exact Pg.Bat.iff (by rw [← hk']; exact hbat.out) y
end Go.Proofs.Ytonlnjdempbfoaa
end
section
namespace Go.Proofs.Ytonlnjdempbfoaa
open Go.RowKit
set_option maxRecDepth 100000
section
variable {P : Program} (w : World)
theorem run_append_nothing (base : Nat) (t ty e : TypeId) (i : TypeInfo) (size : Nat) (ht : P.underlying t = some (.slice e)) (hi : P.info? e = some i)
  (v : Value) (n : Nat) (xs : List Value) (hown : w.ownsRow base e size v n xs) (c : Nat) : (Builtin.append_ #[t, t] ty #[v, .slice none 0 c]).run P w = .ok v w := by
 rcases hown.2 with ⟨rfl, rfl⟩ | ⟨g, cap, cur, rfl, _, _, hnc, _⟩
 ·simp [Builtin.append_, run_underlying ht, sizeOf, typeInfo, hi, Builtin.lenOf, Builtin.firstCells]
 ·simp [Builtin.append_, run_underlying ht, sizeOf, typeInfo, hi, Builtin.lenOf, Builtin.firstCells, hnc, storeCells]
theorem rd_news {α : Type} {e : Enc α} (hsz : 0 < e.sz) {w : World} {B : Nat} {A : Option Addr} {m c : Nat} {ys : List α} (hr : Rd e w B (.slice A m c) ys) : m = ys.length ∧ (0 < m → ∃ ad, A = some ad ∧ ∀ j u, (ys.flatMap e.cells)[j]? = some u → w.cell? (ad.add j) = some u) := by
 obtain ⟨A', c', hv, _, hA⟩ := hr
 simp only [Value.slice.injEq] at hv
 obtain ⟨rfl, rfl, rfl⟩ := hv
 refine ⟨rfl, fun hm => ?_⟩
 obtain ⟨b, o, rfl, hb, hc⟩ := hA hm
 refine ⟨⟨b, o, none⟩, rfl, fun j u hu => ?_⟩
 have hlt := (List.getElem?_eq_some_iff.1 hu).1
 rw [e.flat_length] at hlt
 have hk : j / e.sz < ys.length := Nat.div_lt_of_lt_mul (by rw [Nat.mul_comm]; exact hlt)
 have hj : j % e.sz < e.sz := Nat.mod_lt _ hsz
 have hij : j / e.sz * e.sz + j % e.sz = j := by rw [Nat.mul_comm]; exact Nat.div_add_mod _ _
 have h1 := e.flat_get hj ys (j / e.sz) hk
 rw [hij] at h1
 have h2 := hc (j / e.sz) hk (j % e.sz) u (by rw [← h1]; exact hu)
 have ea : (⟨b, o, none⟩ : Addr).add j = ⟨b, o + j / e.sz * e.sz + j % e.sz, none⟩ := by
  rw [Nat.add_assoc, hij]
  unfold Addr.add
  split <;> simp_all
 rw [ea]
 exact h2
theorem run_append_rd {α : Type} (e : Enc α) (hsz : 0 < e.sz) (base : Nat) (t ty E : TypeId) (i : TypeInfo) (z : Value) (bytes : Nat) (ht : P.underlying t = some (.slice E)) (hi : P.info? E = some i) (hz : i.zero = some z)
  (hsize : i.size = e.sz) (hby : i.bytes = bytes) (hzs : z.cells.size = e.sz)
  (v : Value) (l : List α) (hown : Ow e E w base v l)
  (B : Nat) (A : Option Addr) (m c : Nat) (ys : List α) (hr : Rd e w B (.slice A m c) ys)
  (hn : l.length ≤ 3000000) (hm : ys.length ≤ 3000000) (hbytes : bytes ≤ 10000) (hbase : base ≤ w.heap.size) :
  ∃ v' w', (Builtin.append_ #[t, t] ty #[v, .slice A m c]).run P w = .ok v' w' ∧ Ow e E w' base v' (l ++ ys) ∧ w.grownBy w' v.ownBlock ∧
   (v'.ownBlock = v.ownBlock ∨ v'.ownBlock = some w.heap.size) := by
 obtain ⟨rfl, hA⟩ := rd_news hsz hr
 have h0 : ∀ ad : Addr, A = some ad → ∀ j u, (ys.flatMap e.cells)[j]? = some u → w.cell? (ad.add j) = some u := by
  intro ad hAd j u hu
  rcases Nat.eq_zero_or_pos ys.length with hz0 | hpos
  ·have : ys = [] := List.eq_nil_of_length_eq_zero hz0
   subst this
   simp at hu
  ·obtain ⟨ad', hA', hc⟩ := hA hpos
   rw [hA'] at hAd
   injection hAd with hAd
   subst hAd
   exact hc j u hu
 rcases A with _ | ad
 ·have hm0 : ys = [] := by
   rcases Nat.eq_zero_or_pos ys.length with h1 | h1
   ·exact List.eq_nil_of_length_eq_zero h1
   ·obtain ⟨_, h2, _⟩ := hA h1
    cases h2
  subst hm0
  exact ⟨v, w, run_append_nothing w base t ty E i e.sz ht hi v l.length (l.flatMap e.cells) hown c, by simpa using hown, World.grownBy.refl w _, .inl rfl⟩
 ·have h1 : ∀ u ∈ ys.flatMap e.cells, u.oneCell' = true := by
   intro u hu
   obtain ⟨y, _, hy⟩ := List.mem_flatMap.1 hu
   exact e.one y u hy
  have hb2 : (l.length + ys.length) * bytes ≤ 6000000 * 10000 := Nat.mul_le_mul (by omega) hbytes
  obtain ⟨v', w', hrun, h2, h3, _, h5⟩ := run_append_own_at (P := P) w base t ty E i z e.sz bytes ht hi hz hsize hby hzs hsz v l.length (l.flatMap e.cells) hown ad ys.length c (ys.flatMap e.cells) (e.flat_length ys) (h0 ad rfl) h1 (by simp [maxLen]; omega) (by omega) hbase
  refine ⟨v', w', hrun, ?_, h3, h5⟩
  unfold Ow
  rw [List.length_append, List.flatMap_append]
  exact h2
theorem wp_append_rd {α : Type} {o : Oper} {a : Act} {K : Act → World → Prop} {Q : Exit → Act → World → Prop} (e : Enc α) (hsz : 0 < e.sz) (s x : Operand) (t : TypeId)
  (ho : o.op = .call { callee := .builtin .append, args := #[s, x], argTypes := #[t, t] })
  (base : Nat) (E : TypeId) (i : TypeInfo) (z : Value) (bytes : Nat) (ht : P.underlying t = some (.slice E)) (hi : P.info? E = some i) (hz : i.zero = some z)
  (hsize : i.size = e.sz) (hby : i.bytes = bytes) (hzs : z.cells.size = e.sz)
  (v : Value) (l : List α) (hs : a.eval s = v) (hown : Ow e E w base v l)
  (B : Nat) (A : Option Addr) (m c : Nat) (ys : List α) (hx : a.eval x = .slice A m c) (hr : Rd e w B (.slice A m c) ys)
  (hn : l.length ≤ 3000000) (hm : ys.length ≤ 3000000) (hbytes : bytes ≤ 10000) (hbase : base ≤ w.heap.size)
  (h : ∀ v' w', Ow e E w' base v' (l ++ ys) → w.grownBy w' v.ownBlock → (v'.ownBlock = v.ownBlock ∨ v'.ownBlock = some w.heap.size) → K (a.put o.dst v') w') : o.wp P a w K Q := by
 obtain ⟨v', w', hrun, h2, h3, h4⟩ := run_append_rd (P := P) w e hsz base t o.type E i z bytes ht hi hz hsize hby hzs v l hown B A m c ys hr hn hm hbytes hbase
 unfold Oper.wp execOp
 simp only [ho, resolve, invoke, builtin, Sem.run_bind, Sem.run_pure, Result.andThen_ok, List.map_toArray, List.map_cons, List.map_nil, hs, hx, hrun]
 exact h v' w' h2 h3 h4
/-- all of a slice is appended to one of the call's own -/
theorem wpList_push_all {α : Type} {ops : Array Oper} {rest : List Oper} {o : Oper} {a : Act} {Q : Exit → Act → World → Prop} (e : Enc α) (hsz : 0 < e.sz) (hgd : o.guard = none) (s x : Operand) {t : TypeId}
  (ho : o.op = .call { callee := .builtin .append, args := #[s, x], argTypes := #[t, t] })
  {base : Nat} {E : TypeId} {i : TypeInfo} {z : Value} {bytes : Nat} (ht : P.underlying t = some (.slice E)) (hi : P.info? E = some i) (hz : i.zero = some z)
  (hsize : i.size = e.sz) (hby : i.bytes = bytes) (hzs : z.cells.size = e.sz)
  {v : Value} {l : List α} (hs : a.eval s = v) (hown : Ow e E w base v l)
  {B : Nat} {A : Option Addr} {m c : Nat} {ys : List α} (hx : a.eval x = .slice A m c) (hr : Rd e w B (.slice A m c) ys)
  (hn : l.length ≤ 3000000) (hm : ys.length ≤ 3000000) (hbytes : bytes ≤ 10000) (hbase : base ≤ w.heap.size)
  (h : ∀ v' w', Ow e E w' base v' (l ++ ys) → w.grownBy w' v.ownBlock → (v'.ownBlock = v.ownBlock ∨ v'.ownBlock = some w.heap.size) → wpList P ops Q rest (a.put o.dst v') w') : wpList P ops Q (o :: rest) a w :=
 wpList_plain hgd fun _ hK => wp_append_rd w e hsz s x t ho base E i z bytes ht hi hz hsize hby hzs v l hs hown B A m c ys hx hr hn hm hbytes hbase fun v' w' h2 h3 h4 => hK _ _ (h v' w' h2 h3 h4)
/-- the same at a step of a region that draws its order -/
theorem step_push_all {α : Type} {ops : Array Oper} {o : Oper} {a : Act} {K : Act → World → Prop} {Q : Exit → Act → World → Prop} {EE : Prop} (e : Enc α) (hsz : 0 < e.sz) (hgd : o.guard = none) (s x : Operand) {t : TypeId}
  (ho : o.op = .call { callee := .builtin .append, args := #[s, x], argTypes := #[t, t] })
  {base : Nat} {E : TypeId} {i : TypeInfo} {z : Value} {bytes : Nat} (ht : P.underlying t = some (.slice E)) (hi : P.info? E = some i) (hz : i.zero = some z)
  (hsize : i.size = e.sz) (hby : i.bytes = bytes) (hzs : z.cells.size = e.sz)
  {v : Value} {l : List α} (hs : a.eval s = v) (hown : Ow e E w base v l)
  {B : Nat} {A : Option Addr} {m c : Nat} {ys : List α} (hx : a.eval x = .slice A m c) (hr : Rd e w B (.slice A m c) ys)
  (hn : l.length ≤ 3000000) (hm : ys.length ≤ 3000000) (hbytes : bytes ≤ 10000) (hbase : base ≤ w.heap.size)
  (h : ∀ v' w', Ow e E w' base v' (l ++ ys) → w.grownBy w' v.ownBlock → (v'.ownBlock = v.ownBlock ∨ v'.ownBlock = some w.heap.size) → K (a.put o.dst v') w') :
  if Region.wanted o (yielded ops a.tmps) = true then Oper.wp P o a w K Q else EE := by
 have hw : Region.wanted o (yielded ops a.tmps) = true := by simp [Region.wanted, hgd]
 rw [if_pos hw]
 exact wp_append_rd w e hsz s x t ho base E i z bytes ht hi hz hsize hby hzs v l hs hown B A m c ys hx hr hn hm hbytes hbase h
end
/-- one element that was just laid -/
theorem Rd.one {α : Type} (e : Enc α) (w : World) (T : TypeId) (x : α) {g : Nat} (hg : g = w.heap.size) {cs : Array Value} (hcs : cs = (e.cells x).toArray) (c : Nat) (hc : 1 ≤ c) {B : Nat} (hB : g < B) : Rd e (w.alloc (.cells cs T)) B (.slice (some ⟨g, 0, none⟩) 1 c) [x] := by
 refine ⟨_, c, rfl, by simpa using hc, fun _ => ⟨g, 0, rfl, hB, fun k hk j u hu => ?_⟩⟩
 have hk0 : k = 0 := by simpa using hk
 subst hk0
 simp only [List.getElem_cons_zero] at hu
 have := news_new w cs T hg j u (by rw [hcs]; simpa using hu)
 have ea : (⟨g, 0, none⟩ : Addr).add j = ⟨g, 0 + 0 * e.sz + j, none⟩ := by
  unfold Addr.add
  split <;> simp_all
 rw [ea] at this
 exact this
/-- a slice of no element that is not nil -/
theorem Ow.empty {α : Type} (e : Enc α) (E : TypeId) (w : World) {g : Nat} (hg : g = w.heap.size) : Ow e E (w.alloc (.cells #[] E)) g (.slice (some ⟨g, 0, none⟩) 0 0) [] := by
 subst hg
 exact World.ownsRow_lit (base := w.heap.size) (e := E) (size := e.sz) w #[] 0 (Nat.le_refl _) (by simp [maxLen]) (by simp)
end Go.Proofs.Ytonlnjdempbfoaa
end
section
namespace Go.Proofs.Ytonlnjdempbfoaa
open Go.RowKit
set_option maxRecDepth 100000
set_option maxHeartbeats 1000000
theorem planFault_many {p : Plan} (h : manyOk p = false) : planFault p = 1 := by unfold planFault; rw [if_pos h]
theorem planFault_edge {p : Plan} (h : manyOk p = true) (h2 : ¬ edgesIn p) : planFault p = 2 := by unfold planFault; rw [if_neg (by rw [h]; simp), if_pos h2]
theorem planFault_twice {p : Plan} (h : manyOk p = true) (h2 : edgesIn p) (h3 : ¬ p.edges.Nodup) : planFault p = 3 := by
 unfold planFault; rw [if_neg (by rw [h]; simp), if_neg (by simpa using h2), if_pos h3]
theorem planFault_cycle {p : Plan} (h : manyOk p = true) (h2 : edgesIn p) (h3 : p.edges.Nodup) (h4 : cyclic p) : planFault p = 4 := by
 unfold planFault; rw [if_neg (by rw [h]; simp), if_neg (by simpa using h2), if_neg (by simpa using h3), if_pos h4]
theorem nodup_snoc {α : Type} {l : List α} {x : α} : (l ++ [x]).Nodup ↔ l.Nodup ∧ x ∉ l := by
 rw [List.nodup_append]
 constructor
 ·rintro ⟨h1, _, h2⟩
  exact ⟨h1, fun hx => h2 x hx x (by simp) rfl⟩
 ·rintro ⟨h1, h2⟩
  refine ⟨h1, by simp, fun a ha b hb e => ?_⟩
  simp only [List.mem_singleton] at hb
  subst hb; subst e
  exact h2 ha
end Go.Proofs.Ytonlnjdempbfoaa
end
