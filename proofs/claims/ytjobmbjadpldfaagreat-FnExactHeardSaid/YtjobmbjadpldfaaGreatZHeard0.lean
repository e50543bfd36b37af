/-
  Words for memory: how a list of plain data lies in a slice; a slice of the call's own; what is kept when new memory is made. Plain facts on finite graphs: the closure by rounds over the edges, and the search by a list, both tell what can be reached. The library's slices.Sort at ints: the shelf's contract, laid at this program. Closed facts of the whole program, each by itself. The head's string is laid out as a list of numbers first. Walks of the helpers of the laws on values of the type Edge: to, eq, and the slices' own. Written by program (flat.py). Arguments read as data: slices of plain st
-/
import Derived.Test.YtjobmbjadpldfaaGreatRows
import Derived.WalkKit
import Derived.Lib.Hide
import Derived.Deep.QuietTactic
import Derived.BigQuiet
import Derived.StillTailTactics
import Derived.Deep.RegionHeld3
import Derived.Maps.AppendAt
import Derived.Deep.AppendLies
import Derived.KernelRfl
import Derived.Shelf.Sort.Plain
import Derived.Shelf.Slices.In.SortNone
import Derived.Test.YtjobmbjadpldfaaGreatProg
import Derived.ProofKit
import Derived.Deep.Slices
section
namespace Go.Proofs.YtjobmbjadpldfaaGreat
open Go.RowKit

/-- how a datum lies in cells -/
structure Enc (α : Type) where
  cells : α → List Value
  sz : Nat
  len : ∀ x, (cells x).length = sz
  one : ∀ x, ∀ u ∈ cells x, u.oneCell' = true

section
variable {α : Type} {e : Enc α} {w w' : World} {B B' : Nat} {v : Value} {l : List α}

theorem Enc.flat_length (e : Enc α) : ∀ l : List α, (l.flatMap e.cells).length = l.length * e.sz
  | [] => by simp
  | x :: l => by rw [List.flatMap_cons, List.length_append, e.len, Enc.flat_length e l, List.length_cons, Nat.succ_mul, Nat.add_comm]

theorem Enc.flat_get (e : Enc α) {j : Nat} (hj : j < e.sz) : ∀ (l : List α) (k : Nat) (h : k < l.length), (l.flatMap e.cells)[k * e.sz + j]? = (e.cells l[k])[j]?
  | [], k, h => absurd h (by simp)
  | x :: l, 0, _ => by
    rw [List.flatMap_cons, Nat.zero_mul, Nat.zero_add, List.getElem?_append_left (by rw [e.len]; exact hj)]
    rfl
  | x :: l, k + 1, h => by
    rw [List.flatMap_cons, List.getElem?_append_right (by rw [e.len, Nat.succ_mul]; omega), e.len,
      show (k + 1) * e.sz + j - e.sz = k * e.sz + j from by rw [Nat.succ_mul]; omega]
    exact Enc.flat_get e hj l k (by simpa using h)

/-- cells from place i on, laid one behind the other -/
def setSeq (xs : List Value) (i : Nat) : List Value → List Value
  | [] => xs
  | u :: us => setSeq (xs.set i u) (i + 1) us
def wSeq (w : World) (g i : Nat) : List Value → World
  | [] => w
  | u :: us => wSeq (w.setCell ⟨g, i, none⟩ u) g (i + 1) us

theorem setSeq_eq : ∀ (us xs : List Value) (i : Nat), i + us.length ≤ xs.length → setSeq xs i us = xs.take i ++ us ++ xs.drop (i + us.length)
  | [], xs, i, _ => by simp [setSeq]
  | u :: us, xs, i, h => by
    simp only [List.length_cons] at h
    rw [setSeq, setSeq_eq us _ _ (by simp; omega)]
    have h1 : (xs.set i u).take (i + 1) = xs.take i ++ [u] := by
      rw [List.take_set, List.take_succ_eq_append_getElem (by omega), List.set_append_right _ _ (by simp; omega)]
      simp [show i - min i xs.length = 0 from by omega]
    have h2 : (xs.set i u).drop (i + 1 + us.length) = xs.drop (i + (u :: us).length) := by
      rw [List.drop_set_of_lt (by omega)]
      congr 1
      simp; omega
    rw [h1, h2]
    simp

theorem Enc.flat_put (e : Enc α) (x : α) : ∀ (l : List α) (k : Nat), k < l.length → setSeq (l.flatMap e.cells) (k * e.sz) (e.cells x) = (l.set k x).flatMap e.cells := by
  intro l k hk
  rw [setSeq_eq _ _ _ (by
    rw [e.flat_length, e.len]
    have : (k + 1) * e.sz ≤ l.length * e.sz := Nat.mul_le_mul_right _ hk
    rw [Nat.succ_mul] at this; exact this), e.len]
  have hl : l = l.take k ++ l[k] :: l.drop (k + 1) := by
    rw [List.getElem_cons_drop hk, List.take_append_drop]
  have hs : l.set k x = l.take k ++ x :: l.drop (k + 1) := by
    rw [List.set_eq_take_append_cons_drop, if_pos hk]
  rw [hs]
  have e1 : (l.take k).flatMap e.cells = (l.flatMap e.cells).take (k * e.sz) := by
    conv => rhs; rw [hl, List.flatMap_append]
    rw [List.take_left' (by rw [e.flat_length, List.length_take, Nat.min_eq_left (Nat.le_of_lt hk)])]
  have e2 : (l.drop (k + 1)).flatMap e.cells = (l.flatMap e.cells).drop (k * e.sz + e.sz) := by
    conv => rhs; rw [hl, List.flatMap_append, List.flatMap_cons, ← List.append_assoc]
    rw [List.drop_left' (by rw [List.length_append, e.flat_length, e.len, List.length_take, Nat.min_eq_left (Nat.le_of_lt hk)])]
  rw [List.flatMap_append, List.flatMap_cons, e1, e2, List.append_assoc]

/-- v is a slice that reads as l, below block B -/
def Rd (e : Enc α) (w : World) (B : Nat) (v : Value) (l : List α) : Prop :=
  ∃ A c, v = .slice A l.length c ∧ l.length ≤ c ∧ (0 < l.length → ∃ b o, A = some ⟨b, o, none⟩ ∧ b < B ∧
    ∀ (k : Nat) (h : k < l.length) (j : Nat) (u : Value), (e.cells l[k])[j]? = some u → w.cell? ⟨b, o + k * e.sz + j, none⟩ = some u)

theorem Rd.keep (h : Rd e w B v l) (hk : ∀ p : Addr, p.block < B → w'.cell? p = w.cell? p) : Rd e w' B v l := by
  obtain ⟨A, c, hv, hcap, hA⟩ := h
  refine ⟨A, c, hv, hcap, fun hl => ?_⟩
  obtain ⟨b, o, hb, hlt, hc⟩ := hA hl
  exact ⟨b, o, hb, hlt, fun k hk' j u hu => (hk _ hlt).trans (hc k hk' j u hu)⟩
theorem Rd.more (h : Rd e w B v l) (hB : B ≤ B') : Rd e w B' v l := by
  obtain ⟨A, c, hv, hcap, hA⟩ := h
  refine ⟨A, c, hv, hcap, fun hl => ?_⟩
  obtain ⟨b, o, hb, hlt, hc⟩ := hA hl
  exact ⟨b, o, hb, by omega, hc⟩
theorem Rd.below (h : Rd e w B v l) (hb : Below B w w') : Rd e w' B v l := h.keep fun _ hp => hb.cell hp

/-- v is a slice of the call's own, from block base on: it reads as l -/
def Ow (e : Enc α) (E : TypeId) (w : World) (base : Nat) (v : Value) (l : List α) : Prop := w.ownsRow base E e.sz v l.length (l.flatMap e.cells)

theorem Ow.nil (e : Enc α) (E : TypeId) (w : World) (base : Nat) : Ow e E w base (.slice none 0 0) [] := World.ownsRow_nil w base E e.sz

theorem Ow.form {E : TypeId} {base : Nat} (h : Ow e E w base v l) : (v = .slice none 0 0 ∧ l = []) ∨
    ∃ g cap, v = .slice (some ⟨g, 0, none⟩) l.length cap ∧ base ≤ g ∧ g < w.heap.size ∧ l.length ≤ cap ∧ cap ≤ maxLen ∧ (∀ j, w.frozen? ⟨g, j, none⟩ = false) ∧
      ∀ (k : Nat) (h : k < l.length) (j : Nat) (u : Value), (e.cells l[k])[j]? = some u → w.cell? ⟨g, k * e.sz + j, none⟩ = some u := by
  have h0 := h
  rcases h.2 with ⟨hv, hn⟩ | ⟨g, cap, cur, hv, hg, hh, hc, hm, _, _⟩
  · exact .inl ⟨hv, List.eq_nil_of_length_eq_zero hn⟩
  · subst hv
    refine .inr ⟨g, cap, rfl, hg, (h.lt g rfl).2, hc, hm, fun j => World.ownsRow.frozenAt h j, fun k hk j u hu => ?_⟩
    have hj : j < e.sz := by
      have := (List.getElem?_eq_some_iff.1 hu).1
      rw [e.len] at this; exact this
    have hlt : k * e.sz + j < l.length * e.sz := by
      have : (k + 1) * e.sz ≤ l.length * e.sz := Nat.mul_le_mul_right _ hk
      rw [Nat.succ_mul] at this; omega
    rw [World.ownsRow.cellAt h _ hlt, e.flat_get hj l k hk]
    exact hu

theorem Ow.free {E : TypeId} {base g n cap : Nat} (h : Ow e E w base (.slice (some ⟨g, 0, none⟩) n cap) l) (j : Nat) : w.frozen? ⟨g, j, none⟩ = false := by
  rcases h.form with ⟨h1, _⟩ | ⟨g', cap', hv, _, _, _, _, hf, _⟩
  · simp at h1
  · simp only [Value.slice.injEq, Option.some.injEq, Addr.mk.injEq, and_true] at hv
    obtain ⟨rfl, _, _⟩ := hv
    exact hf j

theorem Ow.blk {E : TypeId} {base g n cap : Nat} (h : Ow e E w base (.slice (some ⟨g, 0, none⟩) n cap) l) : base ≤ g ∧ g < w.heap.size := by
  rcases h.form with ⟨h1, _⟩ | ⟨g', cap', hv, hb, hg, _⟩
  · simp at h1
  · simp only [Value.slice.injEq, Option.some.injEq, Addr.mk.injEq, and_true] at hv
    obtain ⟨rfl, _, _⟩ := hv
    exact ⟨hb, hg⟩

theorem Rd.of_own {E : TypeId} {base : Nat} (h : Ow e E w base v l) : Rd e w w.heap.size v l := by
  rcases h.form with ⟨rfl, rfl⟩ | ⟨g, cap, rfl, _, hlt, hcap, _, _, hc⟩
  · exact ⟨none, 0, rfl, Nat.le_refl _, fun h => absurd h (by simp)⟩
  · exact ⟨_, cap, rfl, hcap, fun _ => ⟨g, 0, rfl, hlt, fun k hk j u hu => by rw [Nat.zero_add]; exact hc k hk j u hu⟩⟩

theorem Rd.take {A : Option Addr} {n c k : Nat} (h : Rd e w B (.slice A n c) l) (hk : k ≤ l.length) (c' : Nat) (hc' : k ≤ c') : Rd e w B (.slice A k c') (l.take k) := by
  obtain ⟨A', c0, hv, _, hA⟩ := h
  simp only [Value.slice.injEq] at hv
  obtain ⟨rfl, rfl, rfl⟩ := hv
  refine ⟨A, c', by rw [List.length_take, Nat.min_eq_left hk], by rw [List.length_take, Nat.min_eq_left hk]; exact hc', fun hl => ?_⟩
  rw [List.length_take, Nat.min_eq_left hk] at hl
  obtain ⟨b, o, hb, hlt, hc⟩ := hA (by omega)
  refine ⟨b, o, hb, hlt, fun i hi j u hu => ?_⟩
  rw [List.length_take, Nat.min_eq_left hk] at hi
  rw [List.getElem_take] at hu
  exact hc i (by omega) j u hu
theorem Rd.cap {A : Option Addr} {n c : Nat} (h : Rd e w B (.slice A n c) l) : l.length ≤ c := by
  obtain ⟨A', c0, hv, hc, _⟩ := h
  simp only [Value.slice.injEq] at hv
  rw [hv.2.2]
  exact hc
theorem Rd.nil (e : Enc α) (w : World) (B c : Nat) : Rd e w B (.slice none 0 c) [] := ⟨none, c, rfl, Nat.zero_le _, fun h => absurd h (by simp)⟩

/-- a slice of the call's own, with room for one list of cells more -/
theorem Ow.snoc {E : TypeId} {base : Nat} {x : α} (h : w.ownsRow base E e.sz v (l.length + 1) (l.flatMap e.cells ++ e.cells x)) : Ow e E w base v (l ++ [x]) := by
  unfold Ow
  rw [List.length_append, List.length_singleton, List.flatMap_append, List.flatMap_singleton]
  exact h

theorem Ow.below {E : TypeId} {base : Nat} (h : Ow e E w base v l) (hb : Below w.heap.size w w') : Ow e E w' base v l := by
  refine World.ownsRow.kept (row := none) h ⟨hb.os, hb.tape, hb.output, hb.size, fun k hk _ => hb.block k hk⟩ ?_
  cases hv : v.ownBlock with
  | none => exact .inl rfl
  | some g => exact .inr (by simp)

theorem Ow.more {E : TypeId} {base base' : Nat} (h : Ow e E w base v l) (hb : base' ≤ base) : Ow e E w base' v l := by
  obtain ⟨h1, h2⟩ := h
  refine ⟨h1, ?_⟩
  rcases h2 with h2 | ⟨g, cap, cur, hv, hg, r⟩
  · exact .inl h2
  · exact .inr ⟨g, cap, cur, hv, by omega, r⟩
end

theorem wSeq_own {E : TypeId} {sz base g cap : Nat} (n : Nat) : ∀ (us xs : List Value) (w : World) (i : Nat), w.ownsRow base E sz (.slice (some ⟨g, 0, none⟩) n cap) n xs →
    (wSeq w g i us).ownsRow base E sz (.slice (some ⟨g, 0, none⟩) n cap) n (setSeq xs i us) ∧ w.grownBy (wSeq w g i us) (some g)
  | [], xs, w, i, h => ⟨h, World.grownBy.refl w _⟩
  | u :: us, xs, w, i, h => by
    have h1 := World.ownsRow.stored h i u
    have h2 := wSeq_own n us _ _ (i + 1) h1.1
    exact ⟨h2.1, h1.2.trans h2.2⟩

/-- one element of the call's own slice is written -/
theorem Ow.put {α : Type} {e : Enc α} {E : TypeId} {w : World} {base g cap n : Nat} {l : List α} (h : Ow e E w base (.slice (some ⟨g, 0, none⟩) n cap) l) (hn : l.length = n) (k : Nat) (hk : k < n) (x : α) :
    Ow e E (wSeq w g (k * e.sz) (e.cells x)) base (.slice (some ⟨g, 0, none⟩) n cap) (l.set k x) ∧ w.grownBy (wSeq w g (k * e.sz) (e.cells x)) (some g) := by
  subst hn
  have := wSeq_own (cap := cap) l.length (e.cells x) _ w (k * e.sz) h
  rw [e.flat_put x l k hk] at this
  unfold Ow
  rw [List.length_set]
  exact this

theorem madeCells_flat {α : Type} (e : Enc α) (x : α) (n : Nat) (hsz : 0 < e.sz) : (madeCells (e.cells x).toArray (n * e.sz)).toList = (List.replicate n x).flatMap e.cells := by
  apply List.ext_getElem?
  intro i
  by_cases hi : i < n * e.sz
  · have hk : i / e.sz < n := Nat.div_lt_of_lt_mul (by rw [Nat.mul_comm]; exact hi)
    have hj : i % e.sz < e.sz := Nat.mod_lt _ hsz
    have hij : i / e.sz * e.sz + i % e.sz = i := by rw [Nat.mul_comm]; exact Nat.div_add_mod _ _
    have h1 := e.flat_get hj (List.replicate n x) (i / e.sz) (by simpa using hk)
    rw [hij] at h1
    rw [h1]
    have hl : i % e.sz < (e.cells x).length := by rw [e.len]; exact hj
    have hz : 0 < (e.cells x).length := by rw [e.len]; exact hsz
    simp [madeCells, hi, e.len, hj]
  · rw [List.getElem?_eq_none (by simp [madeCells]; omega), List.getElem?_eq_none (by rw [e.flat_length]; simp; omega)]

/-- a slice that make has made -/
theorem Ow.made {α : Type} (e : Enc α) (E : TypeId) (w : World) (x : α) (n : Nat) (hsz : 0 < e.sz) (hn : n ≤ maxLen) {z : Array Value} (hz : z = (e.cells x).toArray) {m : Nat} (hm : m = n * e.sz) :
    Ow e E (w.alloc (.cells (madeCells z m) E)) w.heap.size (.slice (some ⟨w.heap.size, 0, none⟩) n n) (List.replicate n x) := by
  subst hz; subst hm
  have := World.ownsRow_lit (base := w.heap.size) (e := E) (size := e.sz) w (madeCells (e.cells x).toArray (n * e.sz)) n (Nat.le_refl _) hn (size_madeCells _ _)
  rw [madeCells_flat e x n hsz] at this
  unfold Ow
  rw [List.length_replicate]
  exact this

theorem Ow.ne_ {α β : Type} {e : Enc α} {e' : Enc β} {E E' : TypeId} {w : World} {base base' : Nat} {v v' : Value} {l : List α} {l' : List β} (h : Ow e E w base v l) (h' : Ow e' E' w base' v' l') (hne : E ≠ E') :
    v.ownBlock = none ∨ v.ownBlock ≠ v'.ownBlock := by
  rcases h.2 with ⟨rfl, _⟩ | ⟨g, cap, cur, rfl, _, hh, _⟩
  · exact .inl rfl
  · rcases h'.2 with ⟨rfl, _⟩ | ⟨g', cap', cur', rfl, _, hh', _⟩
    · exact .inr (by simp [Value.ownBlock])
    · refine .inr (fun he => ?_)
      have : g = g' := by simpa [Value.ownBlock] using he
      subst this
      rw [hh] at hh'
      injection hh' with hh'
      injection hh' with _ ht
      exact hne ht
theorem Ow.grown {α : Type} {e : Enc α} {E : TypeId} {w w' : World} {base : Nat} {v : Value} {l : List α} {row : Option Nat} (h : Ow e E w base v l) (hg : w.grownBy w' row) (hne : v.ownBlock = none ∨ v.ownBlock ≠ row) : Ow e E w' base v l :=
  World.ownsRow.kept h hg hne

theorem news_new (w : World) (cs : Array Value) (T : TypeId) {g : Nat} (hg : g = w.heap.size) : ∀ j u, cs.toList[j]? = some u → (w.alloc (.cells cs T)).cell? ((⟨g, 0, none⟩ : Addr).add j) = some u := by
  subst hg
  intro j u hu
  have h : (w.alloc (.cells cs T)).cell? ⟨w.heap.size, j, none⟩ = cs[j]? := cell_of_row _ _ j cs T (0, 0) (heap_alloc_new w _)
  have e : ((⟨w.heap.size, 0, none⟩ : Addr).add j) = ⟨w.heap.size, j, none⟩ := by
    unfold Addr.add
    split <;> simp_all
  rw [e, h]
  simpa using hu

/-- one element is appended to a slice of the call's own -/
theorem wpList_push {α : Type} {P : Program} {ops : Array Oper} {rest : List Oper} {o : Oper} {a : Act} {Q : Exit → Act → World → Prop} {w : World} (e : Enc α) (hsz : 0 < e.sz) {base : Nat} {E t : TypeId} {i : TypeInfo} {z : Value} {bytes : Nat}
    (hgd : o.guard = none) (s x : Operand) (ho : o.op = .call { callee := .builtin .append, args := #[s, x], argTypes := #[t, t] })
    (ht : P.underlying t = some (.slice E)) (hi : P.info? E = some i) (hz : i.zero = some z) (hsize : i.size = e.sz) (hby : i.bytes = bytes) (hzs : z.cells.size = e.sz)
    {v : Value} {l : List α} (y : α) (hs : a.eval s = v) (hown : Ow e E w base v l) (ad : Addr) (c : Nat) (hx : a.eval x = .slice (some ad) 1 c) (hnews : ∀ j u, (e.cells y)[j]? = some u → w.cell? (ad.add j) = some u)
    (hlen : l.length ≤ 3000000) (hbytes : bytes ≤ 10000) (hbase : base ≤ w.heap.size)
    (h : ∀ v' w', Ow e E w' base v' (l ++ [y]) → w.grownBy w' v.ownBlock → wpList P ops Q rest (a.put o.dst v') w') : wpList P ops Q (o :: rest) a w := by
  refine wpList_append_own w hgd s x t ho base E i z e.sz bytes ht hi hz hsize hby hzs hsz v l.length (l.flatMap e.cells) hs hown ad 1 c (e.cells y) hx (by rw [e.len, Nat.one_mul]) hnews (e.one y) (by simp [maxLen]; omega) ?_ hbase ?_
  · have h1 : (l.length + 1) * bytes ≤ 3000001 * 10000 := Nat.mul_le_mul (by omega) hbytes
    omega
  · intro v' w' h1 h2 _
    exact h v' w' (Ow.snoc h1) h2

/-- an int in a cell -/
def intE : Enc Int := { cells := fun x => [.int .i64 x], sz := 1, len := fun _ => rfl, one := fun _ u hu => by simp at hu; subst hu; rfl }

theorem bcell {W w1 : World} (hb : Below W.heap.size W w1) : (∀ b o, b < W.heap.size → w1.cell? ⟨b, o, none⟩ = W.cell? ⟨b, o, none⟩) ∧ (∀ b o, b < W.heap.size → w1.frozen? ⟨b, o, none⟩ = W.frozen? ⟨b, o, none⟩) :=
  ⟨fun b o h => hb.cell (p := ⟨b, o, none⟩) h, fun b o h => hb.frozen (p := ⟨b, o, none⟩) h⟩

theorem bnext {w w1 w2 : World} (h : Below w.heap.size w w1) (k : Below w1.heap.size w1 w2) : Below w.heap.size w w2 := h.trans (k.mono h.size)

theorem bdrewN {B : Nat} {a w : World} (h : Below B a w) (n : Nat) : Below B a (w.drewN n) := ⟨h.os, h.tape, h.output, h.size, h.block⟩

/-- what a counting of sizes answers: -1, or what is left of the room -/
def SzPost (left : Int) (n : Nat) (w : World) (e : Ending) (w' : World) : Prop := ∃ r : Int, e = .returned (.int .i64 r) ∧ (r = -1 ∨ (0 ≤ r ∧ r + n ≤ left)) ∧ Below w.heap.size w w'

theorem ret_int {k : IntKind} {a b : Int} (h : a = b) : Ending.returned (.int k a) = .returned (.int k b) := by rw [h]
theorem ret_bool {a b : Bool} (h : a = b) : Ending.returned (.bool a) = .returned (.bool b) := by rw [h]

theorem mix_set {α : Type} (l : List α) (z : α) (k : Nat) (h : k < l.length) : (l.take k ++ List.replicate (l.length - k) z).set k l[k] = l.take (k + 1) ++ List.replicate (l.length - (k + 1)) z := by
  rw [List.set_append_right _ _ (by simp; omega), List.length_take, Nat.min_eq_left (Nat.le_of_lt h), Nat.sub_self, show l.length - k = (l.length - (k + 1)) + 1 from by omega, List.replicate_succ, List.set_cons_zero,
    List.take_succ_eq_append_getElem h, List.append_assoc, List.singleton_append]

theorem bytes_ne {a b : ByteArray} (h : ¬ a = b) : (a.toList == b.toList) = false := by
  rw [beq_eq_false_iff_ne]
  intro e
  rw [ByteArray.toList_eq, ByteArray.toList_eq] at e
  exact h (by cases a; cases b; simpa using e)

theorem take_snoc {α : Type} (l : List α) (k : Nat) (h : k < l.length) : l.take (k + 1) = l.take k ++ [l[k]] := by
  rw [List.take_succ_eq_append_getElem h]


/-! A region that draws its order, whose operations only read old memory and whose callees only make new memory and hand back values that do not depend on it: one walk serves. -/
/-- the worlds that may come behind w: what was there is as it was -/
def Later (w : World) : Type := { u : World // Below w.heap.size w u }
instance (w : World) : Nonempty (Later w) := ⟨⟨w, Below.refl _ _⟩⟩
theorem wp_region_pure {P : Program} {id : Nat} {Q : Exit → Act → World → Prop} {a : Act} {w : World} {l : List Oper} (hm : P.follows .mixedOrders = true) (hB : Region.lexB .any l.toArray = true)
    (h : wpQuiet P l.toArray (fun w' => ∃ u : Later w, w' = u.1) (fun a' => ∀ w', (∃ u : Later w, w' = u.1) → Q .normal a' w') l a) : (Code.region id l.toArray true).wp P Q a w :=
  wp_region_quiet (C := fun w' => ∃ u : Later w, w' = u.1) hm hB ⟨⟨w.drew, (Below.refl _ _).drew⟩, rfl⟩ (by simpa using h)
theorem later_cell (w : World) : ∀ (u : Later w) (b o : Nat), b < w.heap.size → (u.1).cell? ⟨b, o, none⟩ = w.cell? ⟨b, o, none⟩ := fun u b o h => u.2.cell (p := ⟨b, o, none⟩) h
theorem pure_of {P : Program} {f : FuncId} {args : Array Value} {w : World} {u : Later w} {v : Value}
    (h : Calls P f args u.1 fun e w' => e = .returned v ∧ Below u.1.heap.size u.1 w') : Calls P f args u.1 fun e w'' => e = .returned v ∧ ∃ u' : Later w, w'' = u'.1 :=
  h.mono fun _ _ ⟨he, hb⟩ => ⟨he, ⟨_, bnext u.2 hb⟩, rfl⟩
theorem pure_at {P : Program} {f : FuncId} {args : Array Value} {w : World} {u : Later w} {v : Value}
    (h : ∀ u : Later w, Calls P f args u.1 fun e w' => e = .returned v ∧ Below u.1.heap.size u.1 w') : Calls P f args u.1 fun e w'' => e = .returned v ∧ ∃ u' : Later w, w'' = u'.1 :=
  (h u).mono fun _ _ ⟨he, hb⟩ => ⟨he, ⟨_, bnext u.2 hb⟩, rfl⟩
theorem pure_same {P : Program} {f : FuncId} {args : Array Value} {w : World} {u : Later w} {v : Value}
    (h : ∀ u : Later w, Calls P f args u.1 fun e w' => e = .returned v ∧ u.1 = w') : Calls P f args u.1 fun e w'' => e = .returned v ∧ ∃ u' : Later w, w'' = u'.1 :=
  (h u).mono fun _ _ ⟨he, hb⟩ => ⟨he, u, hb.symm⟩
end Go.Proofs.YtjobmbjadpldfaaGreat
end
section
namespace Go.Proofs.YtjobmbjadpldfaaGreat.Pg

/-- a way along edges; the list has the nodes that it comes to, one behind the other -/
inductive Way (es : List (Nat × Nat)) : Nat → List Nat → Nat → Prop
  | nil (a : Nat) : Way es a [] a
  | cons {a c b : Nat} {l : List Nat} : (a, c) ∈ es → Way es c l b → Way es a (c :: l) b

/-- b is reached from a by one edge or more -/
def Reach (es : List (Nat × Nat)) (a b : Nat) : Prop := ∃ l, l ≠ [] ∧ Way es a l b

theorem Way.split {es : List (Nat × Nat)} {x b : Nat} {l2 : List Nat} : ∀ {a : Nat} (l1 : List Nat), Way es a (l1 ++ x :: l2) b → Way es x l2 b
  | _, [], h => by cases h with | cons _ h => exact h
  | _, _ :: l1, h => by cases h with | cons _ h => exact Way.split l1 h

theorem Way.snoc {es : List (Nat × Nat)} {b c : Nat} : ∀ {a : Nat} {l : List Nat}, Way es a l b → (b, c) ∈ es → Way es a (l ++ [c]) c
  | _, _, .nil _, he => .cons he (.nil _)
  | _, _, .cons h1 h2, he => .cons h1 (h2.snoc he)

theorem Way.simple {es : List (Nat × Nat)} {b : Nat} : ∀ (l : List Nat) {a c : Nat}, Way es a (c :: l) b → ∃ l', Way es a (c :: l') b ∧ (c :: l').Nodup
  | [], _, _, h => ⟨[], h, by simp⟩
  | d :: l, a, c, h => by
    cases h with
    | cons h1 h2 =>
      obtain ⟨l', hw, hn⟩ := Way.simple l h2
      by_cases hc : c ∈ d :: l'
      · obtain ⟨l1, l2, he⟩ := List.append_of_mem hc
        rw [he] at hw hn
        refine ⟨l2, .cons h1 (hw.split l1), ?_⟩
        exact (List.nodup_append.1 hn).2.1
      · exact ⟨d :: l', .cons h1 hw, List.nodup_cons.2 ⟨hc, hn⟩⟩

theorem nodup_le : ∀ (T : Nat) (l : List Nat), l.Nodup → (∀ x ∈ l, x < T) → l.length ≤ T
  | 0, l, _, h => by
    cases l with
    | nil => simp
    | cons a l => exact absurd (h a (by simp)) (by omega)
  | T + 1, l, hn, h => by
    have h1 := nodup_le T (l.erase T) (hn.erase T) (fun x hx => by
      have hx' := (hn.mem_erase_iff).1 hx
      have := h x hx'.2
      have := hx'.1
      omega)
    have h2 : l.length ≤ (l.erase T).length + 1 := by
      rw [List.length_erase]
      split <;> omega
    omega

theorem Way.mem {es : List (Nat × Nat)} {b : Nat} {T : Nat} (hes : ∀ e ∈ es, e.2 < T) : ∀ {a : Nat} {l : List Nat}, Way es a l b → ∀ x ∈ l, x < T
  | _, _, .nil _ => by simp
  | _, _, .cons h1 h2 => by
    intro x hx
    rcases List.mem_cons.1 hx with rfl | hx
    · exact hes _ h1
    · exact h2.mem hes x hx

/-- a short way -/
theorem Reach.short {es : List (Nat × Nat)} {a b T : Nat} (hes : ∀ e ∈ es, e.2 < T) (h : Reach es a b) : ∃ l, l ≠ [] ∧ l.length ≤ T ∧ Way es a l b := by
  obtain ⟨l, hl, hw⟩ := h
  match l, hl, hw with
  | c :: l, _, hw =>
    obtain ⟨l', hw', hn⟩ := hw.simple l
    exact ⟨c :: l', by simp, nodup_le T _ hn (hw'.mem hes), hw'⟩

theorem Reach.one {es : List (Nat × Nat)} {a b : Nat} (h : (a, b) ∈ es) : Reach es a b := ⟨[b], by simp, .cons h (.nil _)⟩
theorem Reach.cons {es : List (Nat × Nat)} {a c b : Nat} (h : (a, c) ∈ es) (h' : Reach es c b) : Reach es a b := by
  obtain ⟨l, _, hw⟩ := h'
  exact ⟨c :: l, by simp, .cons h hw⟩
theorem Reach.snoc {es : List (Nat × Nat)} {a c b : Nat} (h' : Reach es a c) (h : (c, b) ∈ es) : Reach es a b := by
  obtain ⟨l, _, hw⟩ := h'
  exact ⟨l ++ [b], by simp, hw.snoc h⟩
theorem Way.append {es : List (Nat × Nat)} {b c : Nat} {l2 : List Nat} : ∀ {a : Nat} {l : List Nat}, Way es a l b → Way es b l2 c → Way es a (l ++ l2) c
  | _, _, .nil _, h => h
  | _, _, .cons h1 h2, h => .cons h1 (h2.append h)
theorem Reach.trans {es : List (Nat × Nat)} {a c b : Nat} (h : Reach es a c) (h' : Reach es c b) : Reach es a b := by
  obtain ⟨l, hl, hw⟩ := h
  obtain ⟨l', _, hw'⟩ := h'
  exact ⟨l ++ l', by simp [hl], hw.append hw'⟩

/-! The closure by rounds: o a is a set of nodes, as a number. -/
def wstep (o : List Nat) (e : Nat × Nat) : List Nat := o.set e.1 (o.getD e.1 0 ||| (1 <<< e.2 ||| o.getD e.2 0))
def wround (es : List (Nat × Nat)) (o : List Nat) : List Nat := es.foldl wstep o
def wrounds (es : List (Nat × Nat)) : Nat → List Nat → List Nat
  | 0, o => o
  | k + 1, o => wround es (wrounds es k o)

theorem wstep_length (o : List Nat) (e : Nat × Nat) : (wstep o e).length = o.length := by simp [wstep]
theorem wround_length (es : List (Nat × Nat)) : ∀ o : List Nat, (wround es o).length = o.length := by
  unfold wround
  induction es with
  | nil => intro o; rfl
  | cons e es ih => intro o; rw [List.foldl_cons, ih, wstep_length]
theorem wrounds_length (es : List (Nat × Nat)) (o : List Nat) : ∀ k, (wrounds es k o).length = o.length
  | 0 => rfl
  | k + 1 => by rw [wrounds, wround_length, wrounds_length es o k]

theorem bit_one (i b : Nat) : (1 <<< i).testBit b = decide (i = b) := by
  rw [Nat.shiftLeft_eq, Nat.one_mul, Nat.testBit_two_pow]

theorem wstep_get (o : List Nat) (e : Nat × Nat) (a : Nat) (h : e.1 < o.length) :
    (wstep o e).getD a 0 = if a = e.1 then o.getD e.1 0 ||| (1 <<< e.2 ||| o.getD e.2 0) else o.getD a 0 := by
  unfold wstep
  simp only [List.getD_eq_getElem?_getD, List.getElem?_set]
  by_cases ha : a = e.1
  · subst ha
    simp [h]
  · rw [if_neg (fun h => ha h.symm), if_neg ha]

theorem wstep_mono (o : List Nat) (e : Nat × Nat) (a b : Nat) (h : e.1 < o.length) (hb : (o.getD a 0).testBit b = true) : ((wstep o e).getD a 0).testBit b = true := by
  rw [wstep_get o e a h]
  split
  · rename_i ha
    subst ha
    rw [Nat.testBit_or, hb]; rfl
  · exact hb

theorem wround_mono (es : List (Nat × Nat)) : ∀ (o : List Nat) (a b : Nat), (∀ e ∈ es, e.1 < o.length) → (o.getD a 0).testBit b = true → ((wround es o).getD a 0).testBit b = true := by
  unfold wround
  induction es with
  | nil => intro o a b _ h; exact h
  | cons e es ih =>
    intro o a b h hb
    rw [List.foldl_cons]
    exact ih _ a b (fun e' he' => by rw [wstep_length]; exact h e' (by simp [he'])) (wstep_mono o e a b (h e (by simp)) hb)

/-- an edge of a round does its work -/
theorem wround_edge (es : List (Nat × Nat)) : ∀ (o : List Nat) (a c b : Nat), (∀ e ∈ es, e.1 < o.length) → (a, c) ∈ es → (c = b ∨ (o.getD c 0).testBit b = true) →
    ((wround es o).getD a 0).testBit b = true := by
  unfold wround
  induction es with
  | nil => intro o a c b _ h; simp at h
  | cons e es ih =>
    intro o a c b h hm hb
    rw [List.foldl_cons]
    have hl : ∀ e' ∈ es, e'.1 < (wstep o e).length := fun e' he' => by rw [wstep_length]; exact h e' (by simp [he'])
    rcases List.mem_cons.1 hm with he | hm
    · have h0 : ((wstep o e).getD a 0).testBit b = true := by
        rw [wstep_get o e a (h e (by simp)), if_pos (by rw [← he])]
        rw [Nat.testBit_or, Nat.testBit_or, bit_one]
        rcases hb with hb | hb
        · have : e.2 = b := by rw [← he]; exact hb
          simp [this]
        · have : e.2 = c := by rw [← he]
          rw [this, hb]; simp
      exact wround_mono es _ a b hl h0
    · refine ih _ a c b hl hm ?_
      rcases hb with hb | hb
      · exact .inl hb
      · exact .inr (wstep_mono o e c b (h e (by simp)) hb)

theorem wrounds_way (es : List (Nat × Nat)) (o : List Nat) (h : ∀ e ∈ es, e.1 < o.length) : ∀ (k : Nat) (a b : Nat) (l : List Nat), l ≠ [] → l.length ≤ k → Way es a l b → ((wrounds es k o).getD a 0).testBit b = true
  | 0, _, _, l, hl, hk, _ => by
    cases l with
    | nil => exact absurd rfl hl
    | cons x l => simp at hk
  | k + 1, a, b, l, hl, hk, hw => by
    cases hw with
    | nil => exact absurd rfl hl
    | cons h1 h2 =>
      rename_i c l
      rw [wrounds]
      refine wround_edge es _ a c b (by rw [wrounds_length]; exact h) h1 ?_
      cases l with
      | nil => cases h2; exact .inl rfl
      | cons d l => exact .inr (wrounds_way es o h k c b (d :: l) (by simp) (by simp at hk ⊢; omega) h2)

theorem wround_sound (es0 es : List (Nat × Nat)) (hsub : ∀ e ∈ es, e ∈ es0) : ∀ (o : List Nat), (∀ e ∈ es, e.1 < o.length) → (∀ a b, (o.getD a 0).testBit b = true → Reach es0 a b) →
    ∀ a b, ((wround es o).getD a 0).testBit b = true → Reach es0 a b := by
  unfold wround
  induction es with
  | nil => intro o _ h; exact h
  | cons e es ih =>
    intro o hl h
    rw [List.foldl_cons]
    refine ih (fun e' he' => hsub e' (by simp [he'])) _ (fun e' he' => by rw [wstep_length]; exact hl e' (by simp [he'])) ?_
    intro a b hb
    rw [wstep_get o e a (hl e (by simp))] at hb
    split at hb
    · rename_i ha
      subst ha
      rw [Nat.testBit_or, Nat.testBit_or, bit_one] at hb
      simp only [Bool.or_eq_true, decide_eq_true_eq] at hb
      rcases hb with hb | hb | hb
      · exact h _ _ hb
      · subst hb; exact .one (hsub e (by simp))
      · exact .cons (hsub e (by simp)) (h _ _ hb)
    · exact h _ _ hb

theorem wrounds_sound (es : List (Nat × Nat)) (T : Nat) (hl : ∀ e ∈ es, e.1 < T) : ∀ k a b, ((wrounds es k (List.replicate T 0)).getD a 0).testBit b = true → Reach es a b
  | 0, a, b, h => by
    simp [wrounds, List.getD_eq_getElem?_getD, List.getElem?_replicate] at h
    split at h <;> simp at h
  | k + 1, a, b, h => wround_sound es es (fun _ h => h) _ (by rw [wrounds_length]; simpa using hl) (wrounds_sound es T hl k) a b h

/-- what the rounds tell is what can be reached -/
theorem wrounds_iff (es : List (Nat × Nat)) (T : Nat) (h1 : ∀ e ∈ es, e.1 < T) (h2 : ∀ e ∈ es, e.2 < T) (a b : Nat) :
    ((wrounds es T (List.replicate T 0)).getD a 0).testBit b = true ↔ Reach es a b := by
  refine ⟨wrounds_sound es T h1 T a b, fun h => ?_⟩
  obtain ⟨l, hl, hT, hw⟩ := h.short h2
  exact wrounds_way es _ (by simpa using h1) T a b l hl hT hw

theorem wstep_lt (T : Nat) (o : List Nat) (e : Nat × Nat) (h2 : e.2 < T) (ho : ∀ x ∈ o, x < 2 ^ T) : ∀ x ∈ wstep o e, x < 2 ^ T := by
  have hg : ∀ a, o.getD a 0 < 2 ^ T := fun a => by
    rw [List.getD_eq_getElem?_getD]
    cases h : o[a]? with
    | none => exact Nat.two_pow_pos T
    | some y => exact ho y (List.mem_of_getElem? h)
  intro x hx
  unfold wstep at hx
  rcases List.mem_or_eq_of_mem_set hx with hx | hx
  · exact ho x hx
  · subst hx
    refine Nat.or_lt_two_pow (hg _) (Nat.or_lt_two_pow ?_ (hg _))
    rw [Nat.shiftLeft_eq, Nat.one_mul]
    exact Nat.pow_lt_pow_of_lt (by omega) h2

theorem wround_lt (T : Nat) (es : List (Nat × Nat)) : ∀ (o : List Nat), (∀ e ∈ es, e.2 < T) → (∀ x ∈ o, x < 2 ^ T) → ∀ x ∈ wround es o, x < 2 ^ T := by
  unfold wround
  induction es with
  | nil => intro o _ h; exact h
  | cons e es ih =>
    intro o h2 ho
    rw [List.foldl_cons]
    exact ih _ (fun e' he' => h2 e' (by simp [he'])) (wstep_lt T o e (h2 e (by simp)) ho)
theorem wrounds_lt (T : Nat) (es : List (Nat × Nat)) (o : List Nat) (h2 : ∀ e ∈ es, e.2 < T) (ho : ∀ x ∈ o, x < 2 ^ T) : ∀ k, ∀ x ∈ wrounds es k o, x < 2 ^ T
  | 0 => ho
  | k + 1 => wround_lt T es _ h2 (wrounds_lt T es o h2 ho k)

/-! The search by a list. -/
/-- what one edge does at a node x -/
def bstep (x : Nat) (s : List Bool × List Nat) (e : Nat × Nat) : List Bool × List Nat :=
  if e.1 = x ∧ s.1.getD e.2 true = false then (s.1.set e.2 true, s.2 ++ [e.2]) else s
def bnode (es : List (Nat × Nat)) (x : Nat) (s : List Bool × List Nat) : List Bool × List Nat := es.foldl (bstep x) s
/-- the state when h nodes of the list have been looked at -/
def bfs (es : List (Nat × Nat)) (T t : Nat) : Nat → List Bool × List Nat
  | 0 => (List.replicate T false, [t])
  | h + 1 => bnode es ((bfs es T t h).2.getD h 0) (bfs es T t h)

/-- what holds all the time -/
structure Binv (es : List (Nat × Nat)) (T t : Nat) (s : List Bool × List Nat) : Prop where
  size : s.1.length = T
  head : ∃ l, s.2 = t :: l ∧ l.Nodup ∧ (∀ y, y ∈ l ↔ s.1.getD y false = true)
  reach : ∀ y, s.1.getD y false = true → Reach es t y

theorem Binv.lt {es : List (Nat × Nat)} {T t : Nat} {s : List Bool × List Nat} (h : Binv es T t s) : s.2.length ≤ T + 1 := by
  obtain ⟨l, hl, hn, hm⟩ := h.head
  rw [hl, List.length_cons]
  have := nodup_le T l hn (fun x hx => by
    have := (hm x).1 hx
    rw [List.getD_eq_getElem?_getD] at this
    by_cases hx' : x < s.1.length
    · rw [h.size] at hx'; exact hx'
    · rw [List.getElem?_eq_none (by omega)] at this; simp at this)
  omega

theorem Binv.start (es : List (Nat × Nat)) (T t : Nat) : Binv es T t (List.replicate T false, [t]) := by
  refine ⟨by simp, ⟨[], rfl, by simp, fun y => ?_⟩, fun y => ?_⟩
  · simp [List.getD_eq_getElem?_getD, List.getElem?_replicate]; split <;> simp
  · simp [List.getD_eq_getElem?_getD, List.getElem?_replicate]; split <;> simp

theorem Binv.step {es : List (Nat × Nat)} {T t x : Nat} {s : List Bool × List Nat} (h : Binv es T t s) (hx : x ∈ s.2) (e : Nat × Nat) (he : e ∈ es) (h2 : e.2 < T) : Binv es T t (bstep x s e) := by
  unfold bstep
  split
  · rename_i hc
    obtain ⟨h1, hf⟩ := hc
    obtain ⟨l, hl, hn, hm⟩ := h.head
    have hlt : e.2 < s.1.length := by rw [h.size]; exact h2
    have hf' : s.1.getD e.2 false = false := by
      rw [List.getD_eq_getElem?_getD, List.getElem?_eq_getElem hlt] at hf ⊢
      simpa using hf
    have hg : ∀ y, (s.1.set e.2 true).getD y false = true ↔ y = e.2 ∨ s.1.getD y false = true := by
      intro y
      simp only [List.getD_eq_getElem?_getD, List.getElem?_set]
      by_cases hy : e.2 = y
      · subst hy; simp [hlt]
      · rw [if_neg hy]
        exact ⟨fun h => .inr h, fun h => h.resolve_left (fun h => hy h.symm)⟩
    have hr : Reach es t e.2 := by
      rw [hl] at hx
      rcases List.mem_cons.1 hx with rfl | hx
      · exact .one (by rw [← h1]; exact he)
      · exact (h.reach x ((hm x).1 hx)).snoc (by rw [← h1]; exact he)
    refine ⟨by simpa using h.size, ⟨l ++ [e.2], by simp [hl], ?_, fun y => ?_⟩, fun y hy => ?_⟩
    · rw [List.nodup_append]
      refine ⟨hn, by simp, ?_⟩
      intro a ha b hb hab
      simp only [List.mem_singleton] at hb
      rw [hab, hb] at ha
      rw [(hm _).1 ha] at hf'
      cases hf'
    · rw [hg]
      simp only [List.mem_append, List.mem_singleton, hm]
      exact Or.comm
    · rcases (hg y).1 hy with rfl | hy
      · exact hr
      · exact h.reach y hy
  · exact h

theorem bstep_mem {x y : Nat} {s : List Bool × List Nat} {e : Nat × Nat} (h : y ∈ s.2) : y ∈ (bstep x s e).2 := by
  unfold bstep
  split
  · simp [h]
  · exact h
theorem bstep_pre {x : Nat} {s : List Bool × List Nat} {e : Nat × Nat} : ∃ r, (bstep x s e).2 = s.2 ++ r := by
  unfold bstep
  split
  · exact ⟨[e.2], rfl⟩
  · exact ⟨[], by simp⟩
theorem bnode_pre (es : List (Nat × Nat)) (x : Nat) : ∀ s : List Bool × List Nat, ∃ r, (bnode es x s).2 = s.2 ++ r := by
  unfold bnode
  induction es with
  | nil => intro s; exact ⟨[], by simp⟩
  | cons e es ih =>
    intro s
    rw [List.foldl_cons]
    obtain ⟨r, hr⟩ := ih (bstep x s e)
    obtain ⟨r', hr'⟩ := bstep_pre (x := x) (s := s) (e := e)
    exact ⟨r' ++ r, by rw [hr, hr', List.append_assoc]⟩

theorem bnode_inv {es0 : List (Nat × Nat)} {T t x : Nat} (es : List (Nat × Nat)) : ∀ {s : List Bool × List Nat}, Binv es0 T t s → x ∈ s.2 → (∀ e ∈ es, e ∈ es0) → (∀ e ∈ es, e.2 < T) → Binv es0 T t (bnode es x s) := by
  unfold bnode
  induction es with
  | nil => intro s h _ _ _; exact h
  | cons e es ih =>
    intro s h hx hs h2
    rw [List.foldl_cons]
    exact ih (h.step hx e (hs e (by simp)) (h2 e (by simp))) (bstep_mem hx) (fun e' he' => hs e' (by simp [he'])) (fun e' he' => h2 e' (by simp [he']))

theorem bstep_keep {x y : Nat} {s : List Bool × List Nat} {e : Nat × Nat} (h : s.1.getD y false = true) : (bstep x s e).1.getD y false = true := by
  unfold bstep
  split
  · simp only [List.getD_eq_getElem?_getD, List.getElem?_set] at h ⊢
    by_cases hy : e.2 = y
    · subst hy
      by_cases hl : e.2 < s.1.length
      · simp [hl]
      · rw [List.getElem?_eq_none (by omega)] at h; simp at h
    · rw [if_neg hy]; exact h
  · exact h
theorem bnode_keep (es : List (Nat × Nat)) (x y : Nat) : ∀ s : List Bool × List Nat, s.1.getD y false = true → (bnode es x s).1.getD y false = true := by
  unfold bnode
  induction es with
  | nil => intro s h; exact h
  | cons e es ih => intro s h; rw [List.foldl_cons]; exact ih _ (bstep_keep h)
theorem bstep_length (x : Nat) (s : List Bool × List Nat) (e : Nat × Nat) : (bstep x s e).1.length = s.1.length := by
  unfold bstep
  split <;> simp
theorem bnode_length (es : List (Nat × Nat)) (x : Nat) : ∀ s : List Bool × List Nat, (bnode es x s).1.length = s.1.length := by
  unfold bnode
  induction es with
  | nil => intro s; rfl
  | cons e es ih => intro s; rw [List.foldl_cons, ih, bstep_length]

/-- when a node has been looked at, all that its edges lead to is marked -/
theorem bnode_edge (es : List (Nat × Nat)) (x y : Nat) : ∀ s : List Bool × List Nat, (∀ e ∈ es, e.2 < s.1.length) → (x, y) ∈ es → (bnode es x s).1.getD y false = true := by
  unfold bnode
  induction es with
  | nil => intro s _ h; simp at h
  | cons e es ih =>
    intro s hl hm
    rw [List.foldl_cons]
    rcases List.mem_cons.1 hm with he | hm
    · refine bnode_keep es x y _ ?_
      have hlt := hl e (by simp)
      have h1 : e.1 = x := by rw [← he]
      have h2 : e.2 = y := by rw [← he]
      unfold bstep
      split
      · rw [h2] at hlt ⊢
        simp [List.getD_eq_getElem?_getD, hlt]
      · rename_i hc
        rw [h2] at hc hlt
        simp only [h1, true_and] at hc
        rw [List.getD_eq_getElem?_getD, List.getElem?_eq_getElem hlt] at hc ⊢
        simpa using hc
    · exact ih _ (fun e' he' => by rw [bstep_length]; exact hl e' (by simp [he'])) hm

/-- h nodes of the list have been looked at -/
structure Bat (es : List (Nat × Nat)) (T t h : Nat) (s : List Bool × List Nat) : Prop where
  inv : Binv es T t s
  le : h ≤ s.2.length
  done : ∀ i x, i < h → s.2[i]? = some x → ∀ y, (x, y) ∈ es → s.1.getD y false = true

theorem Bat.start (es : List (Nat × Nat)) (T t : Nat) : Bat es T t 0 (List.replicate T false, [t]) :=
  ⟨.start es T t, Nat.zero_le _, fun i _ hi => absurd hi (by omega)⟩

theorem Bat.next {es : List (Nat × Nat)} {T t h : Nat} {s : List Bool × List Nat} (hb : Bat es T t h s) (h2 : ∀ e ∈ es, e.2 < T) {x : Nat} (hx : s.2[h]? = some x) : Bat es T t (h + 1) (bnode es x s) := by
  obtain ⟨r, hr⟩ := bnode_pre es x s
  have hlt : h < s.2.length := by
    rcases Nat.lt_or_ge h s.2.length with h' | h'
    · exact h'
    · rw [List.getElem?_eq_none h'] at hx; cases hx
  refine ⟨bnode_inv es hb.inv (List.mem_of_getElem? hx) (fun _ h => h) h2, by rw [hr]; simp; omega, fun i z hi' hiz y hy => ?_⟩
  rw [hr, List.getElem?_append_left (by omega)] at hiz
  rcases Nat.lt_or_eq_of_le (Nat.le_of_lt_succ hi') with hl | rfl
  · exact bnode_keep es _ y _ (hb.done i z hl hiz y hy)
  · have : x = z := Option.some.inj (hx.symm.trans hiz)
    subst this
    exact bnode_edge es x y _ (by rw [hb.inv.size]; exact h2) hy

/-- at the end the marks tell what can be reached -/
theorem Bat.iff {es : List (Nat × Nat)} {T t : Nat} {s : List Bool × List Nat} (hb : Bat es T t s.2.length s) (y : Nat) : s.1.getD y false = true ↔ Reach es t y := by
  refine ⟨hb.inv.reach y, fun hr => ?_⟩
  obtain ⟨l, hl, hn, hm⟩ := hb.inv.head
  have hclosed : ∀ x, x ∈ s.2 → ∀ y, (x, y) ∈ es → s.1.getD y false = true := by
    intro x hx y hy
    obtain ⟨i, hi⟩ := List.getElem?_of_mem hx
    exact hb.done i x (by
      rcases Nat.lt_or_ge i s.2.length with h' | h'
      · exact h'
      · rw [List.getElem?_eq_none h'] at hi; cases hi) hi y hy
  have key : ∀ (w : List Nat) (a : Nat), a ∈ s.2 → w ≠ [] → Way es a w y → s.1.getD y false = true := by
    intro w
    induction w with
    | nil => intro a _ h; exact absurd rfl h
    | cons c w ih =>
      intro a ha _ hw
      cases hw with
      | cons h1 h2 =>
        have hc := hclosed a ha c h1
        cases w with
        | nil => cases h2; exact hc
        | cons d w => exact ih c (by rw [hl]; exact List.mem_cons_of_mem _ ((hm c).2 hc)) (by simp) h2
  obtain ⟨w, hw, hway⟩ := hr
  exact key w t (by rw [hl]; simp) hw hway

end Go.Proofs.YtjobmbjadpldfaaGreat.Pg
end
section
namespace Go.Proofs
open Go.Shelf
def Tryz.lays189_ren : Go.Shelf.Ren := ⟨fun | 189 => 123 | 125 => 125 | 257 => 124 | 128 => 135 | 129 => 136 | 294 => 126 | 295 => 127 | 296 => 128 | 297 => 129 | 298 => 130 | 299 => 131 | 216 => 132 | 300 => 133 | 301 => 134 | 328 => 137 | 329 => 138 | 330 => 139 | 331 => 140 | 332 => 141 | 215 => 142 | 343 => 143 | n => n, fun | 28 => 94 | 3 => 3 | 46 => 161 | 0 => 0 | 51 => 172 | 53 => 174 | 4 => 4 | 183 => 164 | 182 => 163 | 131 => 169 | 5 => 5 | 9 => 9 | 218 => 175 | 222 => 179 | 228 => 181 | 229 => 182 | n => n, fun | n => n⟩
theorem Tryz.lays189 : Go.Proofs.Lays.n189 Tryz.prog Tryz.lays189_ren := {
  mixed := by kernel_rfl
  f125 := Tryz.func125.trans (congrArg some (by kernel_rfl))
  f128 := Tryz.func135.trans (congrArg some (by kernel_rfl))
  f129 := Tryz.func136.trans (congrArg some (by kernel_rfl))
  f189 := Tryz.func123.trans (congrArg some (by kernel_rfl))
  f215 := Tryz.func142.trans (congrArg some (by kernel_rfl))
  f216 := Tryz.func132.trans (congrArg some (by kernel_rfl))
  f257 := Tryz.func124.trans (congrArg some (by kernel_rfl))
  f294 := Tryz.func126.trans (congrArg some (by kernel_rfl))
  f295 := Tryz.func127.trans (congrArg some (by kernel_rfl))
  f296 := Tryz.func128.trans (congrArg some (by kernel_rfl))
  f297 := Tryz.func129.trans (congrArg some (by kernel_rfl))
  f298 := Tryz.func130.trans (congrArg some (by kernel_rfl))
  f299 := Tryz.func131.trans (congrArg some (by kernel_rfl))
  f300 := Tryz.func133.trans (congrArg some (by kernel_rfl))
  f301 := Tryz.func134.trans (congrArg some (by kernel_rfl))
  f328 := Tryz.func137.trans (congrArg some (by kernel_rfl))
  f329 := Tryz.func138.trans (congrArg some (by kernel_rfl))
  f330 := Tryz.func139.trans (congrArg some (by kernel_rfl))
  f331 := Tryz.func140.trans (congrArg some (by kernel_rfl))
  f332 := Tryz.func141.trans (congrArg some (by kernel_rfl))
  f343 := Tryz.func143.trans (congrArg some (by kernel_rfl))
  t0 := Tryz.underlying0
  a0 := Tryz.isAgg0
  z0 := Tryz.sizeOf0
  v0 := Tryz.zeroValue0
  t3 := Tryz.underlying3
  a3 := Tryz.isAgg3
  z3 := Tryz.sizeOf3
  v3 := Tryz.zeroValue3
  t4 := Tryz.underlying4
  a4 := Tryz.isAgg4
  z4 := Tryz.sizeOf4
  v4 := Tryz.zeroValue4
  t5 := Tryz.underlying5
  a5 := Tryz.isAgg5
  z5 := Tryz.sizeOf5
  v5 := Tryz.zeroValue5
  t9 := Tryz.underlying9
  a9 := Tryz.isAgg9
  z9 := Tryz.sizeOf9
  v9 := Tryz.zeroValue9
  t28 := Tryz.underlying94
  a28 := Tryz.isAgg94
  z28 := Tryz.sizeOf94
  v28 := Tryz.zeroValue94
  t46 := Tryz.underlying161
  a46 := Tryz.isAgg161
  z46 := Tryz.sizeOf161
  v46 := Tryz.zeroValue161
  t51 := Tryz.underlying172
  a51 := Tryz.isAgg172
  z51 := Tryz.sizeOf172
  v51 := Tryz.zeroValue172
  t53 := Tryz.underlying174
  a53 := Tryz.isAgg174
  z53 := Tryz.sizeOf174
  v53 := Tryz.zeroValue174
  t131 := Tryz.underlying169
  a131 := Tryz.isAgg169
  z131 := Tryz.sizeOf169
  v131 := Tryz.zeroValue169
  t182 := Tryz.underlying163
  a182 := Tryz.isAgg163
  z182 := Tryz.sizeOf163
  v182 := Tryz.zeroValue163
  t183 := Tryz.underlying164
  a183 := Tryz.isAgg164
  z183 := Tryz.sizeOf164
  v183 := Tryz.zeroValue164
  t218 := Tryz.underlying175
  a218 := Tryz.isAgg175
  z218 := Tryz.sizeOf175
  v218 := Tryz.zeroValue175
  t222 := Tryz.underlying179
  a222 := Tryz.isAgg179
  z222 := Tryz.sizeOf179
  v222 := Tryz.zeroValue179
  t228 := Tryz.underlying181
  a228 := Tryz.isAgg181
  z228 := Tryz.sizeOf181
  v228 := Tryz.zeroValue181
  t229 := Tryz.underlying182
  a229 := Tryz.isAgg182
  z229 := Tryz.sizeOf182
  v229 := Tryz.zeroValue182 }
open Go.Sort Go.RowKit in
theorem Tryz.slices_Sort_int (blk off cap : Nat) (zs : List Int) (w : World) (hH : Holds (Value.int .i64) w blk off zs.toArray) (hblk : blk < w.heap.size) (hsz : zs.length < 4611686018427387904) :
    Calls Tryz.prog 123 #[.slice (some ⟨blk, off, none⟩) zs.length cap] w fun e w' =>
      e = .returned (.tuple #[]) ∧ ∃ n os, w' = grow (putRow (Value.int .i64) (Sort.ahead w n) blk off (zs.mergeSort fun x y => decide (x ≤ y)).toArray) os := Any.slices_Sort_int Tryz.lays189 blk off cap zs w hH hblk hsz
open Go.RowKit Go.Sort in
/-- .. and plain. (LAID: no walk: one application.) -/
theorem Tryz.slices_Sort_int_none (p : Option Addr) (cap : Nat) (w : World) :
    Calls Tryz.prog 123 #[.slice p 0 cap] w fun e w' => e = .returned (.tuple #[]) ∧ w' = w := Any.slices_Sort_int_none Tryz.lays189 p cap w
end Go.Proofs
end
section
namespace Go.Proofs.YtjobmbjadpldfaaGreat
open Go.ChangeShapes Go.WideShapes Go.ChangeAt Go.RowKit

set_option maxRecDepth 100000
def headChars : List Char := [Char.ofNat 104, Char.ofNat 97, Char.ofNat 114, Char.ofNat 110, Char.ofNat 101, Char.ofNat 115, Char.ofNat 115, Char.ofNat 32, Char.ofNat 49, Char.ofNat 54, Char.ofNat 51, Char.ofNat 51, Char.ofNat 54, Char.ofNat 101, Char.ofNat 50, Char.ofNat 56, Char.ofNat 49, Char.ofNat 56, Char.ofNat 55, Char.ofNat 100, Char.ofNat 48, Char.ofNat 100, Char.ofNat 54, Char.ofNat 98, Char.ofNat 98, Char.ofNat 99, Char.ofNat 51, Char.ofNat 97, Char.ofNat 100, Char.ofNat 54, Char.ofNat 51, Char.ofNat 56, Char.ofNat 52, Char.ofNat 51, Char.ofNat 98, Char.ofNat 101, Char.ofNat 100, Char.ofNat 99, Char.ofNat 53, Char.ofNat 52, Char.ofNat 52, Char.ofNat 57, Char.ofNat 57, Char.ofNat 57, Char.ofNat 51, Char.ofNat 98, Char.ofNat 101, Char.ofNat 101, Char.ofNat 102, Char.ofNat 53, Char.ofNat 100, Char.ofNat 49, Char.ofNat 51, Char.ofNat 100, Char.ofNat 50, Char.ofNat 102, Char.ofNat 51, Char.ofNat 102, Char.ofNat 100, Char.ofNat 48, Char.ofNat 97, Char.ofNat 101, Char.ofNat 99, Char.ofNat 98, Char.ofNat 100, Char.ofNat 53, Char.ofNat 57, Char.ofNat 49, Char.ofNat 51, Char.ofNat 102, Char.ofNat 57, Char.ofNat 99, Char.ofNat 32, Char.ofNat 99, Char.ofNat 117, Char.ofNat 116, Char.ofNat 32, Char.ofNat 97, Char.ofNat 116, Char.ofNat 32, Char.ofNat 108, Char.ofNat 111, Char.ofNat 111, Char.ofNat 112, Char.ofNat 46, Char.ofNat 101, Char.ofNat 120, Char.ofNat 97, Char.ofNat 109, Char.ofNat 112, Char.ofNat 108, Char.ofNat 101, Char.ofNat 47, Char.ofNat 103, Char.ofNat 48, Char.ofNat 48, Char.ofNat 57, Char.ofNat 54, Char.ofNat 53, Char.ofNat 47, Char.ofNat 108, Char.ofNat 97, Char.ofNat 119, Char.ofNat 115, Char.ofNat 46, Char.ofNat 70, Char.ofNat 110, Char.ofNat 69, Char.ofNat 120, Char.ofNat 97, Char.ofNat 99, Char.ofNat 116, Char.ofNat 68, Char.ofNat 101, Char.ofNat 115, Char.ofNat 107, Char.ofNat 79, Char.ofNat 107, Char.ofNat 32, Char.ofNat 108, Char.ofNat 111, Char.ofNat 111, Char.ofNat 112, Char.ofNat 46, Char.ofNat 101, Char.ofNat 120, Char.ofNat 97, Char.ofNat 109, Char.ofNat 112, Char.ofNat 108, Char.ofNat 101, Char.ofNat 47, Char.ofNat 103, Char.ofNat 48, Char.ofNat 48, Char.ofNat 57, Char.ofNat 54, Char.ofNat 53, Char.ofNat 47, Char.ofNat 108, Char.ofNat 97, Char.ofNat 119, Char.ofNat 115, Char.ofNat 46, Char.ofNat 70, Char.ofNat 110, Char.ofNat 69, Char.ofNat 120, Char.ofNat 97, Char.ofNat 99, Char.ofNat 116, Char.ofNat 70, Char.ofNat 111, Char.ofNat 108, Char.ofNat 108, Char.ofNat 111, Char.ofNat 119, Char.ofNat 101, Char.ofNat 114, Char.ofNat 78, Char.ofNat 101, Char.ofNat 119, Char.ofNat 32, Char.ofNat 108, Char.ofNat 111, Char.ofNat 111, Char.ofNat 112, Char.ofNat 46, Char.ofNat 101, Char.ofNat 120, Char.ofNat 97, Char.ofNat 109, Char.ofNat 112, Char.ofNat 108, Char.ofNat 101, Char.ofNat 47, Char.ofNat 103, Char.ofNat 48, Char.ofNat 48, Char.ofNat 57, Char.ofNat 54, Char.ofNat 53, Char.ofNat 47, Char.ofNat 108, Char.ofNat 97, Char.ofNat 119, Char.ofNat 115, Char.ofNat 46, Char.ofNat 70, Char.ofNat 110, Char.ofNat 69, Char.ofNat 120, Char.ofNat 97, Char.ofNat 99, Char.ofNat 116, Char.ofNat 72, Char.ofNat 101, Char.ofNat 97, Char.ofNat 114, Char.ofNat 100]
theorem head_eq : Tryz.prog.initOrder = String.ofList headChars := by
  unfold headChars
  dsimp only [Tryz.prog, Tryz.progTables]
theorem head_toList : Tryz.prog.initOrder.toList = headChars := by rw [head_eq, String.toList_ofList]
def cutW : List Char := [Char.ofNat 99, Char.ofNat 117, Char.ofNat 116]
def headRest : List (List Char) := (behindMainWord (wordsSigns headChars)).tail
theorem head_words : behindMainWord (wordsSigns headChars) = cutW :: headRest := by kernel_rfl
theorem gc_no : (cutW == "gc".toList) = false := by kernel_rfl
theorem spec_no : (cutW == "spec".toList) = false := by kernel_rfl
theorem carried_no : (cutW == "carried".toList) = false := by kernel_rfl
theorem cut_yes : (cutW == "cut".toList) = true := by kernel_rfl
theorem cut_is : cutW = "cut".toList := by kernel_rfl
theorem strip_words : stripLifts liftWords (cutW :: headRest) = ([], cutW :: headRest) := by kernel_rfl
theorem make_of (P : Program) (r : List (List Char)) (h : behindMainWord (wordsSigns P.initOrder.toList) = cutW :: r) : P.make = some .cut := by
  unfold Program.make
  rw [h]
  simp only [gc_no, spec_no, cut_yes, Bool.or_false, Bool.true_or, if_true, Bool.false_eq_true, if_false]
theorem headLifts_of (P : Program) (r : List (List Char)) (h : behindMainWord (wordsSigns P.initOrder.toList) = cutW :: r) (hs : stripLifts liftWords (cutW :: r) = ([], cutW :: r)) : P.headLifts = [] := by
  unfold Program.headLifts
  simp only [h, hs]
  split <;> rfl
theorem liftsFinal_of (P : Program) (r : List (List Char)) (h : behindMainWord (wordsSigns P.initOrder.toList) = cutW :: r) (hs : stripLifts liftWords (cutW :: r) = ([], cutW :: r)) : P.liftsFinal = false := by
  unfold Program.liftsFinal
  have hc : (some cutW == some "carried".toList) = false := carried_no
  simp only [headLifts_of P r h hs, h, List.head?_cons, hc, Bool.false_and, Bool.false_or]
  rfl
theorem mayEnter_of (P : Program) (r : List (List Char)) (h : behindMainWord (wordsSigns P.initOrder.toList) = cutW :: r) (hs : stripLifts liftWords (cutW :: r) = ([], cutW :: r))
    (hl : P.laysLater = false) (hr : P.bearsReflect = false) (hd : P.doorFits [] = true) : P.mayEnter = true := by
  unfold Program.mayEnter
  have hc : (some cutW == some "cut".toList) = true := cut_yes
  simp only [h, hs, gc_no, spec_no, carried_no, hl, hr, hd, hc, List.head?_cons, Bool.or_false, Bool.false_or, Bool.false_and, Bool.not_false, Bool.or_true, Bool.and_true]
  rfl
theorem prog_words : behindMainWord (wordsSigns Tryz.prog.initOrder.toList) = cutW :: headRest := by rw [head_toList, head_words]
theorem laysLater_prog : Tryz.prog.laysLater = false := by kernel_rfl
theorem bearsReflect_prog : Tryz.prog.bearsReflect = false := by kernel_rfl
theorem doorFits_prog : Tryz.prog.doorFits [] = true := by kernel_rfl
theorem mayEnter_prog : Tryz.prog.mayEnter = true := mayEnter_of _ _ prog_words strip_words laysLater_prog bearsReflect_prog doorFits_prog
theorem liftsFinal_prog : Tryz.prog.liftsFinal = false := liftsFinal_of _ _ prog_words strip_words
theorem make_prog : Tryz.prog.make = some .cut := make_of _ _ prog_words
theorem laidOut_prog : laidOutB Tryz.prog = true := by kernel_rfl
theorem mapsRowed_prog : mapsRowed Tryz.prog = true := by kernel_rfl
theorem stopsHeard_prog : Tryz.prog.stopsHeard = true := by kernel_rfl
theorem plainKeys_prog : Tryz.prog.plainKeys = true := by kernel_rfl
theorem own_prog : ownKnob Tryz.prog.godebug = none := by kernel_rfl

/-- the row's closed facts, one by one -/
theorem facts_of {f : FuncId} {fn : Func} {s : ChangeSpec} {c : OpenClaim}
    (k1 : c.wf (OpenSpec.ofChange s) = true) (k4 : fn.params.all (Tryz.prog.readableRec ·) = true) (k5 : namedTie Tryz.prog c.named s.vars = true)
    (kp : ((c.stops == []) && (Tryz.prog.stops == []) && (c.knobs == []) && (Tryz.prog.stopKnobs == [])) = true)
    (k10 : (c.inPlace == Tryz.prog.inPlace f) = true) (k11 : (c.unfollowed == Tryz.prog.unfollowed f) = true) (k12 : (c.recurses == Tryz.prog.recurses f) = true) (k13 : (c.named == Tryz.prog.varsNamed f) = true)
    (k14 : ((c.maps == (fn.params.toList ++ s.plain.varTypes Tryz.prog).any (Tryz.prog.mapsRec ·)) && (c.ifaces == (fn.params.toList ++ s.plain.varTypes Tryz.prog).any (Tryz.prog.ifacesRec ·)) && (c.mapsOut == Tryz.prog.mapsAmong fn.resultTypes.toList) &&
      (c.loops == (fn.params.toList ++ s.plain.varTypes Tryz.prog).any (Tryz.prog.loopsFrom ·)) && (c.wideKeys == (fn.params.toList ++ s.plain.varTypes Tryz.prog ++ fn.resultTypes.toList).any (Tryz.prog.wideKeysFrom ·)) &&
      s.vars.all (Tryz.prog.varReadable ·) && fn.resultTypes.all (fun t => Tryz.prog.readableRec t && decide (t < Tryz.prog.types.size)) && (c.ifacesOut == fn.resultTypes.toList.any (Tryz.prog.ifacesRec ·)) && (c.loopsOut == fn.resultTypes.toList.any (Tryz.prog.loopsFrom ·)) && (c.plainKeys == true) && c.shortTexts.isNone) = true)
    (k26 : c.lifted = false) (k27 : c.make = .cut) (k28 : (c.kinds == (if c.domain.isEmpty then [] else fn.params.toList.map fun t => match Tryz.prog.underlying t with | some (.int k) => some k | _ => none)) = true) (k29 : (c.pinned == c.pinnedBy) = true)
    (k30 : ((c.veiled == (fn.params.toList ++ s.plain.varTypes Tryz.prog ++ fn.resultTypes.toList).any (Tryz.prog.veiledRec ·)) && c.veiledFits Tryz.prog fn.params.toList (fn.params.toList ++ s.plain.varTypes Tryz.prog ++ fn.resultTypes.toList)) = true) :
    joinedFacts Tryz.prog f fn s c = true := by
  simp only [Bool.and_eq_true] at kp k14 k30
  obtain ⟨⟨⟨p1, p2⟩, p3⟩, p4⟩ := kp
  obtain ⟨⟨⟨⟨⟨⟨⟨⟨⟨⟨q1, q2⟩, q3⟩, q4⟩, q5⟩, q6⟩, q7⟩, q8⟩, q9⟩, q10⟩, q11⟩ := k14
  unfold joinedFacts
  simp only [Bool.and_eq_true]
  rw [make_prog, liftsFinal_prog, plainKeys_prog, k26, k27]
  exact ⟨⟨⟨⟨⟨⟨⟨⟨⟨⟨⟨⟨⟨⟨⟨⟨⟨⟨⟨⟨⟨⟨⟨⟨⟨⟨⟨⟨⟨⟨⟨k1, laidOut_prog⟩, mapsRowed_prog⟩, k4⟩, k5⟩, p1⟩, p2⟩, p3⟩, p4⟩, k10⟩, k11⟩, k12⟩, k13⟩, q1⟩, q2⟩, q3⟩, q4⟩, q5⟩, q6⟩, q7⟩, q8⟩, q9⟩, q10⟩, q11⟩, stopsHeard_prog⟩, mayEnter_prog⟩, rfl⟩, rfl⟩, k28⟩, k29⟩, k30.1⟩, k30.2⟩
end Go.Proofs.YtjobmbjadpldfaaGreat
end
section
namespace Go.Proofs.YtjobmbjadpldfaaGreat
open Go.RowKit
set_option maxRecDepth 100000
set_option maxHeartbeats 400000

structure Edge where
  fr : Int
  to : Int
deriving DecidableEq, Inhabited

def edgeE : Enc Edge := { cells := fun s => [.int .i64 s.fr, .int .i64 s.to], sz := 2, len := fun _ => rfl, one := fun _ u hu => by simp at hu; rcases hu with rfl | rfl <;> rfl }
@[go_sem] def edgeV (s : Edge) : Value := .agg #[.int .i64 s.fr, .int .i64 s.to]

theorem toEdge_any (s : Edge) (w : World) :
    Calls Tryz.prog 121 #[edgeV s] w fun e w' => e = .returned (edgeV s) ∧ Below w.heap.size w w' := by
  unfold edgeV
  go_enter Tryz.func121, Tryz.ntmps121
  go_wp2
  refine bodyPost_ret (v := edgeV s) (by simp [edgeV, results, Tryz.results121, go_sem]) rfl ⟨rfl, ?_⟩
  repeat (first | exact Below.refl _ _ | refine Below.alloc ?_ (by simp <;> omega) _)

theorem eqEdge_any (s t : Edge) (w : World) :
    Calls Tryz.prog 122 #[edgeV s, edgeV t] w fun e w' => e = .returned (.bool (decide (s = t))) ∧ Below w.heap.size w w' := by
  unfold edgeV
  obtain ⟨a0, a1⟩ := s
  obtain ⟨b0, b1⟩ := t
  go_enter Tryz.func122, Tryz.ntmps122
  go_wp2
  all_goals (go_ret; refine ⟨ret_bool ?_, by repeat (first | exact Below.refl _ _ | refine Below.alloc ?_ (by simp <;> omega) _)⟩; simp_all)

theorem Rd.edge {w : World} {B : Nat} {A : Option Addr} {n c : Nat} {l : List Edge} (h : Rd edgeE w B (.slice A n c) l) {k : Nat} (hk : k < l.length) :
    ∃ b o, A = some ⟨b, o, none⟩ ∧ b < B ∧ w.cell? ⟨b, o + k * 2, none⟩ = some (.int .i64 l[k].fr) ∧ w.cell? ⟨b, o + k * 2 + 1, none⟩ = some (.int .i64 l[k].to) := by
  obtain ⟨A', c', hv, _, hA⟩ := h
  obtain ⟨b, o, hA', hb, hc⟩ := hA (by omega)
  simp only [Value.slice.injEq] at hv
  obtain ⟨rfl, _, _⟩ := hv
  exact ⟨b, o, hA', hb, hc k hk 0 _ rfl, hc k hk 1 _ rfl⟩

theorem Ow.edge {E : TypeId} {w : World} {base g n cap : Nat} {l : List Edge} (h : Ow edgeE E w base (.slice (some ⟨g, 0, none⟩) n cap) l) {k : Nat} (hk : k < l.length) :
    w.cell? ⟨g, k * 2, none⟩ = some (.int .i64 l[k].fr) ∧ w.cell? ⟨g, k * 2 + 1, none⟩ = some (.int .i64 l[k].to) := by
  rcases h.form with ⟨h1, _⟩ | ⟨g', cap', hv, _, _, _, _, _, hc⟩
  · simp at h1
  · simp only [Value.slice.injEq, Option.some.injEq, Addr.mk.injEq, and_true] at hv
    obtain ⟨rfl, _, _⟩ := hv
    exact ⟨hc k hk 0 _ rfl, hc k hk 1 _ rfl⟩

theorem eqEdgeS_any (v v' : Value) (l l' : List Edge) (w : World) (hl : l.length ≤ 2000000) (hl' : l'.length ≤ 2000000) (h : Rd edgeE w w.heap.size v l) (h' : Rd edgeE w w.heap.size v' l') :
    Calls Tryz.prog 117 #[v, v'] w fun e w' => e = .returned (.bool (decide (l = l'))) ∧ Below w.heap.size w w' := by
  obtain ⟨A, c, rfl, -⟩ := id h
  obtain ⟨A', c', rfl, -⟩ := id h'
  by_cases hne : l.length = l'.length
  · have hb0 : ((l.length : Int) != (l'.length : Int)) = false := by simp [hne]
    have Hne := Lib.hid hne
    clear hne
    go_enter Tryz.func117, Tryz.ntmps117
    go_wp2
    go_loopw [5] (fun i wr => ∃ k : Nat, k ≤ l.length ∧ i = .int .i64 k ∧ Hid (l.take k = l'.take k) ∧ Below w.heap.size w wr) (fun i _ => l.length - (intOf i).toNat)
    case atStart => exact ⟨0, Nat.zero_le _, rfl, rfl, Below.refl _ _⟩
    case round =>
      obtain ⟨k, hk, rfl, heq, hb⟩ := hrel
      by_cases hlt : k < l.length
      · have hlt' : k < l'.length := by rw [← Hne.out]; exact hlt
        obtain ⟨b, o, rfl, hbb, c0, c1⟩ := (h.below hb).edge hlt
        obtain ⟨b', o', rfl, hbb', d0, d1⟩ := (h'.below hb).edge hlt'
        go_wp2
        go_still_tail 8, (by kernel_rfl)
        go_wp2_with (go_at_call 122; refine (eqEdge_any l[k] l'[k] _).mono ?_; rintro e w1 ⟨rfl, hb1⟩)
        · rename_i hd
          go_ret
          refine ⟨ret_bool ?_, (hb.drew).trans (hb1.mono hb.size)⟩
          simp only [Bool.false_eq, decide_eq_false_iff_not]
          intro e
          subst e
          simp at hd
        · rename_i hd
          refine ⟨⟨k + 1, by omega, by go_num, ?_, (hb.drew).trans (hb1.mono hb.size)⟩, by simp [intOf]; omega⟩
          show List.take (k + 1) l = List.take (k + 1) l'
          rw [take_snoc l k hlt, take_snoc l' k hlt', heq.out]
          simp at hd
          rw [hd]
      · go_wp2
        go_ret
        refine ⟨ret_bool ?_, hb⟩
        have h1 := heq.out
        rw [List.take_of_length_le (by omega), List.take_of_length_le (by rw [← Hne.out]; omega)] at h1
        simp [h1]
  · have hb0 : ((l.length : Int) != (l'.length : Int)) = true := by simp; omega
    go_enter Tryz.func117, Tryz.ntmps117
    go_wp2
    go_ret
    refine ⟨ret_bool ?_, Below.refl _ _⟩
    simp only [Bool.false_eq, decide_eq_false_iff_not]
    intro e
    exact hne (by rw [e])

theorem edge_info : (Tryz.prog.info? 140).map (fun i => (i.zero, i.size, i.bytes)) = some (some (edgeV ⟨0, 0⟩), 2, 16) := by kernel_rfl

theorem toEdgeS_any (v : Value) (l : List Edge) (w : World) (hl : l.length ≤ 2000000) (h : Rd edgeE w w.heap.size v l) :
    Calls Tryz.prog 115 #[v] w fun e w' => ∃ v', e = .returned v' ∧ Ow edgeE 140 w' w.heap.size v' l ∧ Below w.heap.size w w' := by
  obtain ⟨A, c, rfl, -⟩ := id h
  obtain ⟨i0, hi0, hz0, hz1, hz2⟩ := info_parts edge_info
  have hmk : ∀ w : World, (Instr.makeSlice 79 (.int .i64 (l.length : Int)) (.int .i64 (l.length : Int))).run Tryz.prog w = .ok (.slice (some ⟨w.heap.size, 0, none⟩) l.length l.length) (w.alloc (.cells (madeCells #[.int .i64 0, .int .i64 0] (l.length * 2)) 140)) := by
    intro w
    have := run_make (P := Tryz.prog) w 79 140 i0 _ Tryz.underlying79 hi0 hz0 .i64 .i64 l.length l.length (by omega) (by omega) (by rw [hz2]; omega) (by omega)
    rw [hz1] at this
    simpa [edgeV, Value.cells] using this
  go_enter Tryz.func115, Tryz.ntmps115
  go_wp2
  go_loopw [4] (fun i wr => ∃ k : Nat, k ≤ l.length ∧ i = .int .i64 k ∧ Ow edgeE 140 wr w.heap.size (.slice (some ⟨w.heap.size, 0, none⟩) l.length l.length) (l.take k ++ List.replicate (l.length - k) ⟨0, 0⟩) ∧ Below w.heap.size w wr) (fun i _ => l.length - (intOf i).toNat)
  case atStart => exact ⟨0, Nat.zero_le _, rfl, by rw [List.take_zero, List.nil_append, Nat.sub_zero]; exact Ow.made edgeE 140 w ⟨0, 0⟩ l.length (by decide) (by simp [maxLen]; omega) rfl rfl, (Below.refl _ _).alloc (Nat.le_refl _) _⟩
  case round =>
    obtain ⟨k, hk, rfl, hown, hb⟩ := hrel
    by_cases hlt : k < l.length
    · obtain ⟨b, o, rfl, hbb, c0, c1⟩ := (h.below hb).edge hlt
      have hlen : (l.take k ++ List.replicate (l.length - k) (⟨0, 0⟩ : Edge)).length = l.length := by simp; omega
      go_wp2_with (go_at_call 121; refine (toEdge_any l[k] _).mono ?_; rintro e w1 ⟨rfl, hb1⟩; have hown1 := hown.below hb1; have hf := hown1.free; obtain ⟨d0, d1⟩ := hown1.edge (k := k) (by rw [hlen]; exact hlt))
      have hp := Ow.put hown1 hlen k hlt l[k]
      rw [mix_set l _ k hlt] at hp
      exact ⟨⟨k + 1, by omega, by go_num, hp.1, (hb.trans (hb1.mono hb.size)).grown hp.2 (Nat.le_trans hb.size hb1.size) (fun g hg => by simp at hg; omega)⟩, by simp [intOf]; omega⟩
    · go_wp2
      go_ret
      refine ⟨_, rfl, ?_, hb⟩
      rwa [List.take_of_length_le (by omega), show l.length - k = 0 from by omega, List.replicate_zero, List.append_nil] at hown

theorem szEdgeS_any (v : Value) (l : List Edge) (left : Int) (w : World) (h0 : 0 ≤ left) (h1 : left ≤ 2000000) (hl : l.length ≤ 9223372036854775807) (hv : Rd edgeE w w.heap.size v l) :
    Calls Tryz.prog 114 #[v, .int .i64 left] w (SzPost left l.length w) := by
  obtain ⟨A, c, rfl, -⟩ := hv
  generalize l.length = n at *
  by_cases h : left < n
  · go_enter Tryz.func114, Tryz.ntmps114
    go_wp2
    go_ret
    exact ⟨-1, rfl, .inl rfl, Below.refl _ _⟩
  · go_enter Tryz.func114, Tryz.ntmps114
    go_wp2
    go_ret
    exact ⟨_, rfl, .inr ⟨by omega, by omega⟩, Below.refl _ _⟩

end Go.Proofs.YtjobmbjadpldfaaGreat
end
section
namespace Go.Proofs.YtjobmbjadpldfaaGreat
open Go.ChangeShapes Go.WideShapes Go.ChangeAt Go.RowKit Go.Deep
set_option maxRecDepth 100000

section
variable {H : Type} {enc : TypeId × Value → H} {P : Program} {w : World} {spare : Nat → Bool} {held : Bool}

theorem read_slice {α : Type} [Inhabited α] (E : Enc α) (ok : α → Prop) {t e : TypeId} {fuel : Nat} {cs : List Value} {x : DataW H × List MemPlace} (ht : P.underlying t = some (.slice e)) (hsz : P.cellsOf e = E.sz) (hpos : 0 < E.sz)
    (hel : ∀ n cs' y, DataW.trod enc P w 0 spare held n e cs' = some y → ∃ z : α, cs' = E.cells z ∧ ok z)
    (h : DataW.trod enc P w 0 spare held fuel t cs = some x) : ∃ (v : Value) (l : List α), cs = [v] ∧ Rd E w w.heap.size v l ∧ (∀ z ∈ l, ok z) ∧ l.length ≤ maxLen := by
  rcases open_slice ht h with ⟨rfl, _⟩ | ⟨a, len, cap, m, n, D, Pl, rfl, _, hl, hm, hmm, _, hi⟩
  · exact ⟨_, [], rfl, ⟨none, 0, rfl, by simp, fun h => absurd h (by simp)⟩, by simp, by simp⟩
  · have hlm : len ≤ m := by rw [hmm]; split <;> omega
    have hsp0 : 0 < len → a.spot = none ∧ a.block < w.heap.size := by
      intro h0l
      obtain ⟨cs', hc, ht'⟩ := hi 0 (by omega)
      obtain ⟨z, rfl, hz⟩ := hel _ _ _ ht'
      rw [hsz] at hc
      obtain ⟨_, hlen, hat⟩ := World.cells?_some hc
      have h0 := hat 0 hpos
      have e0 : (a.add (0 * E.sz)).add 0 = a := by simp [Addr.add]
      rw [e0, List.getElem?_eq_getElem (by rw [E.len]; exact hpos)] at h0
      refine ⟨World.cell?_spot h0, ?_⟩
      rcases Nat.lt_or_ge a.block w.heap.size with hlt | hge
      · exact hlt
      · unfold World.cell? at h0
        rw [Array.getElem?_eq_none hge] at h0
        simp at h0
    have each : ∀ i, i < len → ∃ z : α, ok z ∧ ∀ j u, (E.cells z)[j]? = some u → w.cell? ⟨a.block, a.off + i * E.sz + j, none⟩ = some u := by
      intro i hil
      have hsp := (hsp0 (by omega)).1
      obtain ⟨cs', hc, ht'⟩ := hi i (by omega)
      obtain ⟨z, rfl, hz⟩ := hel _ _ _ ht'
      rw [hsz] at hc
      obtain ⟨_, hlen, hat⟩ := World.cells?_some hc
      have hadd : ∀ j, ((a.add (i * E.sz)).add j) = ⟨a.block, a.off + i * E.sz + j, none⟩ := by
        intro j
        obtain ⟨ab, ao, sp⟩ := a
        simp only at hsp
        subst hsp
        unfold Addr.add
        by_cases h1 : i * E.sz = 0 <;> by_cases h2 : j = 0 <;> simp [h1, h2]
      refine ⟨z, hz, fun j u hu => ?_⟩
      have hj : j < E.sz := by
        have := (List.getElem?_eq_some_iff.1 hu).1
        rw [E.len] at this
        exact this
      rw [← hadd, hat j hj]
      exact hu
    obtain ⟨f, hf⟩ := choose_lt each
    refine ⟨_, (List.range len).map f, rfl, ⟨some a, cap, by simp, by simpa using hl, fun hp => ?_⟩, ?_, by simp; omega⟩
    · simp only [List.length_map, List.length_range] at hp
      obtain ⟨hsp, hb⟩ := hsp0 hp
      refine ⟨a.block, a.off, by rw [← hsp], hb, fun k hk j u hu => ?_⟩
      simp only [List.length_map, List.length_range] at hk
      simp only [List.getElem_map, List.getElem_range] at hu
      exact (hf k hk).2 j u hu
    · intro z hz
      simp only [List.mem_map, List.mem_range] at hz
      obtain ⟨i, hi', rfl⟩ := hz
      exact (hf i hi').1

/-- an int64 -/
def Wf (x : Int) : Prop := -9223372036854775808 ≤ x ∧ x ≤ 9223372036854775807
theorem wf_of {x : Int} (h : (Lit.int .i64 x).wf = true) : Wf x := by
  simp [Lit.wf, IntKind.min, IntKind.max, IntKind.signed, IntKind.bits] at h
  exact ⟨by omega, by omega⟩
end
end Go.Proofs.YtjobmbjadpldfaaGreat
end
section
namespace Go.Proofs.YtjobmbjadpldfaaGreat
open Go.RowKit
set_option maxRecDepth 100000
set_option maxHeartbeats 400000

structure Fence where
  run : Int
  task : Int
  try_ : Int
  text : ByteArray
deriving DecidableEq, Inhabited

def fenceE : Enc Fence := { cells := fun s => [.int .i64 s.run, .int .i64 s.task, .int .i64 s.try_, .string s.text], sz := 4, len := fun _ => rfl, one := fun _ u hu => by simp at hu; rcases hu with rfl | rfl | rfl | rfl <;> rfl }
@[go_sem] def fenceV (s : Fence) : Value := .agg #[.int .i64 s.run, .int .i64 s.task, .int .i64 s.try_, .string s.text]

theorem Rd.fence {w : World} {B : Nat} {A : Option Addr} {n c : Nat} {l : List Fence} (h : Rd fenceE w B (.slice A n c) l) {k : Nat} (hk : k < l.length) :
    ∃ b o, A = some ⟨b, o, none⟩ ∧ b < B ∧ w.cell? ⟨b, o + k * 4, none⟩ = some (.int .i64 l[k].run) ∧ w.cell? ⟨b, o + k * 4 + 1, none⟩ = some (.int .i64 l[k].task) ∧ w.cell? ⟨b, o + k * 4 + 2, none⟩ = some (.int .i64 l[k].try_) ∧ w.cell? ⟨b, o + k * 4 + 3, none⟩ = some (.string l[k].text) := by
  obtain ⟨A', c', hv, _, hA⟩ := h
  obtain ⟨b, o, hA', hb, hc⟩ := hA (by omega)
  simp only [Value.slice.injEq] at hv
  obtain ⟨rfl, _, _⟩ := hv
  exact ⟨b, o, hA', hb, hc k hk 0 _ rfl, hc k hk 1 _ rfl, hc k hk 2 _ rfl, hc k hk 3 _ rfl⟩

theorem Ow.fence {E : TypeId} {w : World} {base g n cap : Nat} {l : List Fence} (h : Ow fenceE E w base (.slice (some ⟨g, 0, none⟩) n cap) l) {k : Nat} (hk : k < l.length) :
    w.cell? ⟨g, k * 4, none⟩ = some (.int .i64 l[k].run) ∧ w.cell? ⟨g, k * 4 + 1, none⟩ = some (.int .i64 l[k].task) ∧ w.cell? ⟨g, k * 4 + 2, none⟩ = some (.int .i64 l[k].try_) ∧ w.cell? ⟨g, k * 4 + 3, none⟩ = some (.string l[k].text) := by
  rcases h.form with ⟨h1, _⟩ | ⟨g', cap', hv, _, _, _, _, _, hc⟩
  · simp at h1
  · simp only [Value.slice.injEq, Option.some.injEq, Addr.mk.injEq, and_true] at hv
    obtain ⟨rfl, _, _⟩ := hv
    exact ⟨hc k hk 0 _ rfl, hc k hk 1 _ rfl, hc k hk 2 _ rfl, hc k hk 3 _ rfl⟩

end Go.Proofs.YtjobmbjadpldfaaGreat
end
section
namespace Go.Proofs.YtjobmbjadpldfaaGreat
open Go.RowKit

section
variable {P : Program} {ops : Array Oper} {Q : Exit → Act → World → Prop} {md : Region.Mode} {S : World → Prop} {last : Nat}

/-- whatever order is picked, and S holds behind every operation but the last -/
def wpAnyL (P : Program) (md : Region.Mode) (ops : Array Oper) (Q : Exit → Act → World → Prop) (S : World → Prop) (last : Nat) : Nat → Array Bool → Act → World → Prop
  | 0, listed, a, w => Region.ready md ops listed = [] ∧ Q .normal a w
  | fuel + 1, listed, a, w =>
    (Region.ready md ops listed = [] → Q .normal a w) ∧
    ∀ i ∈ Region.ready md ops listed, wpOp P ops Q i (fun a' w' => (i ≠ last → S w') ∧ wpAnyL P md ops Q S last fuel (listed.setIfInBounds i true) a' w') a w

theorem wpAny_of_L : ∀ (fuel : Nat) (listed : Array Bool) (a : Act) (w : World), wpAnyL P md ops Q S last fuel listed a w → wpAny P md ops Q fuel listed a w
  | 0, _, _, _, h => h
  | fuel + 1, _, _, _, h => ⟨h.1, fun i hi => wpOp_mono (fun a' w' h' => wpAny_of_L fuel _ a' w' h'.2) (h.2 i hi)⟩

/-- the last operation waits for operation i by an edge of its own -/
def lastWaits (md : Region.Mode) (ops : Array Oper) (last i : Nat) : Bool :=
  match ops[last]? with
  | some o => o.after.any fun e => Region.binds md e && e.on == i
  | none => true

theorem wpAnyL_first {i : Nat} {oi : Oper} {v : Value} (hi : ops[i]? = some oi) (hsel : ∀ (j : Nat) (o : Oper) cs b, ops[j]? = some o → o.op ≠ .select cs b)
    (hQ : ∀ c a w, Q (.panic c) (a.put oi.dst v) w → Q (.panic c) a w) (hl : lastWaits md ops last i = true) :
    ∀ (fuel : Nat) (listed : Array Bool) (a : Act) (w : World),
      (∀ j oj, ops[j]? = some oj → j ≠ i → listed.getD j true = false → (∀ e ∈ oj.after, Region.binds md e = true → e.on ≠ i) → oi.apart ops oj = true) →
      i ∈ Region.ready md ops listed → YieldsIf P ops S oi v a → S w →
      wpAnyL P md ops Q S last fuel (listed.setIfInBounds i true) (a.put oi.dst v) w → wpAnyL P md ops Q S last (fuel + 1) listed a w := by
  intro fuel
  induction fuel with
  | zero =>
    intro listed a w _ hr hy hS H
    refine ⟨fun h => (by rw [h] at hr; cases hr), fun j hj => ?_⟩
    by_cases hji : j = i
    · subst hji; exact hy.wpOp hi hS ⟨fun _ => hS, H⟩
    · have := ready_mono hj hji
      rw [H.1] at this
      cases this
  | succ fuel ih =>
    intro listed a w hfree hr hy hS H
    refine ⟨fun h => (by rw [h] at hr; cases hr), fun j hj => ?_⟩
    by_cases hji : j = i
    · subst hji; exact hy.wpOp hi hS ⟨fun _ => hS, H⟩
    · have h1 := H.2 j (ready_mono hj hji)
      obtain ⟨hjun, oj, hoj, hall⟩ := mem_ready.1 hj
      have hnot : ∀ e ∈ oj.after, Region.binds md e = true → e.on ≠ i := fun e he hb heq => by
        have h1 := hall e he hb
        have h0 := (mem_ready.1 hr).1
        rw [heq] at h1
        rcases Nat.lt_or_ge i listed.size with h' | h'
        · simp [h'] at h0 h1; rw [h0] at h1; cases h1
        · simp [Array.getElem?_eq_none h'] at h1
      have hjl : j ≠ last := by
        intro e
        subst e
        unfold lastWaits at hl
        rw [hoj] at hl
        simp only [Array.any_eq_true] at hl
        obtain ⟨k, hk, hb⟩ := hl
        simp only [Bool.and_eq_true, beq_iff_eq] at hb
        exact hnot _ (Array.getElem_mem hk) hb.1 hb.2
      have h2 := wpOp_putIf hoj (hfree j oj hoj hji hjun hnot) (fun cs b => hsel i oi cs b hi) (fun cs b => hsel j oj cs b hoj) hQ hy h1
      have hfree' : ∀ k ok, ops[k]? = some ok → k ≠ i → (listed.setIfInBounds j true).getD k true = false →
          (∀ e ∈ ok.after, Region.binds md e = true → e.on ≠ i) → oi.apart ops ok = true := fun k ok hk hki hun hno => by
        refine hfree k ok hk hki ?_ hno
        by_cases hjk : j = k
        · subst hjk; exact hjun
        · rw [getD_set_ne true hjk] at hun; exact hun
      refine wpOp_mono (fun a' w' h3 => ⟨h3.2.1, ih (listed.setIfInBounds j true) a' w' hfree' (ready_mono hr (Ne.symm hji)) h3.1 (h3.2.1 hjl) ?_⟩) h2
      rw [Array.setIfInBounds_comm _ _ hji]
      exact h3.2.2

theorem wpAnyL_take {i : Nat} {oi : Oper} {v : Value} {fuel : Nat} {listed : Array Bool} {a : Act} {w : World} (hi : ops[i]? = some oi)
    (hs : Region.noSelect ops = true) (hl : lastWaits md ops last i = true) (hf : Region.free md ops listed i = true) (hr : (Region.ready md ops listed).contains i = true)
    (hQ : ∀ c a w, Q (.panic c) (a.put oi.dst v) w → Q (.panic c) a w) (hS : S w) (hy : YieldsIf P ops S oi v a)
    (h : wpAnyL P md ops Q S last fuel (listed.setIfInBounds i true) (a.put oi.dst v) w) : wpAnyL P md ops Q S last (fuel + 1) listed a w :=
  wpAnyL_first hi (Region.noSelect_spec hs) hQ hl fuel listed a w (Region.free_spec hi hf) (by simpa using hr) hy hS h

/-- one operation alone may come up -/
theorem wpAnyL_one {i : Nat} {o : Oper} {fuel : Nat} {listed : Array Bool} {a : Act} {w : World} (ho : ops[i]? = some o) (hr : Region.ready md ops listed = [i])
    (h : ∀ K' : Act → World → Prop, Hid (∀ a w, (i ≠ last → S w) → wpAnyL P md ops Q S last fuel (listed.setIfInBounds i true) a w → K' a w) →
      if Region.wanted o (yielded ops a.tmps) = true then Oper.wp P o a w K' Q else K' (a.put o.dst undef) w) : wpAnyL P md ops Q S last (fuel + 1) listed a w := by
  refine ⟨fun h0 => (by rw [hr] at h0; cases h0), fun j hj => ?_⟩
  rw [hr, List.mem_singleton] at hj
  subst hj
  exact wpOp_step ho (fun K' hK => h K' (fun a w hS hW => hK a w ⟨hS, hW⟩))

theorem wpAnyL_done {listed : Array Bool} {a : Act} {w : World} (hr : Region.ready md ops listed = []) (h : Q .normal a w) : ∀ fuel, wpAnyL P md ops Q S last fuel listed a w
  | 0 => ⟨hr, h⟩
  | _ + 1 => ⟨fun _ => h, by rw [hr]; intro i hi; cases hi⟩

theorem wp_region_last {id : Nat} {a : Act} {w : World} (S : World → Prop) (last : Nat) (hm : P.follows .mixedOrders = true) (hS : S w.drew)
    (h : S w.drew → wpAnyL P .any ops Q S last ops.size (Array.replicate ops.size false) a w.drew) : (Code.region id ops true).wp P Q a w :=
  wp_region_any hm (wpAny_of_L _ _ _ _ (h hS))
end
end Go.Proofs.YtjobmbjadpldfaaGreat
end
section
namespace Go.Proofs.YtjobmbjadpldfaaGreat
open Go.RowKit
set_option maxRecDepth 100000

structure Plan where
  prio : Int
  most : Int
  wait : Int
  tasks : Int
  edges : List Edge
deriving DecidableEq, Inhabited

@[go_sem] abbrev planV (p : Plan) (ve : Value) : Value := .agg #[.int .i64 p.prio, .int .i64 p.most, .int .i64 p.wait, .int .i64 p.tasks, ve]

def natE : Enc Nat := { cells := fun x => [.int .i64 (x : Int)], sz := 1, len := fun _ => rfl, one := fun _ u hu => by simp at hu; subst hu; rfl }
def boolE : Enc Bool := { cells := fun x => [.bool x], sz := 1, len := fun _ => rfl, one := fun _ u hu => by simp at hu; subst hu; rfl }

def inB (n lo hi : Int) : Bool := decide (lo ≤ n) && decide (n ≤ hi)
theorem inB_iff {n lo hi : Int} : inB n lo hi = true ↔ lo ≤ n ∧ n ≤ hi := by simp [inB]

def manyOk (p : Plan) : Bool := inB p.tasks 1 12 && decide (p.edges.length ≤ 30) && inB p.prio 0 9 && inB p.most 1 5 && inB p.wait 1 20
def edgeIn (T : Int) (e : Edge) : Bool := inB e.fr 0 (T - 1) && inB e.to 0 (T - 1)
def esL (l : List Edge) : List (Nat × Nat) := l.map fun e => (e.fr.toNat, e.to.toNat)
def esOf (p : Plan) : List (Nat × Nat) := esL p.edges
def edgesIn (p : Plan) : Prop := ∀ e ∈ p.edges, edgeIn p.tasks e = true
def cyclic (p : Plan) : Prop := ∃ t, t < p.tasks.toNat ∧ Pg.Reach (esOf p) t t
open Classical in
noncomputable def planFault (p : Plan) : Int :=
  if manyOk p = false then 1 else if ¬ edgesIn p then 2 else if ¬ p.edges.Nodup then 3 else if cyclic p then 4 else 0

theorem planFault_zero {p : Plan} : planFault p = 0 ↔ manyOk p = true ∧ edgesIn p ∧ p.edges.Nodup ∧ ¬ cyclic p := by
  unfold planFault
  cases h1 : manyOk p
  · simp
  · by_cases h2 : edgesIn p <;> by_cases h3 : p.edges.Nodup <;> by_cases h4 : cyclic p <;> simp [h2, h3, h4]

theorem manyOk_tasks {p : Plan} (h : manyOk p = true) : 1 ≤ p.tasks ∧ p.tasks ≤ 12 := by
  simp only [manyOk, Bool.and_eq_true] at h
  exact inB_iff.1 h.1.1.1.1
theorem manyOk_edges {p : Plan} (h : manyOk p = true) : p.edges.length ≤ 30 := by
  simp only [manyOk, Bool.and_eq_true, decide_eq_true_eq] at h
  exact h.1.1.1.2
theorem edgesIn_get {p : Plan} (h : edgesIn p) {k : Nat} (hk : k < p.edges.length) : 0 ≤ p.edges[k].fr ∧ p.edges[k].fr < p.tasks ∧ 0 ≤ p.edges[k].to ∧ p.edges[k].to < p.tasks := by
  have := h _ (List.getElem_mem hk)
  simp only [edgeIn, Bool.and_eq_true, inB_iff] at this
  omega
theorem esL_length (l : List Edge) : (esL l).length = l.length := by simp [esL]
theorem esOf_lt {p : Plan} (h : edgesIn p) : (∀ e ∈ esOf p, e.1 < p.tasks.toNat) ∧ (∀ e ∈ esOf p, e.2 < p.tasks.toNat) := by
  have : ∀ e ∈ esOf p, e.1 < p.tasks.toNat ∧ e.2 < p.tasks.toNat := by
    intro e he
    simp only [esOf, esL, List.mem_map] at he
    obtain ⟨x, hx, rfl⟩ := he
    have := h x hx
    simp only [edgeIn, Bool.and_eq_true, inB_iff] at this
    simp only
    omega
  exact ⟨fun e he => (this e he).1, fun e he => (this e he).2⟩

theorem Rd.nat {w : World} {B : Nat} {A : Option Addr} {n c : Nat} {l : List Nat} (h : Rd natE w B (.slice A n c) l) {k : Nat} (hk : k < l.length) :
    ∃ b o, A = some ⟨b, o, none⟩ ∧ b < B ∧ w.cell? ⟨b, o + k, none⟩ = some (.int .i64 (l[k] : Int)) := by
  obtain ⟨A', c', hv, _, hA⟩ := h
  obtain ⟨b, o, hA', hb, hc⟩ := hA (by omega)
  simp only [Value.slice.injEq] at hv
  obtain ⟨rfl, _, _⟩ := hv
  exact ⟨b, o, hA', hb, by simpa [natE] using hc k hk 0 _ rfl⟩
theorem Rd.int {w : World} {B : Nat} {A : Option Addr} {n c : Nat} {l : List Int} (h : Rd intE w B (.slice A n c) l) {k : Nat} (hk : k < l.length) :
    ∃ b o, A = some ⟨b, o, none⟩ ∧ b < B ∧ w.cell? ⟨b, o + k, none⟩ = some (.int .i64 l[k]) := by
  obtain ⟨A', c', hv, _, hA⟩ := h
  obtain ⟨b, o, hA', hb, hc⟩ := hA (by omega)
  simp only [Value.slice.injEq] at hv
  obtain ⟨rfl, _, _⟩ := hv
  exact ⟨b, o, hA', hb, by simpa [intE] using hc k hk 0 _ rfl⟩
theorem Rd.bool {w : World} {B : Nat} {A : Option Addr} {n c : Nat} {l : List Bool} (h : Rd boolE w B (.slice A n c) l) {k : Nat} (hk : k < l.length) :
    ∃ b o, A = some ⟨b, o, none⟩ ∧ b < B ∧ w.cell? ⟨b, o + k, none⟩ = some (.bool l[k]) := by
  obtain ⟨A', c', hv, _, hA⟩ := h
  obtain ⟨b, o, hA', hb, hc⟩ := hA (by omega)
  simp only [Value.slice.injEq] at hv
  obtain ⟨rfl, _, _⟩ := hv
  exact ⟨b, o, hA', hb, by simpa [boolE] using hc k hk 0 _ rfl⟩

theorem Ow.one_ {α : Type} {e : Enc α} (hsz : e.sz = 1) {E : TypeId} {w : World} {base g n cap : Nat} {l : List α} (h : Ow e E w base (.slice (some ⟨g, 0, none⟩) n cap) l) {k : Nat} (hk : k < l.length) {u : Value} (hu : (e.cells l[k])[0]? = some u) :
    w.cell? ⟨g, k, none⟩ = some u := by
  rcases h.form with ⟨h1, _⟩ | ⟨g', cap', hv, _, _, _, _, _, hc⟩
  · simp at h1
  · simp only [Value.slice.injEq, Option.some.injEq, Addr.mk.injEq, and_true] at hv
    obtain ⟨rfl, _, _⟩ := hv
    have := hc k hk 0 u hu
    rw [hsz] at this
    simpa using this
theorem Ow.nat {E : TypeId} {w : World} {base g n cap : Nat} {l : List Nat} (h : Ow natE E w base (.slice (some ⟨g, 0, none⟩) n cap) l) {k : Nat} (hk : k < l.length) : w.cell? ⟨g, k, none⟩ = some (.int .i64 (l[k] : Int)) := h.one_ rfl hk rfl
theorem Ow.int {E : TypeId} {w : World} {base g n cap : Nat} {l : List Int} (h : Ow intE E w base (.slice (some ⟨g, 0, none⟩) n cap) l) {k : Nat} (hk : k < l.length) : w.cell? ⟨g, k, none⟩ = some (.int .i64 l[k]) := h.one_ rfl hk rfl
theorem Ow.bool {E : TypeId} {w : World} {base g n cap : Nat} {l : List Bool} (h : Ow boolE E w base (.slice (some ⟨g, 0, none⟩) n cap) l) {k : Nat} (hk : k < l.length) : w.cell? ⟨g, k, none⟩ = some (.bool l[k]) := h.one_ rfl hk rfl

theorem or_i64 (a b : Nat) (ha : a < 9223372036854775808) (hb : b < 9223372036854775808) : bits .or .i64 (a : Int) (b : Int) = ((a ||| b : Nat) : Int) := by
  have hx : a ||| b < 2 ^ 63 := Nat.or_lt_two_pow (by omega) (by omega)
  have h1 : (BitVec.ofInt 64 (a : Int)).toNat = a := by
    rw [BitVec.ofInt_natCast, BitVec.toNat_ofNat]; exact Nat.mod_eq_of_lt (by omega)
  have h2 : (BitVec.ofInt 64 (b : Int)).toNat = b := by
    rw [BitVec.ofInt_natCast, BitVec.toNat_ofNat]; exact Nat.mod_eq_of_lt (by omega)
  show IntKind.i64.wrap ((BitVec.ofInt 64 (a : Int) ||| BitVec.ofInt 64 (b : Int)).toNat : Int) = _
  rw [BitVec.toNat_or, h1, h2, IntKind.wrap_i64]
  generalize a ||| b = y at *
  have hy : y < 9223372036854775808 := hx
  clear h1 h2 hx
  rw [Int.emod_eq_of_lt (by omega) (by omega), Int.add_sub_cancel]
theorem and_i64 (a b : Nat) (ha : a < 9223372036854775808) (hb : b < 9223372036854775808) : bits .and .i64 (a : Int) (b : Int) = ((a &&& b : Nat) : Int) := by
  have hx : a &&& b < 2 ^ 63 := Nat.and_lt_two_pow _ (by omega)
  have h1 : (BitVec.ofInt 64 (a : Int)).toNat = a := by
    rw [BitVec.ofInt_natCast, BitVec.toNat_ofNat]; exact Nat.mod_eq_of_lt (by omega)
  have h2 : (BitVec.ofInt 64 (b : Int)).toNat = b := by
    rw [BitVec.ofInt_natCast, BitVec.toNat_ofNat]; exact Nat.mod_eq_of_lt (by omega)
  show IntKind.i64.wrap ((BitVec.ofInt 64 (a : Int) &&& BitVec.ofInt 64 (b : Int)).toNat : Int) = _
  rw [BitVec.toNat_and, h1, h2, IntKind.wrap_i64]
  generalize a &&& b = y at *
  have hy : y < 9223372036854775808 := hx
  clear h1 h2 hx
  omega
theorem bit_test (x k : Nat) (hx : x < 9223372036854775808) : (bits .and .i64 ((x : Int) / 2 ^ k) 1 == 1) = x.testBit k := by
  have e : ((x : Int) / 2 ^ k) = ((x >>> k : Nat) : Int) := by
    rw [Nat.shiftRight_eq_div_pow, Int.natCast_ediv, Int.natCast_pow]; rfl
  have hl : x >>> k < 9223372036854775808 := by
    rw [Nat.shiftRight_eq_div_pow]; exact Nat.lt_of_le_of_lt (Nat.div_le_self _ _) hx
  have ha := and_i64 (x >>> k) 1 hl (by omega)
  rw [e]
  rw [show (1 : Int) = ((1 : Nat) : Int) from rfl, ha]
  unfold Nat.testBit
  rw [Nat.and_comm 1, Nat.and_one_is_mod]
  rcases Nat.mod_two_eq_zero_or_one (x >>> k) with h | h <;> simp [h]
theorem shl_one (d : Nat) (hd : d < 63) : wrap64 ((2 : Int) ^ d) = ((1 <<< d : Nat) : Int) := by
  have h : 2 ^ d < 2 ^ 63 := Nat.pow_lt_pow_of_lt (by omega) hd
  have e : (2 : Int) ^ d = ((2 ^ d : Nat) : Int) := by rw [Int.natCast_pow]; rfl
  rw [e, Nat.shiftLeft_eq, Nat.one_mul]
  clear e
  generalize 2 ^ d = y at *
  unfold wrap64
  omega

/-- the world with a plan's variable laid -/
def planBox (T : TypeId) (p : Plan) (ve : Value) (w : World) : World := w.alloc (.cells #[.int .i64 p.prio, .int .i64 p.most, .int .i64 p.wait, .int .i64 p.tasks, ve] T)
theorem planBox_below (T : TypeId) (p : Plan) (ve : Value) (w : World) : Below w.heap.size w (planBox T p ve w) := (Below.refl _ _).alloc (Nat.le_refl _) _
theorem planBox_size (T : TypeId) (p : Plan) (ve : Value) (w : World) : (planBox T p ve w).heap.size = w.heap.size + 1 := by simp [planBox]
theorem planBox_cells {T : TypeId} {p : Plan} {ve : Value} {w wr : World} (hb : Below (planBox T p ve w).heap.size (planBox T p ve w) wr) :
    wr.cell? ⟨w.heap.size, 0, none⟩ = some (.int .i64 p.prio) ∧ wr.cell? ⟨w.heap.size, 1, none⟩ = some (.int .i64 p.most) ∧ wr.cell? ⟨w.heap.size, 2, none⟩ = some (.int .i64 p.wait) ∧
      wr.cell? ⟨w.heap.size, 3, none⟩ = some (.int .i64 p.tasks) ∧ wr.cell? ⟨w.heap.size, 4, none⟩ = some ve ∧ w.heap.size + 1 ≤ wr.heap.size ∧ Below w.heap.size w wr := by
  have hs := planBox_size T p ve w
  have h : ∀ j u, (planBox T p ve w).cell? ⟨w.heap.size, j, none⟩ = some u → wr.cell? ⟨w.heap.size, j, none⟩ = some u := fun j u hu => (hb.cell (p := ⟨w.heap.size, j, none⟩) (by rw [hs]; simp)).trans hu
  refine ⟨h 0 _ ?_, h 1 _ ?_, h 2 _ ?_, h 3 _ ?_, h 4 _ ?_, by rw [← hs]; exact hb.size, (planBox_below T p ve w).trans (hb.mono (by rw [hs]; omega))⟩
  all_goals simp [planBox, go_sem]
end Go.Proofs.YtjobmbjadpldfaaGreat
end
section
namespace Go.Proofs.YtjobmbjadpldfaaGreat
open Go.RowKit
set_option maxRecDepth 100000
set_option maxHeartbeats 1000000

theorem szPlan_any (p : Plan) (ve : Value) (left : Int) (w : World) (h0 : 0 ≤ left) (h1 : left ≤ 2000000) (hl : p.edges.length ≤ 9223372036854775807) (h : Rd edgeE w w.heap.size ve p.edges) :
    Calls Tryz.prog 94 #[planV p ve, .int .i64 left] w (SzPost left p.edges.length w) := by
  have hb0 := planBox_below 104 p ve w
  unfold planV
  go_enter Tryz.func94, Tryz.ntmps94
  go_wp2_with fail
  refine (szEdgeS_any ve p.edges left _ h0 h1 hl ((h.below hb0).more hb0.size)).mono ?_
  rintro e w1 ⟨r, rfl, hr, hb1⟩
  rcases hr with rfl | ⟨r0, r1⟩
  · go_wp2
    go_ret
    exact ⟨-1, rfl, .inl rfl, bnext hb0 hb1⟩
  · go_wp2
    go_ret
    exact ⟨r, rfl, .inr ⟨r0, r1⟩, bnext hb0 hb1⟩

/-- a plan of the call's own -/
def ToPlanPost (p : Plan) (w : World) (e : Ending) (w' : World) : Prop := ∃ v, e = .returned (planV p v) ∧ Ow edgeE 140 w' w.heap.size v p.edges ∧ Below w.heap.size w w'

theorem toPlan_any (p : Plan) (ve : Value) (w : World) (hl : p.edges.length ≤ 2000000) (h : Rd edgeE w w.heap.size ve p.edges) :
    Calls Tryz.prog 98 #[planV p ve] w (ToPlanPost p w) := by
  have hbx : ∀ W, Below w.heap.size w W → Rd edgeE W W.heap.size ve p.edges := fun W hW => (h.below hW).more hW.size
  unfold planV
  go_enter Tryz.func98, Tryz.ntmps98
  go_wp2_with fail
  refine (toEdgeS_any ve p.edges _ hl (hbx _ (by repeat (first | exact Below.refl _ _ | refine Below.alloc ?_ (by simp <;> omega) _)))).mono ?_
  rintro e w1 ⟨v1, rfl, o1, hb1⟩
  obtain ⟨q1, q2⟩ := bcell hb1
  have hs := hb1.size
  simp only [World.size_alloc] at hs
  have hW : Below w.heap.size w w1 := bnext (by repeat (first | exact Below.refl _ _ | refine Below.alloc ?_ (by simp <;> omega) _)) hb1
  rcases o1.form with ⟨e1, _⟩ | ⟨g, cap, e1, _⟩
  all_goals
    subst e1
    go_wp2
  · have o2 : Ow edgeE 140 w1 w.heap.size (.slice none 0 0) p.edges := Ow.more o1 (by simp only [World.size_alloc]; omega)
    have hnil : p.edges = [] := by
      rcases o2.form with ⟨_, e⟩ | ⟨_, _, e, _⟩
      · exact e
      · cases e
    refine bodyPost_ret (v := planV p (.slice none 0 0)) ?_ rfl ?_
    · simp [planV, results, Tryz.results98, go_sem, q1]
    · refine ⟨.slice none 0 0, rfl, ?_, ?_⟩
      · rw [hnil]
        exact Ow.nil _ _ _ _
      · repeat (first | (with_reducible exact hW) | refine Below.setCell ?_ (by simp <;> omega) _)
  · have o2 : Ow edgeE 140 w1 (w.heap.size + 3) (.slice (some ⟨g, 0, none⟩) p.edges.length cap) p.edges := Ow.more o1 (by simp only [World.size_alloc]; omega)
    refine bodyPost_ret (v := planV p (.slice (some ⟨g, 0, none⟩) p.edges.length cap)) ?_ rfl ?_
    · simp [planV, results, Tryz.results98, go_sem, q1]
    · refine ⟨.slice (some ⟨g, 0, none⟩) p.edges.length cap, rfl, ?_, ?_⟩
      · refine Ow.more (base := w.heap.size + 3) ?_ (by omega)
        unfold Ow at o2 ⊢
        repeat (first | (with_reducible exact o2) | refine ownsRow_setCell_below ?_ (by simp <;> omega) _)
      · repeat (first | (with_reducible exact hW) | refine Below.setCell ?_ (by simp <;> omega) _)

theorem eqPlan_any (p q : Plan) (ve vf : Value) (w : World) (hl : p.edges.length ≤ 2000000) (hl' : q.edges.length ≤ 2000000) (h : Rd edgeE w w.heap.size ve p.edges) (h' : Rd edgeE w w.heap.size vf q.edges) :
    Calls Tryz.prog 102 #[planV p ve, planV q vf] w fun e w' => e = .returned (.bool (decide (p = q))) ∧ Below w.heap.size w w' := by
  have hb0 : Below w.heap.size w ((w.alloc (.cells #[.int .i64 p.prio, .int .i64 p.most, .int .i64 p.wait, .int .i64 p.tasks, ve] 81)).alloc (.cells #[.int .i64 q.prio, .int .i64 q.most, .int .i64 q.wait, .int .i64 q.tasks, vf] 81)) := by repeat (first | exact Below.refl _ _ | refine Below.alloc ?_ (by simp <;> omega) _)
  unfold planV
  by_cases h0 : p.prio = q.prio
  case neg =>
    have t0 : (p.prio != q.prio) = true := by rw [bne_iff_ne]; exact h0
    have H := Lib.hid (show decide (p = q) = false by simp only [decide_eq_false_iff_not]; intro e; exact h0 (by rw [e]))
    go_enter Tryz.func102, Tryz.ntmps102
    go_wp2
    go_ret
    exact ⟨ret_bool (by first | exact H.out.symm | rfl), by repeat (first | exact Below.refl _ _ | refine Below.alloc ?_ (by simp <;> omega) _)⟩
  have t0 : (p.prio != q.prio) = false := by simp [h0]
  by_cases h1 : p.most = q.most
  case neg =>
    have t1 : (p.most != q.most) = true := by rw [bne_iff_ne]; exact h1
    have H := Lib.hid (show decide (p = q) = false by simp only [decide_eq_false_iff_not]; intro e; exact h1 (by rw [e]))
    go_enter Tryz.func102, Tryz.ntmps102
    go_wp2
    go_ret
    exact ⟨ret_bool (by first | exact H.out.symm | rfl), by repeat (first | exact Below.refl _ _ | refine Below.alloc ?_ (by simp <;> omega) _)⟩
  have t1 : (p.most != q.most) = false := by simp [h1]
  by_cases h2 : p.wait = q.wait
  case neg =>
    have t2 : (p.wait != q.wait) = true := by rw [bne_iff_ne]; exact h2
    have H := Lib.hid (show decide (p = q) = false by simp only [decide_eq_false_iff_not]; intro e; exact h2 (by rw [e]))
    go_enter Tryz.func102, Tryz.ntmps102
    go_wp2
    go_ret
    exact ⟨ret_bool (by first | exact H.out.symm | rfl), by repeat (first | exact Below.refl _ _ | refine Below.alloc ?_ (by simp <;> omega) _)⟩
  have t2 : (p.wait != q.wait) = false := by simp [h2]
  by_cases h3 : p.tasks = q.tasks
  case neg =>
    have t3 : (p.tasks != q.tasks) = true := by rw [bne_iff_ne]; exact h3
    have H := Lib.hid (show decide (p = q) = false by simp only [decide_eq_false_iff_not]; intro e; exact h3 (by rw [e]))
    go_enter Tryz.func102, Tryz.ntmps102
    go_wp2
    go_ret
    exact ⟨ret_bool (by first | exact H.out.symm | rfl), by repeat (first | exact Below.refl _ _ | refine Below.alloc ?_ (by simp <;> omega) _)⟩
  have t3 : (p.tasks != q.tasks) = false := by simp [h3]
  have H := Lib.hid (show decide (p.edges = q.edges) = decide (p = q) from decide_eq_decide.2 ⟨fun e => by cases p; cases q; simp_all, fun e => by rw [e]⟩)
  clear h0 h1 h2 h3
  go_enter Tryz.func102, Tryz.ntmps102
  go_wp2_with fail
  refine (eqEdgeS_any ve vf p.edges q.edges _ hl hl' ((h.below hb0).more hb0.size) ((h'.below hb0).more hb0.size)).mono ?_
  rintro e w1 ⟨rfl, hb1⟩
  rw [H.out]
  cases hd : decide (p = q)
  all_goals
    go_wp2
    go_ret
    exact ⟨ret_bool (by first | rfl | exact hd.symm | simp), bnext hb0 hb1⟩
end Go.Proofs.YtjobmbjadpldfaaGreat
end
section
namespace Go.Proofs.YtjobmbjadpldfaaGreat
open Go.RowKit
set_option maxRecDepth 100000
set_option maxHeartbeats 400000

theorem within_any (n lo hi : Int) (w : World) : Calls Tryz.prog 29 #[.int .i64 n, .int .i64 lo, .int .i64 hi] w fun e w' => e = .returned (.bool (inB n lo hi)) ∧ w = w' := by
  by_cases h1 : lo ≤ n
  · have t1 : decide (lo ≤ n) = true := by simpa using h1
    go_enter Tryz.func29, Tryz.ntmps29
    go_wp2
    go_ret
    exact ⟨ret_bool (by simp [inB, t1]), rfl⟩
  · have t1 : decide (lo ≤ n) = false := by simpa using h1
    go_enter Tryz.func29, Tryz.ntmps29
    go_wp2
    go_ret
    exact ⟨ret_bool (by simp [inB, t1]), rfl⟩

theorem l01In_any (n lo hi : Int) (w : World) : Calls Tryz.prog 26 #[.int .i64 n, .int .i64 lo, .int .i64 hi] w fun e w' => e = .returned (.bool (inB n lo hi)) ∧ w = w' := by
  by_cases h1 : lo ≤ n
  · have t1 : decide (lo ≤ n) = true := by simpa using h1
    go_enter Tryz.func26, Tryz.ntmps26
    go_wp2
    go_ret
    exact ⟨ret_bool (by simp [inB, t1]), rfl⟩
  · have t1 : decide (lo ≤ n) = false := by simpa using h1
    go_enter Tryz.func26, Tryz.ntmps26
    go_wp2
    go_ret
    exact ⟨ret_bool (by simp [inB, t1]), rfl⟩

theorem l16Num_any (n : Int) (w : World) : Calls Tryz.prog 33 #[.int .i64 n] w fun e w' => e = .returned (.bool (inB n 0 1000000000)) ∧ w = w' := by
  go_enter Tryz.func33, Tryz.ntmps33
  go_wp2_with (go_at_call 26; refine (l01In_any _ _ _ _).mono ?_; rintro e w' ⟨rfl, rfl⟩)
  go_ret
  exact ⟨rfl, rfl⟩

/-- the first place where p holds; -1 -/
def idxOf {α : Type} (p : α → Bool) (l : List α) : Int := match l.findIdx? p with | some i => i | none => -1
theorem idxOf_found {α : Type} {p : α → Bool} {l : List α} {k : Nat} (hk : k < l.length) (h : ∀ j (hj : j < k), p (l[j]'(by omega)) = false) (hp : p l[k] = true) : idxOf p l = k := by
  have : l.findIdx? p = some k := by
    rw [List.findIdx?_eq_some_iff_getElem]
    exact ⟨hk, hp, fun j hj => by simp [h j hj]⟩
  simp [idxOf, this]
theorem idxOf_none {α : Type} {p : α → Bool} {l : List α} (h : ∀ j (hj : j < l.length), p l[j] = false) : idxOf p l = -1 := by
  have : l.findIdx? p = none := by
    rw [List.findIdx?_eq_none_iff]
    intro x hx
    obtain ⟨j, hj, rfl⟩ := List.getElem_of_mem hx
    exact h j hj
  simp [idxOf, this]

end Go.Proofs.YtjobmbjadpldfaaGreat
end
section
namespace Go.Proofs.YtjobmbjadpldfaaGreat
open Go.RowKit
set_option maxRecDepth 100000
set_option maxHeartbeats 1000000

theorem int_info : (Tryz.prog.info? 3).map (fun i => (i.zero, i.size, i.bytes)) = some (some (.int .i64 0), 1, 8) := by kernel_rfl

theorem waits_any (p : Plan) (ve : Value) (w : World) (hm : manyOk p = true) (he : edgesIn p) (h : Rd edgeE w w.heap.size ve p.edges) :
    Calls Tryz.prog 112 #[planV p ve] w fun e w' => ∃ v, e = .returned v ∧ Ow natE 3 w' w.heap.size v (Pg.wrounds (esOf p) p.tasks.toNat (List.replicate p.tasks.toNat 0)) ∧ Below w.heap.size w w' := by
  obtain ⟨A, c, rfl, -⟩ := id h
  obtain ⟨t1, t2⟩ := manyOk_tasks hm
  have hlen := manyOk_edges hm
  obtain ⟨T, hT⟩ := Int.eq_ofNat_of_zero_le (show 0 ≤ p.tasks by omega)
  have HT := Lib.hid hT
  have hT12 : T ≤ 12 := by omega
  obtain ⟨i0, hi0, hz0, hz1, hz2⟩ := info_parts int_info
  have hmk : ∀ w : World, (Instr.makeSlice 94 (.int .i64 p.tasks) (.int .i64 p.tasks)).run Tryz.prog w = .ok (.slice (some ⟨w.heap.size, 0, none⟩) T T) (w.alloc (.cells (madeCells #[.int .i64 0] (T * 1)) 3)) := by
    intro w
    have := run_make (P := Tryz.prog) w 94 3 i0 _ Tryz.underlying94 hi0 hz0 .i64 .i64 T T (by omega) (by omega) (by rw [hz2]; omega) (by omega)
    rw [hz1] at this
    rw [hT]
    simpa [Value.cells] using this
  clear hT
  unfold planV
  go_enter Tryz.func112, Tryz.ntmps112
  go_wp2
  go_loopw [11] (fun i wr => ∃ k : Nat, k ≤ T ∧ i = .int .i64 k ∧ Ow natE 3 wr (w.heap.size + 1) (.slice (some ⟨w.heap.size + 1, 0, none⟩) T T) (Pg.wrounds (esOf p) k (List.replicate T 0)) ∧ Below (planBox 81 p (.slice A p.edges.length c) w).heap.size (planBox 81 p (.slice A p.edges.length c) w) wr) (fun i _ => T - (intOf i).toNat)
  case atStart =>
    refine ⟨0, Nat.zero_le _, rfl, ?_, (Below.refl _ _).alloc (Nat.le_refl _) _⟩
    have := Ow.made natE 3 (planBox 81 p (.slice A p.edges.length c) w) 0 T (by decide) (by simp [maxLen]; omega) (z := #[.int .i64 0]) rfl (m := T) (by simp [natE])
    rw [planBox_size] at this
    exact this
  case round =>
    obtain ⟨k, hk, rfl, hown, hb⟩ := hrel
    obtain ⟨x0, x1, x2, x3, x4, hs, hbw⟩ := planBox_cells hb
    by_cases hlt : k < T
    · have hltI : (k : Int) < p.tasks := by rw [HT.out]; omega
      obtain ⟨wo, rfl⟩ : ∃ wo : World, wo = wr := ⟨_, rfl⟩
      go_wp2
      go_loopw [16] (fun i wr => ∃ j : Nat, j ≤ p.edges.length ∧ i = .int .i64 j ∧ Ow natE 3 wr (w.heap.size + 1) (.slice (some ⟨w.heap.size + 1, 0, none⟩) T T) (Pg.wround (esL (p.edges.take j)) (Pg.wrounds (esOf p) k (List.replicate T 0))) ∧ Below (planBox 81 p (.slice A p.edges.length c) w).heap.size (planBox 81 p (.slice A p.edges.length c) w) wr) (fun i _ => p.edges.length - (intOf i).toNat)
      case atStart => exact ⟨0, Nat.zero_le _, rfl, hown, hb⟩
      case round =>
        clear hown hb x0 x1 x2 x3 x4 hs hbw
        obtain ⟨j, hj, rfl, hown, hb⟩ := hrel
        obtain ⟨x0, x1, x2, x3, x4, hs, hbw⟩ := planBox_cells hb
        by_cases hjt : j < p.edges.length
        · obtain ⟨b, o, rfl, hbb, c0, c1⟩ := (h.below hbw).edge hjt
          obtain ⟨f1, f2, f3, f4⟩ := edgesIn_get he hjt
          rw [HT.out] at f2 f4
          have ht := Lib.hid (show esL (p.edges.take (j + 1)) = esL (p.edges.take j) ++ [(p.edges[j].fr.toNat, p.edges[j].to.toNat)] by unfold esL; rw [take_snoc _ j hjt, List.map_append]; rfl)
          generalize p.edges[j].fr = fx at *
          generalize p.edges[j].to = tx at *
          obtain ⟨a, rfl⟩ := Int.eq_ofNat_of_zero_le f1
          obtain ⟨d, rfl⟩ := Int.eq_ofNat_of_zero_le f3
          have hol : (Pg.wround (esL (p.edges.take j)) (Pg.wrounds (esOf p) k (List.replicate T 0))).length = T := by rw [Pg.wround_length, Pg.wrounds_length, List.length_replicate]
          have hnext : Hid (Pg.wround (esL (p.edges.take (j + 1))) (Pg.wrounds (esOf p) k (List.replicate T 0)) = Pg.wstep (Pg.wround (esL (p.edges.take j)) (Pg.wrounds (esOf p) k (List.replicate T 0))) (a, d)) := by
            show Pg.wround _ _ = _
            rw [ht.out]
            simp only [Int.toNat_natCast]
            unfold Pg.wround
            rw [List.foldl_append]
            rfl
          have hlt2 : ∀ x ∈ Pg.wround (esL (p.edges.take j)) (Pg.wrounds (esOf p) k (List.replicate T 0)), x < 2 ^ T := by
            refine Pg.wround_lt T _ _ ?_ (Pg.wrounds_lt T _ _ ?_ ?_ k)
            · intro e he'
              simp only [esL, List.mem_map] at he'
              obtain ⟨y, hy, rfl⟩ := he'
              have := (esOf_lt he).2 (y.fr.toNat, y.to.toNat) (by simp only [esOf, esL, List.mem_map]; exact ⟨y, List.mem_of_mem_take hy, rfl⟩)
              rw [HT.out] at this
              simpa using this
            · have := (esOf_lt he).2
              rw [HT.out] at this
              simpa using this
            · intro x hx
              have := List.eq_of_mem_replicate hx
              subst this
              exact Nat.two_pow_pos T
          generalize hO : Pg.wround (esL (p.edges.take j)) (Pg.wrounds (esOf p) k (List.replicate T 0)) = O at *
          have HO := Lib.hid hO
          clear hO ht
          have hol' := Lib.hid hol
          have ha : a < O.length := by omega
          have hd : d < O.length := by omega
          clear hol
          have hgl := hown.blk.2
          have n0 : (wr.alloc (.cells #[.int .i64 (a : Int), .int .i64 (d : Int)] 140)).cell? ⟨wr.heap.size, 0, none⟩ = some (.int .i64 (a : Int)) := by go_simp
          have n1 : (wr.alloc (.cells #[.int .i64 (a : Int), .int .i64 (d : Int)] 140)).cell? ⟨wr.heap.size, 1, none⟩ = some (.int .i64 (d : Int)) := by go_simp
          have hown2 := Ow.below hown ((Below.refl _ _).alloc (Nat.le_refl _) (.cells #[.int .i64 (a : Int), .int .i64 (d : Int)] 140))
          have hb2 := hb.alloc hb.size (.cells #[.int .i64 (a : Int), .int .i64 (d : Int)] 140)
          go_wp2
          generalize wr.alloc (.cells #[.int .i64 (a : Int), .int .i64 (d : Int)] 140) = W2 at *
          have hcf := hown2.free
          have ca := hown2.nat ha
          have cd := hown2.nat hd
          go_still_tail 16, (by kernel_rfl)
          go_wp2
          have hda : O[d] < 2 ^ T := hlt2 _ (List.getElem_mem hd)
          have haa : O[a] < 2 ^ T := hlt2 _ (List.getElem_mem ha)
          have hpT : 2 ^ T ≤ 2 ^ 12 := Nat.pow_le_pow_right (by omega) hT12
          have hpd : 1 <<< d < 2 ^ 12 := by rw [Nat.shiftLeft_eq, Nat.one_mul]; exact Nat.pow_lt_pow_of_lt (by omega) (by omega)
          have hor : 1 <<< d ||| O[d] < 2 ^ 12 := Nat.or_lt_two_pow hpd (Nat.lt_of_lt_of_le hda hpT)
          have hsm : ∀ {x : Nat}, x < 2 ^ 12 → x < 9223372036854775808 := fun h => Nat.lt_of_lt_of_le h (by decide)
          rw [shl_one d (by omega), or_i64 (1 <<< d) O[d] (hsm hpd) (hsm (Nat.lt_of_lt_of_le hda hpT)), or_i64 O[a] (1 <<< d ||| O[d]) (hsm (Nat.lt_of_lt_of_le haa hpT)) (hsm hor)]
          clear hpd hor hsm hda haa hpT
          have hput := Ow.put hown2 (n := T) hol'.out a (by omega) (O[a] ||| (1 <<< d ||| O[d]))
          have hst : O.set a (O[a] ||| (1 <<< d ||| O[d])) = Pg.wstep O (a, d) := by
            simp [Pg.wstep, List.getD_eq_getElem?_getD, ha, hd]
          rw [hst, ← hnext.out] at hput
          simp only [natE, Nat.mul_one] at hput
          refine ⟨⟨j + 1, by omega, by go_num, hput.1, ((hb2.grown hput.2 hb2.size (fun g hg => ?_))).drew⟩, by simp [intOf]; omega⟩
          rw [planBox_size]
          simp at hg
          omega
        · have hj' : j = p.edges.length := by omega
          subst hj'
          rw [List.take_length] at hown
          go_wp2
          exact ⟨⟨k + 1, by omega, by go_num, hown, hb⟩, by simp [intOf]; omega⟩
    · have hltI : ¬ (k : Int) < p.tasks := by rw [HT.out]; omega
      go_wp2
      go_ret
      refine ⟨_, rfl, ?_, hbw⟩
      have : k = T := by omega
      subst this
      rw [HT.out]
      exact hown.more (by omega)
end Go.Proofs.YtjobmbjadpldfaaGreat
end
section
namespace Go.Proofs.YtjobmbjadpldfaaGreat
open Go.RowKit
set_option maxRecDepth 100000

/-- the block that a slice lies in is from lo on and below hi -/
def Within (v : Value) (lo hi : Nat) : Prop := ∀ g, v.ownBlock = some g → lo ≤ g ∧ g < hi
theorem Ow.within {α : Type} {e : Enc α} {E : TypeId} {w : World} {base : Nat} {v : Value} {l : List α} (h : Ow e E w base v l) : Within v base w.heap.size := by
  intro g hg
  rcases h.form with ⟨rfl, _⟩ | ⟨g', cap, rfl, h1, h2, _⟩
  · simp [Value.ownBlock] at hg
  · have : g' = g := by simpa [Value.ownBlock] using hg
    omega
theorem Within.apart {v v' : Value} {a b c d : Nat} (h : Within v a b) (h' : Within v' c d) (hne : b ≤ c ∨ d ≤ a) : v.ownBlock = none ∨ v.ownBlock ≠ v'.ownBlock := by
  cases hv : v.ownBlock with
  | none => exact .inl rfl
  | some g =>
    refine .inr (fun e => ?_)
    have h1 := h g hv
    have h2 := h' g e.symm
    omega
theorem grown_of_below {w w' : World} (h : Below w.heap.size w w') (row : Option Nat) : w.grownBy w' row := ⟨h.os, h.tape, h.output, h.size, fun k hk _ => h.block k hk⟩

/-- block b is the variable of the plan p, whose edges' slice is v -/
structure BoxAt (b : Nat) (p : Plan) (v : Value) (w : World) : Prop where
  cells : w.cell? ⟨b, 0, none⟩ = some (.int .i64 p.prio) ∧ w.cell? ⟨b, 1, none⟩ = some (.int .i64 p.most) ∧ w.cell? ⟨b, 2, none⟩ = some (.int .i64 p.wait) ∧
    w.cell? ⟨b, 3, none⟩ = some (.int .i64 p.tasks) ∧ w.cell? ⟨b, 4, none⟩ = some v ∧ b < w.heap.size
  free : ∀ j, w.frozen? ⟨b, j, none⟩ = false

theorem BoxAt.lt {b : Nat} {p : Plan} {v : Value} {w : World} (h : BoxAt b p v w) : b < w.heap.size := h.cells.2.2.2.2.2
theorem BoxAt.new' (T : TypeId) (p : Plan) (v : Value) (w : World) {b : Nat} (hb : b = w.heap.size) : BoxAt b p v (w.alloc (.cells #[.int .i64 p.prio, .int .i64 p.most, .int .i64 p.wait, .int .i64 p.tasks, v] T)) := by
  subst hb
  refine ⟨⟨?_, ?_, ?_, ?_, ?_, by simp⟩, fun j => ?_⟩
  all_goals simp [go_sem]
theorem BoxAt.new (T : TypeId) (p : Plan) (v : Value) (w : World) : BoxAt w.heap.size p v (planBox T p v w) := BoxAt.new' T p v w rfl
theorem BoxAt.keep {b : Nat} {p : Plan} {v : Value} {w w' : World} (h : BoxAt b p v w) (hs : w.heap.size ≤ w'.heap.size) (hk : ∀ j, w'.cell? ⟨b, j, none⟩ = w.cell? ⟨b, j, none⟩) (hf : ∀ j, w'.frozen? ⟨b, j, none⟩ = w.frozen? ⟨b, j, none⟩) : BoxAt b p v w' := by
  obtain ⟨h0, h1, h2, h3, h4, h5⟩ := h.cells
  exact ⟨⟨(hk 0).trans h0, (hk 1).trans h1, (hk 2).trans h2, (hk 3).trans h3, (hk 4).trans h4, Nat.lt_of_lt_of_le h5 hs⟩, fun j => (hf j).trans (h.free j)⟩
theorem BoxAt.upto {B b : Nat} {p : Plan} {v : Value} {w w' : World} (h : BoxAt b p v w) (hb : Below B w w') (hlt : b < B) : BoxAt b p v w' :=
  h.keep hb.size (fun j => hb.cell (p := ⟨b, j, none⟩) hlt) (fun j => hb.frozen (p := ⟨b, j, none⟩) hlt)
theorem BoxAt.below {b : Nat} {p : Plan} {v : Value} {w w' : World} (h : BoxAt b p v w) (hb : Below w.heap.size w w') : BoxAt b p v w' := h.upto hb h.lt
theorem BoxAt.far {b : Nat} {p : Plan} {v : Value} {w w' : World} {row : Option Nat} (h : BoxAt b p v w) (hg : w.grownBy w' row) (hne : some b ≠ row) : BoxAt b p v w' :=
  h.keep hg.size (fun j => hg.cell_far ⟨b, j, none⟩ h.lt hne) (fun j => hg.frozen_far ⟨b, j, none⟩ h.lt hne)
theorem BoxAt.mark {b lo hi : Nat} {p : Plan} {v v' : Value} {w w' : World} (h : BoxAt b p v w) (hg : w.grownBy w' v'.ownBlock) (hi' : Within v' lo hi) (hne : b < lo ∨ hi ≤ b) : BoxAt b p v w' :=
  h.far hg (fun e => by
    have := hi' b e.symm
    omega)
theorem BoxAt.other {b : Nat} {p : Plan} {v : Value} {w : World} (h : BoxAt b p v w) {a : Addr} (hne : b ≠ a.block) (u : Value) : BoxAt b p v (w.setCell a u) :=
  h.keep (by simp [World.setCell]) (fun j => World.cell?_of_block (Below.heap_setCell w a u b hne)) (fun j => World.frozen?_of_block (Below.heap_setCell w a u b hne))
theorem BoxAt.setTasks {b : Nat} {p : Plan} {v : Value} {w : World} (h : BoxAt b p v w) (t : Int) : BoxAt b { p with tasks := t } v (w.setCell ⟨b, 3, none⟩ (.int .i64 t)) := by
  obtain ⟨h0, h1, h2, h3, h4, h5⟩ := h.cells
  have hf := h.free
  refine ⟨⟨?_, ?_, ?_, ?_, ?_, by simpa [World.setCell] using h5⟩, fun j => ?_⟩
  all_goals simp [go_sem, h0, h1, h2, h3, h4, hf]
theorem BoxAt.setEdges {b : Nat} {p : Plan} {v : Value} {w : World} (h : BoxAt b p v w) (l : List Edge) (v' : Value) : BoxAt b { p with edges := l } v' (w.setCell ⟨b, 4, none⟩ v') := by
  obtain ⟨h0, h1, h2, h3, h4, h5⟩ := h.cells
  have hf := h.free
  refine ⟨⟨?_, ?_, ?_, ?_, ?_, by simpa [World.setCell] using h5⟩, fun j => ?_⟩
  all_goals simp [go_sem, h0, h1, h2, h3, h4, hf]
theorem grown_setCell (w : World) (a : Addr) (u : Value) : w.grownBy (w.setCell a u) (some a.block) :=
  ⟨rfl, rfl, rfl, by simp [World.setCell], fun k _ hne => Below.heap_setCell w a u k (fun e => hne (by rw [e]))⟩
theorem Ow.setOther {α : Type} {e : Enc α} {E : TypeId} {w : World} {base : Nat} {v : Value} {l : List α} (h : Ow e E w base v l) {a : Addr} (hne : v.ownBlock ≠ some a.block) (u : Value) : Ow e E (w.setCell a u) base v l :=
  h.grown (grown_setCell w a u) (.inr hne)
/-- block b is the variable of the edge e -/
structure EdgeAt (b : Nat) (e : Edge) (w : World) : Prop where
  cells : w.cell? ⟨b, 0, none⟩ = some (.int .i64 e.fr) ∧ w.cell? ⟨b, 1, none⟩ = some (.int .i64 e.to) ∧ b < w.heap.size
theorem EdgeAt.new (T : TypeId) (e : Edge) (w : World) : EdgeAt w.heap.size e (w.alloc (.cells #[.int .i64 e.fr, .int .i64 e.to] T)) := by
  refine ⟨?_, ?_, by simp⟩
  all_goals simp [go_sem]
theorem EdgeAt.below {b : Nat} {e : Edge} {w w' : World} (h : EdgeAt b e w) (hb : Below w.heap.size w w') : EdgeAt b e w' := by
  obtain ⟨h0, h1, h2⟩ := h.cells
  exact ⟨(hb.cell (p := ⟨b, 0, none⟩) h2).trans h0, (hb.cell (p := ⟨b, 1, none⟩) h2).trans h1, Nat.lt_of_lt_of_le h2 hb.size⟩

theorem Ow.some_ {α : Type} {e : Enc α} {E : TypeId} {w : World} {base n c : Nat} {A : Option Addr} {l : List α} (h : Ow e E w base (.slice A n c) l) (hp : 0 < l.length) : ∃ g, A = some ⟨g, 0, none⟩ ∧ base ≤ g ∧ g < w.heap.size := by
  rcases h.form with ⟨_, e0⟩ | ⟨g, cap, e1, h1, h2, _⟩
  · rw [e0] at hp; simp at hp
  · simp only [Value.slice.injEq] at e1
    exact ⟨g, e1.1, h1, h2⟩

/-- the world with two plans' variables laid -/
def twoBox (T : TypeId) (p : Plan) (ve : Value) (q : Plan) (vf : Value) (w : World) : World := planBox T q vf (planBox T p ve w)
theorem twoBox_at (T : TypeId) (p : Plan) (ve : Value) (q : Plan) (vf : Value) (w : World) :
    BoxAt w.heap.size p ve (twoBox T p ve q vf w) ∧ BoxAt (w.heap.size + 1) q vf (twoBox T p ve q vf w) ∧ Below w.heap.size w (twoBox T p ve q vf w) := by
  refine ⟨(BoxAt.new T p ve w).below (planBox_below _ _ _ _), ?_, bnext (planBox_below T p ve w) (planBox_below _ _ _ _)⟩
  have := BoxAt.new T q vf (planBox T p ve w)
  rw [planBox_size] at this
  exact this
end Go.Proofs.YtjobmbjadpldfaaGreat
end
section
namespace Go.Proofs.YtjobmbjadpldfaaGreat
open Go.RowKit
set_option maxRecDepth 100000
set_option maxHeartbeats 400000

def fOk (f : Fence) : Bool := inB f.run 0 1000000000 && inB f.task 0 1000000000 && inB f.try_ 1 1000000000
def fBe (a b : Fence) : Bool := decide (a.run < b.run) || (a.run == b.run && decide (a.task < b.task))

def fAt (run task : Int) (f : Fence) : Bool := f.run == run && f.task == task

end Go.Proofs.YtjobmbjadpldfaaGreat
end
