/-
  Words for memory: how a list of plain data lies in a slice; a slice of the call's own; what is kept when new memory is made. Walks of the helpers of the laws on values of the type Edge: to, eq, and the slices' own. Written by program (flat.py). Plain facts on finite graphs: the closure by rounds over the edges, and the search by a list, both tell what can be reached. Plans: what they are, when they are right, and how they lie in memory. Walks of the helpers of the laws on plans: sz, to, eq. A plan's variable that lies in memory; what is kept of it when other memory is marked; where a slice of 
-/
import Derived.Test.YtnaicippgocdfaaRows
import Derived.WalkKit
import Derived.Lib.Hide
import Derived.Deep.QuietTactic
import Derived.BigQuiet
import Derived.StillTailTactics
import Derived.Deep.RegionHeld3
import Derived.Maps.AppendAt
import Derived.Deep.AppendLies
import Derived.KernelRfl
import Derived.RegionTactic
import Derived.OwnWalk
import Derived.ProofKit
import Derived.Deep.Slices
section
namespace Go.Proofs.Ytnaicippgocdfaa
open Go.RowKit

/-- how a datum lies in cells -/
structure Enc (α : Type) where
  cells : α → List Value
  sz : Nat
  len : ∀ x, (cells x).length = sz
  one : ∀ x, ∀ u ∈ cells x, u.oneCell' = true

section
variable {α : Type} {e : Enc α} {w w' : World} {B B' : Nat} {v : Value} {l : List α}

theorem Enc.flat_length (e : Enc α) : ∀ l : List α, (l.flatMap e.cells).length = l.length * e.sz
  | [] => by simp
  | x :: l => by rw [List.flatMap_cons, List.length_append, e.len, Enc.flat_length e l, List.length_cons, Nat.succ_mul, Nat.add_comm]

theorem Enc.flat_get (e : Enc α) {j : Nat} (hj : j < e.sz) : ∀ (l : List α) (k : Nat) (h : k < l.length), (l.flatMap e.cells)[k * e.sz + j]? = (e.cells l[k])[j]?
  | [], k, h => absurd h (by simp)
  | x :: l, 0, _ => by
    rw [List.flatMap_cons, Nat.zero_mul, Nat.zero_add, List.getElem?_append_left (by rw [e.len]; exact hj)]
    rfl
  | x :: l, k + 1, h => by
    rw [List.flatMap_cons, List.getElem?_append_right (by rw [e.len, Nat.succ_mul]; omega), e.len,
      show (k + 1) * e.sz + j - e.sz = k * e.sz + j from by rw [Nat.succ_mul]; omega]
    exact Enc.flat_get e hj l k (by simpa using h)

/-- cells from place i on, laid one behind the other -/
def setSeq (xs : List Value) (i : Nat) : List Value → List Value
  | [] => xs
  | u :: us => setSeq (xs.set i u) (i + 1) us
def wSeq (w : World) (g i : Nat) : List Value → World
  | [] => w
  | u :: us => wSeq (w.setCell ⟨g, i, none⟩ u) g (i + 1) us

theorem setSeq_eq : ∀ (us xs : List Value) (i : Nat), i + us.length ≤ xs.length → setSeq xs i us = xs.take i ++ us ++ xs.drop (i + us.length)
  | [], xs, i, _ => by simp [setSeq]
  | u :: us, xs, i, h => by
    simp only [List.length_cons] at h
    rw [setSeq, setSeq_eq us _ _ (by simp; omega)]
    have h1 : (xs.set i u).take (i + 1) = xs.take i ++ [u] := by
      rw [List.take_set, List.take_succ_eq_append_getElem (by omega), List.set_append_right _ _ (by simp; omega)]
      simp [show i - min i xs.length = 0 from by omega]
    have h2 : (xs.set i u).drop (i + 1 + us.length) = xs.drop (i + (u :: us).length) := by
      rw [List.drop_set_of_lt (by omega)]
      congr 1
      simp; omega
    rw [h1, h2]
    simp

theorem Enc.flat_put (e : Enc α) (x : α) : ∀ (l : List α) (k : Nat), k < l.length → setSeq (l.flatMap e.cells) (k * e.sz) (e.cells x) = (l.set k x).flatMap e.cells := by
  intro l k hk
  rw [setSeq_eq _ _ _ (by
    rw [e.flat_length, e.len]
    have : (k + 1) * e.sz ≤ l.length * e.sz := Nat.mul_le_mul_right _ hk
    rw [Nat.succ_mul] at this; exact this), e.len]
  have hl : l = l.take k ++ l[k] :: l.drop (k + 1) := by
    rw [List.getElem_cons_drop hk, List.take_append_drop]
  have hs : l.set k x = l.take k ++ x :: l.drop (k + 1) := by
    rw [List.set_eq_take_append_cons_drop, if_pos hk]
  rw [hs]
  have e1 : (l.take k).flatMap e.cells = (l.flatMap e.cells).take (k * e.sz) := by
    conv => rhs; rw [hl, List.flatMap_append]
    rw [List.take_left' (by rw [e.flat_length, List.length_take, Nat.min_eq_left (Nat.le_of_lt hk)])]
  have e2 : (l.drop (k + 1)).flatMap e.cells = (l.flatMap e.cells).drop (k * e.sz + e.sz) := by
    conv => rhs; rw [hl, List.flatMap_append, List.flatMap_cons, ← List.append_assoc]
    rw [List.drop_left' (by rw [List.length_append, e.flat_length, e.len, List.length_take, Nat.min_eq_left (Nat.le_of_lt hk)])]
  rw [List.flatMap_append, List.flatMap_cons, e1, e2, List.append_assoc]

/-- v is a slice that reads as l, below block B -/
def Rd (e : Enc α) (w : World) (B : Nat) (v : Value) (l : List α) : Prop :=
  ∃ A c, v = .slice A l.length c ∧ l.length ≤ c ∧ (0 < l.length → ∃ b o, A = some ⟨b, o, none⟩ ∧ b < B ∧
    ∀ (k : Nat) (h : k < l.length) (j : Nat) (u : Value), (e.cells l[k])[j]? = some u → w.cell? ⟨b, o + k * e.sz + j, none⟩ = some u)

theorem Rd.keep (h : Rd e w B v l) (hk : ∀ p : Addr, p.block < B → w'.cell? p = w.cell? p) : Rd e w' B v l := by
  obtain ⟨A, c, hv, hcap, hA⟩ := h
  refine ⟨A, c, hv, hcap, fun hl => ?_⟩
  obtain ⟨b, o, hb, hlt, hc⟩ := hA hl
  exact ⟨b, o, hb, hlt, fun k hk' j u hu => (hk _ hlt).trans (hc k hk' j u hu)⟩
theorem Rd.more (h : Rd e w B v l) (hB : B ≤ B') : Rd e w B' v l := by
  obtain ⟨A, c, hv, hcap, hA⟩ := h
  refine ⟨A, c, hv, hcap, fun hl => ?_⟩
  obtain ⟨b, o, hb, hlt, hc⟩ := hA hl
  exact ⟨b, o, hb, by omega, hc⟩
theorem Rd.below (h : Rd e w B v l) (hb : Below B w w') : Rd e w' B v l := h.keep fun _ hp => hb.cell hp

/-- v is a slice of the call's own, from block base on: it reads as l -/
def Ow (e : Enc α) (E : TypeId) (w : World) (base : Nat) (v : Value) (l : List α) : Prop := w.ownsRow base E e.sz v l.length (l.flatMap e.cells)

theorem Ow.nil (e : Enc α) (E : TypeId) (w : World) (base : Nat) : Ow e E w base (.slice none 0 0) [] := World.ownsRow_nil w base E e.sz

theorem Ow.form {E : TypeId} {base : Nat} (h : Ow e E w base v l) : (v = .slice none 0 0 ∧ l = []) ∨
    ∃ g cap, v = .slice (some ⟨g, 0, none⟩) l.length cap ∧ base ≤ g ∧ g < w.heap.size ∧ l.length ≤ cap ∧ cap ≤ maxLen ∧ (∀ j, w.frozen? ⟨g, j, none⟩ = false) ∧
      ∀ (k : Nat) (h : k < l.length) (j : Nat) (u : Value), (e.cells l[k])[j]? = some u → w.cell? ⟨g, k * e.sz + j, none⟩ = some u := by
  have h0 := h
  rcases h.2 with ⟨hv, hn⟩ | ⟨g, cap, cur, hv, hg, hh, hc, hm, _, _⟩
  · exact .inl ⟨hv, List.eq_nil_of_length_eq_zero hn⟩
  · subst hv
    refine .inr ⟨g, cap, rfl, hg, (h.lt g rfl).2, hc, hm, fun j => World.ownsRow.frozenAt h j, fun k hk j u hu => ?_⟩
    have hj : j < e.sz := by
      have := (List.getElem?_eq_some_iff.1 hu).1
      rw [e.len] at this; exact this
    have hlt : k * e.sz + j < l.length * e.sz := by
      have : (k + 1) * e.sz ≤ l.length * e.sz := Nat.mul_le_mul_right _ hk
      rw [Nat.succ_mul] at this; omega
    rw [World.ownsRow.cellAt h _ hlt, e.flat_get hj l k hk]
    exact hu

theorem Ow.free {E : TypeId} {base g n cap : Nat} (h : Ow e E w base (.slice (some ⟨g, 0, none⟩) n cap) l) (j : Nat) : w.frozen? ⟨g, j, none⟩ = false := by
  rcases h.form with ⟨h1, _⟩ | ⟨g', cap', hv, _, _, _, _, hf, _⟩
  · simp at h1
  · simp only [Value.slice.injEq, Option.some.injEq, Addr.mk.injEq, and_true] at hv
    obtain ⟨rfl, _, _⟩ := hv
    exact hf j

theorem Ow.blk {E : TypeId} {base g n cap : Nat} (h : Ow e E w base (.slice (some ⟨g, 0, none⟩) n cap) l) : base ≤ g ∧ g < w.heap.size := by
  rcases h.form with ⟨h1, _⟩ | ⟨g', cap', hv, hb, hg, _⟩
  · simp at h1
  · simp only [Value.slice.injEq, Option.some.injEq, Addr.mk.injEq, and_true] at hv
    obtain ⟨rfl, _, _⟩ := hv
    exact ⟨hb, hg⟩

theorem Rd.of_own {E : TypeId} {base : Nat} (h : Ow e E w base v l) : Rd e w w.heap.size v l := by
  rcases h.form with ⟨rfl, rfl⟩ | ⟨g, cap, rfl, _, hlt, hcap, _, _, hc⟩
  · exact ⟨none, 0, rfl, Nat.le_refl _, fun h => absurd h (by simp)⟩
  · exact ⟨_, cap, rfl, hcap, fun _ => ⟨g, 0, rfl, hlt, fun k hk j u hu => by rw [Nat.zero_add]; exact hc k hk j u hu⟩⟩

theorem Rd.take {A : Option Addr} {n c k : Nat} (h : Rd e w B (.slice A n c) l) (hk : k ≤ l.length) (c' : Nat) (hc' : k ≤ c') : Rd e w B (.slice A k c') (l.take k) := by
  obtain ⟨A', c0, hv, _, hA⟩ := h
  simp only [Value.slice.injEq] at hv
  obtain ⟨rfl, rfl, rfl⟩ := hv
  refine ⟨A, c', by rw [List.length_take, Nat.min_eq_left hk], by rw [List.length_take, Nat.min_eq_left hk]; exact hc', fun hl => ?_⟩
  rw [List.length_take, Nat.min_eq_left hk] at hl
  obtain ⟨b, o, hb, hlt, hc⟩ := hA (by omega)
  refine ⟨b, o, hb, hlt, fun i hi j u hu => ?_⟩
  rw [List.length_take, Nat.min_eq_left hk] at hi
  rw [List.getElem_take] at hu
  exact hc i (by omega) j u hu
theorem Rd.cap {A : Option Addr} {n c : Nat} (h : Rd e w B (.slice A n c) l) : l.length ≤ c := by
  obtain ⟨A', c0, hv, hc, _⟩ := h
  simp only [Value.slice.injEq] at hv
  rw [hv.2.2]
  exact hc
theorem Rd.nil (e : Enc α) (w : World) (B c : Nat) : Rd e w B (.slice none 0 c) [] := ⟨none, c, rfl, Nat.zero_le _, fun h => absurd h (by simp)⟩

/-- a slice of the call's own, with room for one list of cells more -/
theorem Ow.snoc {E : TypeId} {base : Nat} {x : α} (h : w.ownsRow base E e.sz v (l.length + 1) (l.flatMap e.cells ++ e.cells x)) : Ow e E w base v (l ++ [x]) := by
  unfold Ow
  rw [List.length_append, List.length_singleton, List.flatMap_append, List.flatMap_singleton]
  exact h

theorem Ow.below {E : TypeId} {base : Nat} (h : Ow e E w base v l) (hb : Below w.heap.size w w') : Ow e E w' base v l := by
  refine World.ownsRow.kept (row := none) h ⟨hb.os, hb.tape, hb.output, hb.size, fun k hk _ => hb.block k hk⟩ ?_
  cases hv : v.ownBlock with
  | none => exact .inl rfl
  | some g => exact .inr (by simp)

theorem Ow.more {E : TypeId} {base base' : Nat} (h : Ow e E w base v l) (hb : base' ≤ base) : Ow e E w base' v l := by
  obtain ⟨h1, h2⟩ := h
  refine ⟨h1, ?_⟩
  rcases h2 with h2 | ⟨g, cap, cur, hv, hg, r⟩
  · exact .inl h2
  · exact .inr ⟨g, cap, cur, hv, by omega, r⟩
end

theorem wSeq_own {E : TypeId} {sz base g cap : Nat} (n : Nat) : ∀ (us xs : List Value) (w : World) (i : Nat), w.ownsRow base E sz (.slice (some ⟨g, 0, none⟩) n cap) n xs →
    (wSeq w g i us).ownsRow base E sz (.slice (some ⟨g, 0, none⟩) n cap) n (setSeq xs i us) ∧ w.grownBy (wSeq w g i us) (some g)
  | [], xs, w, i, h => ⟨h, World.grownBy.refl w _⟩
  | u :: us, xs, w, i, h => by
    have h1 := World.ownsRow.stored h i u
    have h2 := wSeq_own n us _ _ (i + 1) h1.1
    exact ⟨h2.1, h1.2.trans h2.2⟩

/-- one element of the call's own slice is written -/
theorem Ow.put {α : Type} {e : Enc α} {E : TypeId} {w : World} {base g cap n : Nat} {l : List α} (h : Ow e E w base (.slice (some ⟨g, 0, none⟩) n cap) l) (hn : l.length = n) (k : Nat) (hk : k < n) (x : α) :
    Ow e E (wSeq w g (k * e.sz) (e.cells x)) base (.slice (some ⟨g, 0, none⟩) n cap) (l.set k x) ∧ w.grownBy (wSeq w g (k * e.sz) (e.cells x)) (some g) := by
  subst hn
  have := wSeq_own (cap := cap) l.length (e.cells x) _ w (k * e.sz) h
  rw [e.flat_put x l k hk] at this
  unfold Ow
  rw [List.length_set]
  exact this

theorem madeCells_flat {α : Type} (e : Enc α) (x : α) (n : Nat) (hsz : 0 < e.sz) : (madeCells (e.cells x).toArray (n * e.sz)).toList = (List.replicate n x).flatMap e.cells := by
  apply List.ext_getElem?
  intro i
  by_cases hi : i < n * e.sz
  · have hk : i / e.sz < n := Nat.div_lt_of_lt_mul (by rw [Nat.mul_comm]; exact hi)
    have hj : i % e.sz < e.sz := Nat.mod_lt _ hsz
    have hij : i / e.sz * e.sz + i % e.sz = i := by rw [Nat.mul_comm]; exact Nat.div_add_mod _ _
    have h1 := e.flat_get hj (List.replicate n x) (i / e.sz) (by simpa using hk)
    rw [hij] at h1
    rw [h1]
    have hl : i % e.sz < (e.cells x).length := by rw [e.len]; exact hj
    have hz : 0 < (e.cells x).length := by rw [e.len]; exact hsz
    simp [madeCells, hi, e.len, hj]
  · rw [List.getElem?_eq_none (by simp [madeCells]; omega), List.getElem?_eq_none (by rw [e.flat_length]; simp; omega)]

/-- a slice that make has made -/
theorem Ow.made {α : Type} (e : Enc α) (E : TypeId) (w : World) (x : α) (n : Nat) (hsz : 0 < e.sz) (hn : n ≤ maxLen) {z : Array Value} (hz : z = (e.cells x).toArray) {m : Nat} (hm : m = n * e.sz) :
    Ow e E (w.alloc (.cells (madeCells z m) E)) w.heap.size (.slice (some ⟨w.heap.size, 0, none⟩) n n) (List.replicate n x) := by
  subst hz; subst hm
  have := World.ownsRow_lit (base := w.heap.size) (e := E) (size := e.sz) w (madeCells (e.cells x).toArray (n * e.sz)) n (Nat.le_refl _) hn (size_madeCells _ _)
  rw [madeCells_flat e x n hsz] at this
  unfold Ow
  rw [List.length_replicate]
  exact this

theorem Ow.ne_ {α β : Type} {e : Enc α} {e' : Enc β} {E E' : TypeId} {w : World} {base base' : Nat} {v v' : Value} {l : List α} {l' : List β} (h : Ow e E w base v l) (h' : Ow e' E' w base' v' l') (hne : E ≠ E') :
    v.ownBlock = none ∨ v.ownBlock ≠ v'.ownBlock := by
  rcases h.2 with ⟨rfl, _⟩ | ⟨g, cap, cur, rfl, _, hh, _⟩
  · exact .inl rfl
  · rcases h'.2 with ⟨rfl, _⟩ | ⟨g', cap', cur', rfl, _, hh', _⟩
    · exact .inr (by simp [Value.ownBlock])
    · refine .inr (fun he => ?_)
      have : g = g' := by simpa [Value.ownBlock] using he
      subst this
      rw [hh] at hh'
      injection hh' with hh'
      injection hh' with _ ht
      exact hne ht
theorem Ow.grown {α : Type} {e : Enc α} {E : TypeId} {w w' : World} {base : Nat} {v : Value} {l : List α} {row : Option Nat} (h : Ow e E w base v l) (hg : w.grownBy w' row) (hne : v.ownBlock = none ∨ v.ownBlock ≠ row) : Ow e E w' base v l :=
  World.ownsRow.kept h hg hne

theorem news_new (w : World) (cs : Array Value) (T : TypeId) {g : Nat} (hg : g = w.heap.size) : ∀ j u, cs.toList[j]? = some u → (w.alloc (.cells cs T)).cell? ((⟨g, 0, none⟩ : Addr).add j) = some u := by
  subst hg
  intro j u hu
  have h : (w.alloc (.cells cs T)).cell? ⟨w.heap.size, j, none⟩ = cs[j]? := cell_of_row _ _ j cs T (0, 0) (heap_alloc_new w _)
  have e : ((⟨w.heap.size, 0, none⟩ : Addr).add j) = ⟨w.heap.size, j, none⟩ := by
    unfold Addr.add
    split <;> simp_all
  rw [e, h]
  simpa using hu

/-- one element is appended to a slice of the call's own -/
theorem wpList_push {α : Type} {P : Program} {ops : Array Oper} {rest : List Oper} {o : Oper} {a : Act} {Q : Exit → Act → World → Prop} {w : World} (e : Enc α) (hsz : 0 < e.sz) {base : Nat} {E t : TypeId} {i : TypeInfo} {z : Value} {bytes : Nat}
    (hgd : o.guard = none) (s x : Operand) (ho : o.op = .call { callee := .builtin .append, args := #[s, x], argTypes := #[t, t] })
    (ht : P.underlying t = some (.slice E)) (hi : P.info? E = some i) (hz : i.zero = some z) (hsize : i.size = e.sz) (hby : i.bytes = bytes) (hzs : z.cells.size = e.sz)
    {v : Value} {l : List α} (y : α) (hs : a.eval s = v) (hown : Ow e E w base v l) (ad : Addr) (c : Nat) (hx : a.eval x = .slice (some ad) 1 c) (hnews : ∀ j u, (e.cells y)[j]? = some u → w.cell? (ad.add j) = some u)
    (hlen : l.length ≤ 3000000) (hbytes : bytes ≤ 10000) (hbase : base ≤ w.heap.size)
    (h : ∀ v' w', Ow e E w' base v' (l ++ [y]) → w.grownBy w' v.ownBlock → wpList P ops Q rest (a.put o.dst v') w') : wpList P ops Q (o :: rest) a w := by
  refine wpList_append_own w hgd s x t ho base E i z e.sz bytes ht hi hz hsize hby hzs hsz v l.length (l.flatMap e.cells) hs hown ad 1 c (e.cells y) hx (by rw [e.len, Nat.one_mul]) hnews (e.one y) (by simp [maxLen]; omega) ?_ hbase ?_
  · have h1 : (l.length + 1) * bytes ≤ 3000001 * 10000 := Nat.mul_le_mul (by omega) hbytes
    omega
  · intro v' w' h1 h2 _
    exact h v' w' (Ow.snoc h1) h2

/-- an int in a cell -/
def intE : Enc Int := { cells := fun x => [.int .i64 x], sz := 1, len := fun _ => rfl, one := fun _ u hu => by simp at hu; subst hu; rfl }

theorem bcell {W w1 : World} (hb : Below W.heap.size W w1) : (∀ b o, b < W.heap.size → w1.cell? ⟨b, o, none⟩ = W.cell? ⟨b, o, none⟩) ∧ (∀ b o, b < W.heap.size → w1.frozen? ⟨b, o, none⟩ = W.frozen? ⟨b, o, none⟩) :=
  ⟨fun b o h => hb.cell (p := ⟨b, o, none⟩) h, fun b o h => hb.frozen (p := ⟨b, o, none⟩) h⟩

theorem bnext {w w1 w2 : World} (h : Below w.heap.size w w1) (k : Below w1.heap.size w1 w2) : Below w.heap.size w w2 := h.trans (k.mono h.size)

theorem bdrewN {B : Nat} {a w : World} (h : Below B a w) (n : Nat) : Below B a (w.drewN n) := ⟨h.os, h.tape, h.output, h.size, h.block⟩

/-- what a counting of sizes answers: -1, or what is left of the room -/
def SzPost (left : Int) (n : Nat) (w : World) (e : Ending) (w' : World) : Prop := ∃ r : Int, e = .returned (.int .i64 r) ∧ (r = -1 ∨ (0 ≤ r ∧ r + n ≤ left)) ∧ Below w.heap.size w w'

theorem ret_int {k : IntKind} {a b : Int} (h : a = b) : Ending.returned (.int k a) = .returned (.int k b) := by rw [h]
theorem ret_bool {a b : Bool} (h : a = b) : Ending.returned (.bool a) = .returned (.bool b) := by rw [h]

theorem mix_set {α : Type} (l : List α) (z : α) (k : Nat) (h : k < l.length) : (l.take k ++ List.replicate (l.length - k) z).set k l[k] = l.take (k + 1) ++ List.replicate (l.length - (k + 1)) z := by
  rw [List.set_append_right _ _ (by simp; omega), List.length_take, Nat.min_eq_left (Nat.le_of_lt h), Nat.sub_self, show l.length - k = (l.length - (k + 1)) + 1 from by omega, List.replicate_succ, List.set_cons_zero,
    List.take_succ_eq_append_getElem h, List.append_assoc, List.singleton_append]

theorem bytes_ne {a b : ByteArray} (h : ¬ a = b) : (a.toList == b.toList) = false := by
  rw [beq_eq_false_iff_ne]
  intro e
  rw [ByteArray.toList_eq, ByteArray.toList_eq] at e
  exact h (by cases a; cases b; simpa using e)

theorem take_snoc {α : Type} (l : List α) (k : Nat) (h : k < l.length) : l.take (k + 1) = l.take k ++ [l[k]] := by
  rw [List.take_succ_eq_append_getElem h]


/-! A region that draws its order, whose operations only read old memory and whose callees only make new memory and hand back values that do not depend on it: one walk serves. -/
/-- the worlds that may come behind w: what was there is as it was -/
def Later (w : World) : Type := { u : World // Below w.heap.size w u }
instance (w : World) : Nonempty (Later w) := ⟨⟨w, Below.refl _ _⟩⟩
theorem wp_region_pure {P : Program} {id : Nat} {Q : Exit → Act → World → Prop} {a : Act} {w : World} {l : List Oper} (hm : P.follows .mixedOrders = true) (hB : Region.lexB .any l.toArray = true)
    (h : wpQuiet P l.toArray (fun w' => ∃ u : Later w, w' = u.1) (fun a' => ∀ w', (∃ u : Later w, w' = u.1) → Q .normal a' w') l a) : (Code.region id l.toArray true).wp P Q a w :=
  wp_region_quiet (C := fun w' => ∃ u : Later w, w' = u.1) hm hB ⟨⟨w.drew, (Below.refl _ _).drew⟩, rfl⟩ (by simpa using h)
theorem later_cell (w : World) : ∀ (u : Later w) (b o : Nat), b < w.heap.size → (u.1).cell? ⟨b, o, none⟩ = w.cell? ⟨b, o, none⟩ := fun u b o h => u.2.cell (p := ⟨b, o, none⟩) h
theorem pure_of {P : Program} {f : FuncId} {args : Array Value} {w : World} {u : Later w} {v : Value}
    (h : Calls P f args u.1 fun e w' => e = .returned v ∧ Below u.1.heap.size u.1 w') : Calls P f args u.1 fun e w'' => e = .returned v ∧ ∃ u' : Later w, w'' = u'.1 :=
  h.mono fun _ _ ⟨he, hb⟩ => ⟨he, ⟨_, bnext u.2 hb⟩, rfl⟩
theorem pure_at {P : Program} {f : FuncId} {args : Array Value} {w : World} {u : Later w} {v : Value}
    (h : ∀ u : Later w, Calls P f args u.1 fun e w' => e = .returned v ∧ Below u.1.heap.size u.1 w') : Calls P f args u.1 fun e w'' => e = .returned v ∧ ∃ u' : Later w, w'' = u'.1 :=
  (h u).mono fun _ _ ⟨he, hb⟩ => ⟨he, ⟨_, bnext u.2 hb⟩, rfl⟩
theorem pure_same {P : Program} {f : FuncId} {args : Array Value} {w : World} {u : Later w} {v : Value}
    (h : ∀ u : Later w, Calls P f args u.1 fun e w' => e = .returned v ∧ u.1 = w') : Calls P f args u.1 fun e w'' => e = .returned v ∧ ∃ u' : Later w, w'' = u'.1 :=
  (h u).mono fun _ _ ⟨he, hb⟩ => ⟨he, u, hb.symm⟩
end Go.Proofs.Ytnaicippgocdfaa
end
section
namespace Go.Proofs.Ytnaicippgocdfaa
open Go.RowKit
set_option maxRecDepth 100000
set_option maxHeartbeats 400000

structure Edge where
  fr : Int
  to : Int
deriving DecidableEq, Inhabited

def edgeE : Enc Edge := { cells := fun s => [.int .i64 s.fr, .int .i64 s.to], sz := 2, len := fun _ => rfl, one := fun _ u hu => by simp at hu; rcases hu with rfl | rfl <;> rfl }
@[go_sem] def edgeV (s : Edge) : Value := .agg #[.int .i64 s.fr, .int .i64 s.to]

theorem Rd.edge {w : World} {B : Nat} {A : Option Addr} {n c : Nat} {l : List Edge} (h : Rd edgeE w B (.slice A n c) l) {k : Nat} (hk : k < l.length) :
    ∃ b o, A = some ⟨b, o, none⟩ ∧ b < B ∧ w.cell? ⟨b, o + k * 2, none⟩ = some (.int .i64 l[k].fr) ∧ w.cell? ⟨b, o + k * 2 + 1, none⟩ = some (.int .i64 l[k].to) := by
  obtain ⟨A', c', hv, _, hA⟩ := h
  obtain ⟨b, o, hA', hb, hc⟩ := hA (by omega)
  simp only [Value.slice.injEq] at hv
  obtain ⟨rfl, _, _⟩ := hv
  exact ⟨b, o, hA', hb, hc k hk 0 _ rfl, hc k hk 1 _ rfl⟩

theorem Ow.edge {E : TypeId} {w : World} {base g n cap : Nat} {l : List Edge} (h : Ow edgeE E w base (.slice (some ⟨g, 0, none⟩) n cap) l) {k : Nat} (hk : k < l.length) :
    w.cell? ⟨g, k * 2, none⟩ = some (.int .i64 l[k].fr) ∧ w.cell? ⟨g, k * 2 + 1, none⟩ = some (.int .i64 l[k].to) := by
  rcases h.form with ⟨h1, _⟩ | ⟨g', cap', hv, _, _, _, _, _, hc⟩
  · simp at h1
  · simp only [Value.slice.injEq, Option.some.injEq, Addr.mk.injEq, and_true] at hv
    obtain ⟨rfl, _, _⟩ := hv
    exact ⟨hc k hk 0 _ rfl, hc k hk 1 _ rfl⟩

theorem edge_info : (Try.prog.info? 52).map (fun i => (i.zero, i.size, i.bytes)) = some (some (edgeV ⟨0, 0⟩), 2, 16) := by kernel_rfl

end Go.Proofs.Ytnaicippgocdfaa
end
section
namespace Go.Proofs.Ytnaicippgocdfaa.Pg

/-- a way along edges; the list has the nodes that it comes to, one behind the other -/
inductive Way (es : List (Nat × Nat)) : Nat → List Nat → Nat → Prop
  | nil (a : Nat) : Way es a [] a
  | cons {a c b : Nat} {l : List Nat} : (a, c) ∈ es → Way es c l b → Way es a (c :: l) b

/-- b is reached from a by one edge or more -/
def Reach (es : List (Nat × Nat)) (a b : Nat) : Prop := ∃ l, l ≠ [] ∧ Way es a l b

theorem Way.split {es : List (Nat × Nat)} {x b : Nat} {l2 : List Nat} : ∀ {a : Nat} (l1 : List Nat), Way es a (l1 ++ x :: l2) b → Way es x l2 b
  | _, [], h => by cases h with | cons _ h => exact h
  | _, _ :: l1, h => by cases h with | cons _ h => exact Way.split l1 h

theorem Way.snoc {es : List (Nat × Nat)} {b c : Nat} : ∀ {a : Nat} {l : List Nat}, Way es a l b → (b, c) ∈ es → Way es a (l ++ [c]) c
  | _, _, .nil _, he => .cons he (.nil _)
  | _, _, .cons h1 h2, he => .cons h1 (h2.snoc he)

theorem Way.simple {es : List (Nat × Nat)} {b : Nat} : ∀ (l : List Nat) {a c : Nat}, Way es a (c :: l) b → ∃ l', Way es a (c :: l') b ∧ (c :: l').Nodup
  | [], _, _, h => ⟨[], h, by simp⟩
  | d :: l, a, c, h => by
    cases h with
    | cons h1 h2 =>
      obtain ⟨l', hw, hn⟩ := Way.simple l h2
      by_cases hc : c ∈ d :: l'
      · obtain ⟨l1, l2, he⟩ := List.append_of_mem hc
        rw [he] at hw hn
        refine ⟨l2, .cons h1 (hw.split l1), ?_⟩
        exact (List.nodup_append.1 hn).2.1
      · exact ⟨d :: l', .cons h1 hw, List.nodup_cons.2 ⟨hc, hn⟩⟩

theorem nodup_le : ∀ (T : Nat) (l : List Nat), l.Nodup → (∀ x ∈ l, x < T) → l.length ≤ T
  | 0, l, _, h => by
    cases l with
    | nil => simp
    | cons a l => exact absurd (h a (by simp)) (by omega)
  | T + 1, l, hn, h => by
    have h1 := nodup_le T (l.erase T) (hn.erase T) (fun x hx => by
      have hx' := (hn.mem_erase_iff).1 hx
      have := h x hx'.2
      have := hx'.1
      omega)
    have h2 : l.length ≤ (l.erase T).length + 1 := by
      rw [List.length_erase]
      split <;> omega
    omega

theorem Way.mem {es : List (Nat × Nat)} {b : Nat} {T : Nat} (hes : ∀ e ∈ es, e.2 < T) : ∀ {a : Nat} {l : List Nat}, Way es a l b → ∀ x ∈ l, x < T
  | _, _, .nil _ => by simp
  | _, _, .cons h1 h2 => by
    intro x hx
    rcases List.mem_cons.1 hx with rfl | hx
    · exact hes _ h1
    · exact h2.mem hes x hx

/-- a short way -/
theorem Reach.short {es : List (Nat × Nat)} {a b T : Nat} (hes : ∀ e ∈ es, e.2 < T) (h : Reach es a b) : ∃ l, l ≠ [] ∧ l.length ≤ T ∧ Way es a l b := by
  obtain ⟨l, hl, hw⟩ := h
  match l, hl, hw with
  | c :: l, _, hw =>
    obtain ⟨l', hw', hn⟩ := hw.simple l
    exact ⟨c :: l', by simp, nodup_le T _ hn (hw'.mem hes), hw'⟩

theorem Reach.one {es : List (Nat × Nat)} {a b : Nat} (h : (a, b) ∈ es) : Reach es a b := ⟨[b], by simp, .cons h (.nil _)⟩
theorem Reach.cons {es : List (Nat × Nat)} {a c b : Nat} (h : (a, c) ∈ es) (h' : Reach es c b) : Reach es a b := by
  obtain ⟨l, _, hw⟩ := h'
  exact ⟨c :: l, by simp, .cons h hw⟩
theorem Reach.snoc {es : List (Nat × Nat)} {a c b : Nat} (h' : Reach es a c) (h : (c, b) ∈ es) : Reach es a b := by
  obtain ⟨l, _, hw⟩ := h'
  exact ⟨l ++ [b], by simp, hw.snoc h⟩
theorem Way.append {es : List (Nat × Nat)} {b c : Nat} {l2 : List Nat} : ∀ {a : Nat} {l : List Nat}, Way es a l b → Way es b l2 c → Way es a (l ++ l2) c
  | _, _, .nil _, h => h
  | _, _, .cons h1 h2, h => .cons h1 (h2.append h)
theorem Reach.trans {es : List (Nat × Nat)} {a c b : Nat} (h : Reach es a c) (h' : Reach es c b) : Reach es a b := by
  obtain ⟨l, hl, hw⟩ := h
  obtain ⟨l', _, hw'⟩ := h'
  exact ⟨l ++ l', by simp [hl], hw.append hw'⟩

/-! The closure by rounds: o a is a set of nodes, as a number. -/
def wstep (o : List Nat) (e : Nat × Nat) : List Nat := o.set e.1 (o.getD e.1 0 ||| (1 <<< e.2 ||| o.getD e.2 0))
def wround (es : List (Nat × Nat)) (o : List Nat) : List Nat := es.foldl wstep o
def wrounds (es : List (Nat × Nat)) : Nat → List Nat → List Nat
  | 0, o => o
  | k + 1, o => wround es (wrounds es k o)

theorem wstep_length (o : List Nat) (e : Nat × Nat) : (wstep o e).length = o.length := by simp [wstep]
theorem wround_length (es : List (Nat × Nat)) : ∀ o : List Nat, (wround es o).length = o.length := by
  unfold wround
  induction es with
  | nil => intro o; rfl
  | cons e es ih => intro o; rw [List.foldl_cons, ih, wstep_length]
theorem wrounds_length (es : List (Nat × Nat)) (o : List Nat) : ∀ k, (wrounds es k o).length = o.length
  | 0 => rfl
  | k + 1 => by rw [wrounds, wround_length, wrounds_length es o k]

theorem bit_one (i b : Nat) : (1 <<< i).testBit b = decide (i = b) := by
  rw [Nat.shiftLeft_eq, Nat.one_mul, Nat.testBit_two_pow]

theorem wstep_get (o : List Nat) (e : Nat × Nat) (a : Nat) (h : e.1 < o.length) :
    (wstep o e).getD a 0 = if a = e.1 then o.getD e.1 0 ||| (1 <<< e.2 ||| o.getD e.2 0) else o.getD a 0 := by
  unfold wstep
  simp only [List.getD_eq_getElem?_getD, List.getElem?_set]
  by_cases ha : a = e.1
  · subst ha
    simp [h]
  · rw [if_neg (fun h => ha h.symm), if_neg ha]

theorem wstep_mono (o : List Nat) (e : Nat × Nat) (a b : Nat) (h : e.1 < o.length) (hb : (o.getD a 0).testBit b = true) : ((wstep o e).getD a 0).testBit b = true := by
  rw [wstep_get o e a h]
  split
  · rename_i ha
    subst ha
    rw [Nat.testBit_or, hb]; rfl
  · exact hb

theorem wround_mono (es : List (Nat × Nat)) : ∀ (o : List Nat) (a b : Nat), (∀ e ∈ es, e.1 < o.length) → (o.getD a 0).testBit b = true → ((wround es o).getD a 0).testBit b = true := by
  unfold wround
  induction es with
  | nil => intro o a b _ h; exact h
  | cons e es ih =>
    intro o a b h hb
    rw [List.foldl_cons]
    exact ih _ a b (fun e' he' => by rw [wstep_length]; exact h e' (by simp [he'])) (wstep_mono o e a b (h e (by simp)) hb)

/-- an edge of a round does its work -/
theorem wround_edge (es : List (Nat × Nat)) : ∀ (o : List Nat) (a c b : Nat), (∀ e ∈ es, e.1 < o.length) → (a, c) ∈ es → (c = b ∨ (o.getD c 0).testBit b = true) →
    ((wround es o).getD a 0).testBit b = true := by
  unfold wround
  induction es with
  | nil => intro o a c b _ h; simp at h
  | cons e es ih =>
    intro o a c b h hm hb
    rw [List.foldl_cons]
    have hl : ∀ e' ∈ es, e'.1 < (wstep o e).length := fun e' he' => by rw [wstep_length]; exact h e' (by simp [he'])
    rcases List.mem_cons.1 hm with he | hm
    · have h0 : ((wstep o e).getD a 0).testBit b = true := by
        rw [wstep_get o e a (h e (by simp)), if_pos (by rw [← he])]
        rw [Nat.testBit_or, Nat.testBit_or, bit_one]
        rcases hb with hb | hb
        · have : e.2 = b := by rw [← he]; exact hb
          simp [this]
        · have : e.2 = c := by rw [← he]
          rw [this, hb]; simp
      exact wround_mono es _ a b hl h0
    · refine ih _ a c b hl hm ?_
      rcases hb with hb | hb
      · exact .inl hb
      · exact .inr (wstep_mono o e c b (h e (by simp)) hb)

theorem wrounds_way (es : List (Nat × Nat)) (o : List Nat) (h : ∀ e ∈ es, e.1 < o.length) : ∀ (k : Nat) (a b : Nat) (l : List Nat), l ≠ [] → l.length ≤ k → Way es a l b → ((wrounds es k o).getD a 0).testBit b = true
  | 0, _, _, l, hl, hk, _ => by
    cases l with
    | nil => exact absurd rfl hl
    | cons x l => simp at hk
  | k + 1, a, b, l, hl, hk, hw => by
    cases hw with
    | nil => exact absurd rfl hl
    | cons h1 h2 =>
      rename_i c l
      rw [wrounds]
      refine wround_edge es _ a c b (by rw [wrounds_length]; exact h) h1 ?_
      cases l with
      | nil => cases h2; exact .inl rfl
      | cons d l => exact .inr (wrounds_way es o h k c b (d :: l) (by simp) (by simp at hk ⊢; omega) h2)

theorem wround_sound (es0 es : List (Nat × Nat)) (hsub : ∀ e ∈ es, e ∈ es0) : ∀ (o : List Nat), (∀ e ∈ es, e.1 < o.length) → (∀ a b, (o.getD a 0).testBit b = true → Reach es0 a b) →
    ∀ a b, ((wround es o).getD a 0).testBit b = true → Reach es0 a b := by
  unfold wround
  induction es with
  | nil => intro o _ h; exact h
  | cons e es ih =>
    intro o hl h
    rw [List.foldl_cons]
    refine ih (fun e' he' => hsub e' (by simp [he'])) _ (fun e' he' => by rw [wstep_length]; exact hl e' (by simp [he'])) ?_
    intro a b hb
    rw [wstep_get o e a (hl e (by simp))] at hb
    split at hb
    · rename_i ha
      subst ha
      rw [Nat.testBit_or, Nat.testBit_or, bit_one] at hb
      simp only [Bool.or_eq_true, decide_eq_true_eq] at hb
      rcases hb with hb | hb | hb
      · exact h _ _ hb
      · subst hb; exact .one (hsub e (by simp))
      · exact .cons (hsub e (by simp)) (h _ _ hb)
    · exact h _ _ hb

theorem wrounds_sound (es : List (Nat × Nat)) (T : Nat) (hl : ∀ e ∈ es, e.1 < T) : ∀ k a b, ((wrounds es k (List.replicate T 0)).getD a 0).testBit b = true → Reach es a b
  | 0, a, b, h => by
    simp [wrounds, List.getD_eq_getElem?_getD, List.getElem?_replicate] at h
    split at h <;> simp at h
  | k + 1, a, b, h => wround_sound es es (fun _ h => h) _ (by rw [wrounds_length]; simpa using hl) (wrounds_sound es T hl k) a b h

/-- what the rounds tell is what can be reached -/
theorem wrounds_iff (es : List (Nat × Nat)) (T : Nat) (h1 : ∀ e ∈ es, e.1 < T) (h2 : ∀ e ∈ es, e.2 < T) (a b : Nat) :
    ((wrounds es T (List.replicate T 0)).getD a 0).testBit b = true ↔ Reach es a b := by
  refine ⟨wrounds_sound es T h1 T a b, fun h => ?_⟩
  obtain ⟨l, hl, hT, hw⟩ := h.short h2
  exact wrounds_way es _ (by simpa using h1) T a b l hl hT hw

theorem wstep_lt (T : Nat) (o : List Nat) (e : Nat × Nat) (h2 : e.2 < T) (ho : ∀ x ∈ o, x < 2 ^ T) : ∀ x ∈ wstep o e, x < 2 ^ T := by
  have hg : ∀ a, o.getD a 0 < 2 ^ T := fun a => by
    rw [List.getD_eq_getElem?_getD]
    cases h : o[a]? with
    | none => exact Nat.two_pow_pos T
    | some y => exact ho y (List.mem_of_getElem? h)
  intro x hx
  unfold wstep at hx
  rcases List.mem_or_eq_of_mem_set hx with hx | hx
  · exact ho x hx
  · subst hx
    refine Nat.or_lt_two_pow (hg _) (Nat.or_lt_two_pow ?_ (hg _))
    rw [Nat.shiftLeft_eq, Nat.one_mul]
    exact Nat.pow_lt_pow_of_lt (by omega) h2

theorem wround_lt (T : Nat) (es : List (Nat × Nat)) : ∀ (o : List Nat), (∀ e ∈ es, e.2 < T) → (∀ x ∈ o, x < 2 ^ T) → ∀ x ∈ wround es o, x < 2 ^ T := by
  unfold wround
  induction es with
  | nil => intro o _ h; exact h
  | cons e es ih =>
    intro o h2 ho
    rw [List.foldl_cons]
    exact ih _ (fun e' he' => h2 e' (by simp [he'])) (wstep_lt T o e (h2 e (by simp)) ho)
theorem wrounds_lt (T : Nat) (es : List (Nat × Nat)) (o : List Nat) (h2 : ∀ e ∈ es, e.2 < T) (ho : ∀ x ∈ o, x < 2 ^ T) : ∀ k, ∀ x ∈ wrounds es k o, x < 2 ^ T
  | 0 => ho
  | k + 1 => wround_lt T es _ h2 (wrounds_lt T es o h2 ho k)

/-! The search by a list. -/
/-- what one edge does at a node x -/
def bstep (x : Nat) (s : List Bool × List Nat) (e : Nat × Nat) : List Bool × List Nat :=
  if e.1 = x ∧ s.1.getD e.2 true = false then (s.1.set e.2 true, s.2 ++ [e.2]) else s
def bnode (es : List (Nat × Nat)) (x : Nat) (s : List Bool × List Nat) : List Bool × List Nat := es.foldl (bstep x) s
/-- the state when h nodes of the list have been looked at -/
def bfs (es : List (Nat × Nat)) (T t : Nat) : Nat → List Bool × List Nat
  | 0 => (List.replicate T false, [t])
  | h + 1 => bnode es ((bfs es T t h).2.getD h 0) (bfs es T t h)

/-- what holds all the time -/
structure Binv (es : List (Nat × Nat)) (T t : Nat) (s : List Bool × List Nat) : Prop where
  size : s.1.length = T
  head : ∃ l, s.2 = t :: l ∧ l.Nodup ∧ (∀ y, y ∈ l ↔ s.1.getD y false = true)
  reach : ∀ y, s.1.getD y false = true → Reach es t y

theorem Binv.lt {es : List (Nat × Nat)} {T t : Nat} {s : List Bool × List Nat} (h : Binv es T t s) : s.2.length ≤ T + 1 := by
  obtain ⟨l, hl, hn, hm⟩ := h.head
  rw [hl, List.length_cons]
  have := nodup_le T l hn (fun x hx => by
    have := (hm x).1 hx
    rw [List.getD_eq_getElem?_getD] at this
    by_cases hx' : x < s.1.length
    · rw [h.size] at hx'; exact hx'
    · rw [List.getElem?_eq_none (by omega)] at this; simp at this)
  omega

theorem Binv.start (es : List (Nat × Nat)) (T t : Nat) : Binv es T t (List.replicate T false, [t]) := by
  refine ⟨by simp, ⟨[], rfl, by simp, fun y => ?_⟩, fun y => ?_⟩
  · simp [List.getD_eq_getElem?_getD, List.getElem?_replicate]; split <;> simp
  · simp [List.getD_eq_getElem?_getD, List.getElem?_replicate]; split <;> simp

theorem Binv.step {es : List (Nat × Nat)} {T t x : Nat} {s : List Bool × List Nat} (h : Binv es T t s) (hx : x ∈ s.2) (e : Nat × Nat) (he : e ∈ es) (h2 : e.2 < T) : Binv es T t (bstep x s e) := by
  unfold bstep
  split
  · rename_i hc
    obtain ⟨h1, hf⟩ := hc
    obtain ⟨l, hl, hn, hm⟩ := h.head
    have hlt : e.2 < s.1.length := by rw [h.size]; exact h2
    have hf' : s.1.getD e.2 false = false := by
      rw [List.getD_eq_getElem?_getD, List.getElem?_eq_getElem hlt] at hf ⊢
      simpa using hf
    have hg : ∀ y, (s.1.set e.2 true).getD y false = true ↔ y = e.2 ∨ s.1.getD y false = true := by
      intro y
      simp only [List.getD_eq_getElem?_getD, List.getElem?_set]
      by_cases hy : e.2 = y
      · subst hy; simp [hlt]
      · rw [if_neg hy]
        exact ⟨fun h => .inr h, fun h => h.resolve_left (fun h => hy h.symm)⟩
    have hr : Reach es t e.2 := by
      rw [hl] at hx
      rcases List.mem_cons.1 hx with rfl | hx
      · exact .one (by rw [← h1]; exact he)
      · exact (h.reach x ((hm x).1 hx)).snoc (by rw [← h1]; exact he)
    refine ⟨by simpa using h.size, ⟨l ++ [e.2], by simp [hl], ?_, fun y => ?_⟩, fun y hy => ?_⟩
    · rw [List.nodup_append]
      refine ⟨hn, by simp, ?_⟩
      intro a ha b hb hab
      simp only [List.mem_singleton] at hb
      rw [hab, hb] at ha
      rw [(hm _).1 ha] at hf'
      cases hf'
    · rw [hg]
      simp only [List.mem_append, List.mem_singleton, hm]
      exact Or.comm
    · rcases (hg y).1 hy with rfl | hy
      · exact hr
      · exact h.reach y hy
  · exact h

theorem bstep_mem {x y : Nat} {s : List Bool × List Nat} {e : Nat × Nat} (h : y ∈ s.2) : y ∈ (bstep x s e).2 := by
  unfold bstep
  split
  · simp [h]
  · exact h
theorem bstep_pre {x : Nat} {s : List Bool × List Nat} {e : Nat × Nat} : ∃ r, (bstep x s e).2 = s.2 ++ r := by
  unfold bstep
  split
  · exact ⟨[e.2], rfl⟩
  · exact ⟨[], by simp⟩
theorem bnode_pre (es : List (Nat × Nat)) (x : Nat) : ∀ s : List Bool × List Nat, ∃ r, (bnode es x s).2 = s.2 ++ r := by
  unfold bnode
  induction es with
  | nil => intro s; exact ⟨[], by simp⟩
  | cons e es ih =>
    intro s
    rw [List.foldl_cons]
    obtain ⟨r, hr⟩ := ih (bstep x s e)
    obtain ⟨r', hr'⟩ := bstep_pre (x := x) (s := s) (e := e)
    exact ⟨r' ++ r, by rw [hr, hr', List.append_assoc]⟩

theorem bnode_inv {es0 : List (Nat × Nat)} {T t x : Nat} (es : List (Nat × Nat)) : ∀ {s : List Bool × List Nat}, Binv es0 T t s → x ∈ s.2 → (∀ e ∈ es, e ∈ es0) → (∀ e ∈ es, e.2 < T) → Binv es0 T t (bnode es x s) := by
  unfold bnode
  induction es with
  | nil => intro s h _ _ _; exact h
  | cons e es ih =>
    intro s h hx hs h2
    rw [List.foldl_cons]
    exact ih (h.step hx e (hs e (by simp)) (h2 e (by simp))) (bstep_mem hx) (fun e' he' => hs e' (by simp [he'])) (fun e' he' => h2 e' (by simp [he']))

theorem bstep_keep {x y : Nat} {s : List Bool × List Nat} {e : Nat × Nat} (h : s.1.getD y false = true) : (bstep x s e).1.getD y false = true := by
  unfold bstep
  split
  · simp only [List.getD_eq_getElem?_getD, List.getElem?_set] at h ⊢
    by_cases hy : e.2 = y
    · subst hy
      by_cases hl : e.2 < s.1.length
      · simp [hl]
      · rw [List.getElem?_eq_none (by omega)] at h; simp at h
    · rw [if_neg hy]; exact h
  · exact h
theorem bnode_keep (es : List (Nat × Nat)) (x y : Nat) : ∀ s : List Bool × List Nat, s.1.getD y false = true → (bnode es x s).1.getD y false = true := by
  unfold bnode
  induction es with
  | nil => intro s h; exact h
  | cons e es ih => intro s h; rw [List.foldl_cons]; exact ih _ (bstep_keep h)
theorem bstep_length (x : Nat) (s : List Bool × List Nat) (e : Nat × Nat) : (bstep x s e).1.length = s.1.length := by
  unfold bstep
  split <;> simp
theorem bnode_length (es : List (Nat × Nat)) (x : Nat) : ∀ s : List Bool × List Nat, (bnode es x s).1.length = s.1.length := by
  unfold bnode
  induction es with
  | nil => intro s; rfl
  | cons e es ih => intro s; rw [List.foldl_cons, ih, bstep_length]

/-- when a node has been looked at, all that its edges lead to is marked -/
theorem bnode_edge (es : List (Nat × Nat)) (x y : Nat) : ∀ s : List Bool × List Nat, (∀ e ∈ es, e.2 < s.1.length) → (x, y) ∈ es → (bnode es x s).1.getD y false = true := by
  unfold bnode
  induction es with
  | nil => intro s _ h; simp at h
  | cons e es ih =>
    intro s hl hm
    rw [List.foldl_cons]
    rcases List.mem_cons.1 hm with he | hm
    · refine bnode_keep es x y _ ?_
      have hlt := hl e (by simp)
      have h1 : e.1 = x := by rw [← he]
      have h2 : e.2 = y := by rw [← he]
      unfold bstep
      split
      · rw [h2] at hlt ⊢
        simp [List.getD_eq_getElem?_getD, hlt]
      · rename_i hc
        rw [h2] at hc hlt
        simp only [h1, true_and] at hc
        rw [List.getD_eq_getElem?_getD, List.getElem?_eq_getElem hlt] at hc ⊢
        simpa using hc
    · exact ih _ (fun e' he' => by rw [bstep_length]; exact hl e' (by simp [he'])) hm

/-- h nodes of the list have been looked at -/
structure Bat (es : List (Nat × Nat)) (T t h : Nat) (s : List Bool × List Nat) : Prop where
  inv : Binv es T t s
  le : h ≤ s.2.length
  done : ∀ i x, i < h → s.2[i]? = some x → ∀ y, (x, y) ∈ es → s.1.getD y false = true

theorem Bat.start (es : List (Nat × Nat)) (T t : Nat) : Bat es T t 0 (List.replicate T false, [t]) :=
  ⟨.start es T t, Nat.zero_le _, fun i _ hi => absurd hi (by omega)⟩

theorem Bat.next {es : List (Nat × Nat)} {T t h : Nat} {s : List Bool × List Nat} (hb : Bat es T t h s) (h2 : ∀ e ∈ es, e.2 < T) {x : Nat} (hx : s.2[h]? = some x) : Bat es T t (h + 1) (bnode es x s) := by
  obtain ⟨r, hr⟩ := bnode_pre es x s
  have hlt : h < s.2.length := by
    rcases Nat.lt_or_ge h s.2.length with h' | h'
    · exact h'
    · rw [List.getElem?_eq_none h'] at hx; cases hx
  refine ⟨bnode_inv es hb.inv (List.mem_of_getElem? hx) (fun _ h => h) h2, by rw [hr]; simp; omega, fun i z hi' hiz y hy => ?_⟩
  rw [hr, List.getElem?_append_left (by omega)] at hiz
  rcases Nat.lt_or_eq_of_le (Nat.le_of_lt_succ hi') with hl | rfl
  · exact bnode_keep es _ y _ (hb.done i z hl hiz y hy)
  · have : x = z := Option.some.inj (hx.symm.trans hiz)
    subst this
    exact bnode_edge es x y _ (by rw [hb.inv.size]; exact h2) hy

/-- at the end the marks tell what can be reached -/
theorem Bat.iff {es : List (Nat × Nat)} {T t : Nat} {s : List Bool × List Nat} (hb : Bat es T t s.2.length s) (y : Nat) : s.1.getD y false = true ↔ Reach es t y := by
  refine ⟨hb.inv.reach y, fun hr => ?_⟩
  obtain ⟨l, hl, hn, hm⟩ := hb.inv.head
  have hclosed : ∀ x, x ∈ s.2 → ∀ y, (x, y) ∈ es → s.1.getD y false = true := by
    intro x hx y hy
    obtain ⟨i, hi⟩ := List.getElem?_of_mem hx
    exact hb.done i x (by
      rcases Nat.lt_or_ge i s.2.length with h' | h'
      · exact h'
      · rw [List.getElem?_eq_none h'] at hi; cases hi) hi y hy
  have key : ∀ (w : List Nat) (a : Nat), a ∈ s.2 → w ≠ [] → Way es a w y → s.1.getD y false = true := by
    intro w
    induction w with
    | nil => intro a _ h; exact absurd rfl h
    | cons c w ih =>
      intro a ha _ hw
      cases hw with
      | cons h1 h2 =>
        have hc := hclosed a ha c h1
        cases w with
        | nil => cases h2; exact hc
        | cons d w => exact ih c (by rw [hl]; exact List.mem_cons_of_mem _ ((hm c).2 hc)) (by simp) h2
  obtain ⟨w, hw, hway⟩ := hr
  exact key w t (by rw [hl]; simp) hw hway

end Go.Proofs.Ytnaicippgocdfaa.Pg
end
section
namespace Go.Proofs.Ytnaicippgocdfaa
open Go.RowKit
set_option maxRecDepth 100000

structure Plan where
  prio : Int
  most : Int
  wait : Int
  tasks : Int
  edges : List Edge
deriving DecidableEq, Inhabited

@[go_sem] abbrev planV (p : Plan) (ve : Value) : Value := .agg #[.int .i64 p.prio, .int .i64 p.most, .int .i64 p.wait, .int .i64 p.tasks, ve]

def natE : Enc Nat := { cells := fun x => [.int .i64 (x : Int)], sz := 1, len := fun _ => rfl, one := fun _ u hu => by simp at hu; subst hu; rfl }
def boolE : Enc Bool := { cells := fun x => [.bool x], sz := 1, len := fun _ => rfl, one := fun _ u hu => by simp at hu; subst hu; rfl }

def inB (n lo hi : Int) : Bool := decide (lo ≤ n) && decide (n ≤ hi)
theorem inB_iff {n lo hi : Int} : inB n lo hi = true ↔ lo ≤ n ∧ n ≤ hi := by simp [inB]

def manyOk (p : Plan) : Bool := inB p.tasks 1 12 && decide (p.edges.length ≤ 30) && inB p.prio 0 9 && inB p.most 1 5 && inB p.wait 1 20
def edgeIn (T : Int) (e : Edge) : Bool := inB e.fr 0 (T - 1) && inB e.to 0 (T - 1)
def esL (l : List Edge) : List (Nat × Nat) := l.map fun e => (e.fr.toNat, e.to.toNat)
def esOf (p : Plan) : List (Nat × Nat) := esL p.edges
def edgesIn (p : Plan) : Prop := ∀ e ∈ p.edges, edgeIn p.tasks e = true
def cyclic (p : Plan) : Prop := ∃ t, t < p.tasks.toNat ∧ Pg.Reach (esOf p) t t
open Classical in
noncomputable def planFault (p : Plan) : Int :=
  if manyOk p = false then 1 else if ¬ edgesIn p then 2 else if ¬ p.edges.Nodup then 3 else if cyclic p then 4 else 0

theorem planFault_zero {p : Plan} : planFault p = 0 ↔ manyOk p = true ∧ edgesIn p ∧ p.edges.Nodup ∧ ¬ cyclic p := by
  unfold planFault
  cases h1 : manyOk p
  · simp
  · by_cases h2 : edgesIn p <;> by_cases h3 : p.edges.Nodup <;> by_cases h4 : cyclic p <;> simp [h2, h3, h4]

theorem manyOk_tasks {p : Plan} (h : manyOk p = true) : 1 ≤ p.tasks ∧ p.tasks ≤ 12 := by
  simp only [manyOk, Bool.and_eq_true] at h
  exact inB_iff.1 h.1.1.1.1
theorem manyOk_edges {p : Plan} (h : manyOk p = true) : p.edges.length ≤ 30 := by
  simp only [manyOk, Bool.and_eq_true, decide_eq_true_eq] at h
  exact h.1.1.1.2
theorem edgesIn_get {p : Plan} (h : edgesIn p) {k : Nat} (hk : k < p.edges.length) : 0 ≤ p.edges[k].fr ∧ p.edges[k].fr < p.tasks ∧ 0 ≤ p.edges[k].to ∧ p.edges[k].to < p.tasks := by
  have := h _ (List.getElem_mem hk)
  simp only [edgeIn, Bool.and_eq_true, inB_iff] at this
  omega
theorem esL_length (l : List Edge) : (esL l).length = l.length := by simp [esL]
theorem esOf_lt {p : Plan} (h : edgesIn p) : (∀ e ∈ esOf p, e.1 < p.tasks.toNat) ∧ (∀ e ∈ esOf p, e.2 < p.tasks.toNat) := by
  have : ∀ e ∈ esOf p, e.1 < p.tasks.toNat ∧ e.2 < p.tasks.toNat := by
    intro e he
    simp only [esOf, esL, List.mem_map] at he
    obtain ⟨x, hx, rfl⟩ := he
    have := h x hx
    simp only [edgeIn, Bool.and_eq_true, inB_iff] at this
    simp only
    omega
  exact ⟨fun e he => (this e he).1, fun e he => (this e he).2⟩

theorem Rd.nat {w : World} {B : Nat} {A : Option Addr} {n c : Nat} {l : List Nat} (h : Rd natE w B (.slice A n c) l) {k : Nat} (hk : k < l.length) :
    ∃ b o, A = some ⟨b, o, none⟩ ∧ b < B ∧ w.cell? ⟨b, o + k, none⟩ = some (.int .i64 (l[k] : Int)) := by
  obtain ⟨A', c', hv, _, hA⟩ := h
  obtain ⟨b, o, hA', hb, hc⟩ := hA (by omega)
  simp only [Value.slice.injEq] at hv
  obtain ⟨rfl, _, _⟩ := hv
  exact ⟨b, o, hA', hb, by simpa [natE] using hc k hk 0 _ rfl⟩
theorem Rd.int {w : World} {B : Nat} {A : Option Addr} {n c : Nat} {l : List Int} (h : Rd intE w B (.slice A n c) l) {k : Nat} (hk : k < l.length) :
    ∃ b o, A = some ⟨b, o, none⟩ ∧ b < B ∧ w.cell? ⟨b, o + k, none⟩ = some (.int .i64 l[k]) := by
  obtain ⟨A', c', hv, _, hA⟩ := h
  obtain ⟨b, o, hA', hb, hc⟩ := hA (by omega)
  simp only [Value.slice.injEq] at hv
  obtain ⟨rfl, _, _⟩ := hv
  exact ⟨b, o, hA', hb, by simpa [intE] using hc k hk 0 _ rfl⟩
theorem Rd.bool {w : World} {B : Nat} {A : Option Addr} {n c : Nat} {l : List Bool} (h : Rd boolE w B (.slice A n c) l) {k : Nat} (hk : k < l.length) :
    ∃ b o, A = some ⟨b, o, none⟩ ∧ b < B ∧ w.cell? ⟨b, o + k, none⟩ = some (.bool l[k]) := by
  obtain ⟨A', c', hv, _, hA⟩ := h
  obtain ⟨b, o, hA', hb, hc⟩ := hA (by omega)
  simp only [Value.slice.injEq] at hv
  obtain ⟨rfl, _, _⟩ := hv
  exact ⟨b, o, hA', hb, by simpa [boolE] using hc k hk 0 _ rfl⟩

theorem Ow.one_ {α : Type} {e : Enc α} (hsz : e.sz = 1) {E : TypeId} {w : World} {base g n cap : Nat} {l : List α} (h : Ow e E w base (.slice (some ⟨g, 0, none⟩) n cap) l) {k : Nat} (hk : k < l.length) {u : Value} (hu : (e.cells l[k])[0]? = some u) :
    w.cell? ⟨g, k, none⟩ = some u := by
  rcases h.form with ⟨h1, _⟩ | ⟨g', cap', hv, _, _, _, _, _, hc⟩
  · simp at h1
  · simp only [Value.slice.injEq, Option.some.injEq, Addr.mk.injEq, and_true] at hv
    obtain ⟨rfl, _, _⟩ := hv
    have := hc k hk 0 u hu
    rw [hsz] at this
    simpa using this
theorem Ow.nat {E : TypeId} {w : World} {base g n cap : Nat} {l : List Nat} (h : Ow natE E w base (.slice (some ⟨g, 0, none⟩) n cap) l) {k : Nat} (hk : k < l.length) : w.cell? ⟨g, k, none⟩ = some (.int .i64 (l[k] : Int)) := h.one_ rfl hk rfl
theorem Ow.int {E : TypeId} {w : World} {base g n cap : Nat} {l : List Int} (h : Ow intE E w base (.slice (some ⟨g, 0, none⟩) n cap) l) {k : Nat} (hk : k < l.length) : w.cell? ⟨g, k, none⟩ = some (.int .i64 l[k]) := h.one_ rfl hk rfl
theorem Ow.bool {E : TypeId} {w : World} {base g n cap : Nat} {l : List Bool} (h : Ow boolE E w base (.slice (some ⟨g, 0, none⟩) n cap) l) {k : Nat} (hk : k < l.length) : w.cell? ⟨g, k, none⟩ = some (.bool l[k]) := h.one_ rfl hk rfl

theorem or_i64 (a b : Nat) (ha : a < 9223372036854775808) (hb : b < 9223372036854775808) : bits .or .i64 (a : Int) (b : Int) = ((a ||| b : Nat) : Int) := by
  have hx : a ||| b < 2 ^ 63 := Nat.or_lt_two_pow (by omega) (by omega)
  have h1 : (BitVec.ofInt 64 (a : Int)).toNat = a := by
    rw [BitVec.ofInt_natCast, BitVec.toNat_ofNat]; exact Nat.mod_eq_of_lt (by omega)
  have h2 : (BitVec.ofInt 64 (b : Int)).toNat = b := by
    rw [BitVec.ofInt_natCast, BitVec.toNat_ofNat]; exact Nat.mod_eq_of_lt (by omega)
  show IntKind.i64.wrap ((BitVec.ofInt 64 (a : Int) ||| BitVec.ofInt 64 (b : Int)).toNat : Int) = _
  rw [BitVec.toNat_or, h1, h2, IntKind.wrap_i64]
  generalize a ||| b = y at *
  have hy : y < 9223372036854775808 := hx
  clear h1 h2 hx
  rw [Int.emod_eq_of_lt (by omega) (by omega), Int.add_sub_cancel]
theorem and_i64 (a b : Nat) (ha : a < 9223372036854775808) (hb : b < 9223372036854775808) : bits .and .i64 (a : Int) (b : Int) = ((a &&& b : Nat) : Int) := by
  have hx : a &&& b < 2 ^ 63 := Nat.and_lt_two_pow _ (by omega)
  have h1 : (BitVec.ofInt 64 (a : Int)).toNat = a := by
    rw [BitVec.ofInt_natCast, BitVec.toNat_ofNat]; exact Nat.mod_eq_of_lt (by omega)
  have h2 : (BitVec.ofInt 64 (b : Int)).toNat = b := by
    rw [BitVec.ofInt_natCast, BitVec.toNat_ofNat]; exact Nat.mod_eq_of_lt (by omega)
  show IntKind.i64.wrap ((BitVec.ofInt 64 (a : Int) &&& BitVec.ofInt 64 (b : Int)).toNat : Int) = _
  rw [BitVec.toNat_and, h1, h2, IntKind.wrap_i64]
  generalize a &&& b = y at *
  have hy : y < 9223372036854775808 := hx
  clear h1 h2 hx
  omega
theorem bit_test (x k : Nat) (hx : x < 9223372036854775808) : (bits .and .i64 ((x : Int) / 2 ^ k) 1 == 1) = x.testBit k := by
  have e : ((x : Int) / 2 ^ k) = ((x >>> k : Nat) : Int) := by
    rw [Nat.shiftRight_eq_div_pow, Int.natCast_ediv, Int.natCast_pow]; rfl
  have hl : x >>> k < 9223372036854775808 := by
    rw [Nat.shiftRight_eq_div_pow]; exact Nat.lt_of_le_of_lt (Nat.div_le_self _ _) hx
  have ha := and_i64 (x >>> k) 1 hl (by omega)
  rw [e]
  rw [show (1 : Int) = ((1 : Nat) : Int) from rfl, ha]
  unfold Nat.testBit
  rw [Nat.and_comm 1, Nat.and_one_is_mod]
  rcases Nat.mod_two_eq_zero_or_one (x >>> k) with h | h <;> simp [h]
theorem shl_one (d : Nat) (hd : d < 63) : wrap64 ((2 : Int) ^ d) = ((1 <<< d : Nat) : Int) := by
  have h : 2 ^ d < 2 ^ 63 := Nat.pow_lt_pow_of_lt (by omega) hd
  have e : (2 : Int) ^ d = ((2 ^ d : Nat) : Int) := by rw [Int.natCast_pow]; rfl
  rw [e, Nat.shiftLeft_eq, Nat.one_mul]
  clear e
  generalize 2 ^ d = y at *
  unfold wrap64
  omega

/-- the world with a plan's variable laid -/
def planBox (T : TypeId) (p : Plan) (ve : Value) (w : World) : World := w.alloc (.cells #[.int .i64 p.prio, .int .i64 p.most, .int .i64 p.wait, .int .i64 p.tasks, ve] T)
theorem planBox_below (T : TypeId) (p : Plan) (ve : Value) (w : World) : Below w.heap.size w (planBox T p ve w) := (Below.refl _ _).alloc (Nat.le_refl _) _
theorem planBox_size (T : TypeId) (p : Plan) (ve : Value) (w : World) : (planBox T p ve w).heap.size = w.heap.size + 1 := by simp [planBox]
theorem planBox_cells {T : TypeId} {p : Plan} {ve : Value} {w wr : World} (hb : Below (planBox T p ve w).heap.size (planBox T p ve w) wr) :
    wr.cell? ⟨w.heap.size, 0, none⟩ = some (.int .i64 p.prio) ∧ wr.cell? ⟨w.heap.size, 1, none⟩ = some (.int .i64 p.most) ∧ wr.cell? ⟨w.heap.size, 2, none⟩ = some (.int .i64 p.wait) ∧
      wr.cell? ⟨w.heap.size, 3, none⟩ = some (.int .i64 p.tasks) ∧ wr.cell? ⟨w.heap.size, 4, none⟩ = some ve ∧ w.heap.size + 1 ≤ wr.heap.size ∧ Below w.heap.size w wr := by
  have hs := planBox_size T p ve w
  have h : ∀ j u, (planBox T p ve w).cell? ⟨w.heap.size, j, none⟩ = some u → wr.cell? ⟨w.heap.size, j, none⟩ = some u := fun j u hu => (hb.cell (p := ⟨w.heap.size, j, none⟩) (by rw [hs]; simp)).trans hu
  refine ⟨h 0 _ ?_, h 1 _ ?_, h 2 _ ?_, h 3 _ ?_, h 4 _ ?_, by rw [← hs]; exact hb.size, (planBox_below T p ve w).trans (hb.mono (by rw [hs]; omega))⟩
  all_goals simp [planBox, go_sem]
end Go.Proofs.Ytnaicippgocdfaa
end
section
namespace Go.Proofs.Ytnaicippgocdfaa
open Go.RowKit
set_option maxRecDepth 100000
set_option maxHeartbeats 1000000

/-- a plan of the call's own -/
def ToPlanPost (p : Plan) (w : World) (e : Ending) (w' : World) : Prop := ∃ v, e = .returned (planV p v) ∧ Ow edgeE 52 w' w.heap.size v p.edges ∧ Below w.heap.size w w'

end Go.Proofs.Ytnaicippgocdfaa
end
section
namespace Go.Proofs.Ytnaicippgocdfaa
open Go.RowKit
set_option maxRecDepth 100000

/-- the block that a slice lies in is from lo on and below hi -/
def Within (v : Value) (lo hi : Nat) : Prop := ∀ g, v.ownBlock = some g → lo ≤ g ∧ g < hi
theorem Ow.within {α : Type} {e : Enc α} {E : TypeId} {w : World} {base : Nat} {v : Value} {l : List α} (h : Ow e E w base v l) : Within v base w.heap.size := by
  intro g hg
  rcases h.form with ⟨rfl, _⟩ | ⟨g', cap, rfl, h1, h2, _⟩
  · simp [Value.ownBlock] at hg
  · have : g' = g := by simpa [Value.ownBlock] using hg
    omega
theorem Within.apart {v v' : Value} {a b c d : Nat} (h : Within v a b) (h' : Within v' c d) (hne : b ≤ c ∨ d ≤ a) : v.ownBlock = none ∨ v.ownBlock ≠ v'.ownBlock := by
  cases hv : v.ownBlock with
  | none => exact .inl rfl
  | some g =>
    refine .inr (fun e => ?_)
    have h1 := h g hv
    have h2 := h' g e.symm
    omega
theorem grown_of_below {w w' : World} (h : Below w.heap.size w w') (row : Option Nat) : w.grownBy w' row := ⟨h.os, h.tape, h.output, h.size, fun k hk _ => h.block k hk⟩

/-- block b is the variable of the plan p, whose edges' slice is v -/
structure BoxAt (b : Nat) (p : Plan) (v : Value) (w : World) : Prop where
  cells : w.cell? ⟨b, 0, none⟩ = some (.int .i64 p.prio) ∧ w.cell? ⟨b, 1, none⟩ = some (.int .i64 p.most) ∧ w.cell? ⟨b, 2, none⟩ = some (.int .i64 p.wait) ∧
    w.cell? ⟨b, 3, none⟩ = some (.int .i64 p.tasks) ∧ w.cell? ⟨b, 4, none⟩ = some v ∧ b < w.heap.size
  free : ∀ j, w.frozen? ⟨b, j, none⟩ = false

theorem BoxAt.lt {b : Nat} {p : Plan} {v : Value} {w : World} (h : BoxAt b p v w) : b < w.heap.size := h.cells.2.2.2.2.2
theorem BoxAt.new' (T : TypeId) (p : Plan) (v : Value) (w : World) {b : Nat} (hb : b = w.heap.size) : BoxAt b p v (w.alloc (.cells #[.int .i64 p.prio, .int .i64 p.most, .int .i64 p.wait, .int .i64 p.tasks, v] T)) := by
  subst hb
  refine ⟨⟨?_, ?_, ?_, ?_, ?_, by simp⟩, fun j => ?_⟩
  all_goals simp [go_sem]
theorem BoxAt.new (T : TypeId) (p : Plan) (v : Value) (w : World) : BoxAt w.heap.size p v (planBox T p v w) := BoxAt.new' T p v w rfl
theorem BoxAt.keep {b : Nat} {p : Plan} {v : Value} {w w' : World} (h : BoxAt b p v w) (hs : w.heap.size ≤ w'.heap.size) (hk : ∀ j, w'.cell? ⟨b, j, none⟩ = w.cell? ⟨b, j, none⟩) (hf : ∀ j, w'.frozen? ⟨b, j, none⟩ = w.frozen? ⟨b, j, none⟩) : BoxAt b p v w' := by
  obtain ⟨h0, h1, h2, h3, h4, h5⟩ := h.cells
  exact ⟨⟨(hk 0).trans h0, (hk 1).trans h1, (hk 2).trans h2, (hk 3).trans h3, (hk 4).trans h4, Nat.lt_of_lt_of_le h5 hs⟩, fun j => (hf j).trans (h.free j)⟩
theorem BoxAt.upto {B b : Nat} {p : Plan} {v : Value} {w w' : World} (h : BoxAt b p v w) (hb : Below B w w') (hlt : b < B) : BoxAt b p v w' :=
  h.keep hb.size (fun j => hb.cell (p := ⟨b, j, none⟩) hlt) (fun j => hb.frozen (p := ⟨b, j, none⟩) hlt)
theorem BoxAt.below {b : Nat} {p : Plan} {v : Value} {w w' : World} (h : BoxAt b p v w) (hb : Below w.heap.size w w') : BoxAt b p v w' := h.upto hb h.lt
theorem BoxAt.far {b : Nat} {p : Plan} {v : Value} {w w' : World} {row : Option Nat} (h : BoxAt b p v w) (hg : w.grownBy w' row) (hne : some b ≠ row) : BoxAt b p v w' :=
  h.keep hg.size (fun j => hg.cell_far ⟨b, j, none⟩ h.lt hne) (fun j => hg.frozen_far ⟨b, j, none⟩ h.lt hne)
theorem BoxAt.mark {b lo hi : Nat} {p : Plan} {v v' : Value} {w w' : World} (h : BoxAt b p v w) (hg : w.grownBy w' v'.ownBlock) (hi' : Within v' lo hi) (hne : b < lo ∨ hi ≤ b) : BoxAt b p v w' :=
  h.far hg (fun e => by
    have := hi' b e.symm
    omega)
theorem BoxAt.other {b : Nat} {p : Plan} {v : Value} {w : World} (h : BoxAt b p v w) {a : Addr} (hne : b ≠ a.block) (u : Value) : BoxAt b p v (w.setCell a u) :=
  h.keep (by simp [World.setCell]) (fun j => World.cell?_of_block (Below.heap_setCell w a u b hne)) (fun j => World.frozen?_of_block (Below.heap_setCell w a u b hne))
theorem BoxAt.setTasks {b : Nat} {p : Plan} {v : Value} {w : World} (h : BoxAt b p v w) (t : Int) : BoxAt b { p with tasks := t } v (w.setCell ⟨b, 3, none⟩ (.int .i64 t)) := by
  obtain ⟨h0, h1, h2, h3, h4, h5⟩ := h.cells
  have hf := h.free
  refine ⟨⟨?_, ?_, ?_, ?_, ?_, by simpa [World.setCell] using h5⟩, fun j => ?_⟩
  all_goals simp [go_sem, h0, h1, h2, h3, h4, hf]
theorem BoxAt.setEdges {b : Nat} {p : Plan} {v : Value} {w : World} (h : BoxAt b p v w) (l : List Edge) (v' : Value) : BoxAt b { p with edges := l } v' (w.setCell ⟨b, 4, none⟩ v') := by
  obtain ⟨h0, h1, h2, h3, h4, h5⟩ := h.cells
  have hf := h.free
  refine ⟨⟨?_, ?_, ?_, ?_, ?_, by simpa [World.setCell] using h5⟩, fun j => ?_⟩
  all_goals simp [go_sem, h0, h1, h2, h3, h4, hf]
theorem grown_setCell (w : World) (a : Addr) (u : Value) : w.grownBy (w.setCell a u) (some a.block) :=
  ⟨rfl, rfl, rfl, by simp [World.setCell], fun k _ hne => Below.heap_setCell w a u k (fun e => hne (by rw [e]))⟩
theorem Ow.setOther {α : Type} {e : Enc α} {E : TypeId} {w : World} {base : Nat} {v : Value} {l : List α} (h : Ow e E w base v l) {a : Addr} (hne : v.ownBlock ≠ some a.block) (u : Value) : Ow e E (w.setCell a u) base v l :=
  h.grown (grown_setCell w a u) (.inr hne)
/-- block b is the variable of the edge e -/
structure EdgeAt (b : Nat) (e : Edge) (w : World) : Prop where
  cells : w.cell? ⟨b, 0, none⟩ = some (.int .i64 e.fr) ∧ w.cell? ⟨b, 1, none⟩ = some (.int .i64 e.to) ∧ b < w.heap.size
theorem EdgeAt.new (T : TypeId) (e : Edge) (w : World) : EdgeAt w.heap.size e (w.alloc (.cells #[.int .i64 e.fr, .int .i64 e.to] T)) := by
  refine ⟨?_, ?_, by simp⟩
  all_goals simp [go_sem]
theorem EdgeAt.below {b : Nat} {e : Edge} {w w' : World} (h : EdgeAt b e w) (hb : Below w.heap.size w w') : EdgeAt b e w' := by
  obtain ⟨h0, h1, h2⟩ := h.cells
  exact ⟨(hb.cell (p := ⟨b, 0, none⟩) h2).trans h0, (hb.cell (p := ⟨b, 1, none⟩) h2).trans h1, Nat.lt_of_lt_of_le h2 hb.size⟩

theorem Ow.some_ {α : Type} {e : Enc α} {E : TypeId} {w : World} {base n c : Nat} {A : Option Addr} {l : List α} (h : Ow e E w base (.slice A n c) l) (hp : 0 < l.length) : ∃ g, A = some ⟨g, 0, none⟩ ∧ base ≤ g ∧ g < w.heap.size := by
  rcases h.form with ⟨_, e0⟩ | ⟨g, cap, e1, h1, h2, _⟩
  · rw [e0] at hp; simp at hp
  · simp only [Value.slice.injEq] at e1
    exact ⟨g, e1.1, h1, h2⟩

/-- the world with two plans' variables laid -/
def twoBox (T : TypeId) (p : Plan) (ve : Value) (q : Plan) (vf : Value) (w : World) : World := planBox T q vf (planBox T p ve w)
theorem twoBox_at (T : TypeId) (p : Plan) (ve : Value) (q : Plan) (vf : Value) (w : World) :
    BoxAt w.heap.size p ve (twoBox T p ve q vf w) ∧ BoxAt (w.heap.size + 1) q vf (twoBox T p ve q vf w) ∧ Below w.heap.size w (twoBox T p ve q vf w) := by
  refine ⟨(BoxAt.new T p ve w).below (planBox_below _ _ _ _), ?_, bnext (planBox_below T p ve w) (planBox_below _ _ _ _)⟩
  have := BoxAt.new T q vf (planBox T p ve w)
  rw [planBox_size] at this
  exact this
end Go.Proofs.Ytnaicippgocdfaa
end
section
namespace Go.Proofs.Ytnaicippgocdfaa
open Go.RowKit
set_option maxRecDepth 100000

section
variable {P : Program} (w : World)

theorem run_append_nothing (base : Nat) (t ty e : TypeId) (i : TypeInfo) (size : Nat) (ht : P.underlying t = some (.slice e)) (hi : P.info? e = some i)
    (v : Value) (n : Nat) (xs : List Value) (hown : w.ownsRow base e size v n xs) (c : Nat) : (Builtin.append_ #[t, t] ty #[v, .slice none 0 c]).run P w = .ok v w := by
  rcases hown.2 with ⟨rfl, rfl⟩ | ⟨g, cap, cur, rfl, _, _, hnc, _⟩
  · simp [Builtin.append_, run_underlying ht, sizeOf, typeInfo, hi, Builtin.lenOf, Builtin.firstCells]
  · simp [Builtin.append_, run_underlying ht, sizeOf, typeInfo, hi, Builtin.lenOf, Builtin.firstCells, hnc, storeCells]

theorem rd_news {α : Type} {e : Enc α} (hsz : 0 < e.sz) {w : World} {B : Nat} {A : Option Addr} {m c : Nat} {ys : List α} (hr : Rd e w B (.slice A m c) ys) : m = ys.length ∧ (0 < m → ∃ ad, A = some ad ∧ ∀ j u, (ys.flatMap e.cells)[j]? = some u → w.cell? (ad.add j) = some u) := by
  obtain ⟨A', c', hv, _, hA⟩ := hr
  simp only [Value.slice.injEq] at hv
  obtain ⟨rfl, rfl, rfl⟩ := hv
  refine ⟨rfl, fun hm => ?_⟩
  obtain ⟨b, o, rfl, hb, hc⟩ := hA hm
  refine ⟨⟨b, o, none⟩, rfl, fun j u hu => ?_⟩
  have hlt := (List.getElem?_eq_some_iff.1 hu).1
  rw [e.flat_length] at hlt
  have hk : j / e.sz < ys.length := Nat.div_lt_of_lt_mul (by rw [Nat.mul_comm]; exact hlt)
  have hj : j % e.sz < e.sz := Nat.mod_lt _ hsz
  have hij : j / e.sz * e.sz + j % e.sz = j := by rw [Nat.mul_comm]; exact Nat.div_add_mod _ _
  have h1 := e.flat_get hj ys (j / e.sz) hk
  rw [hij] at h1
  have h2 := hc (j / e.sz) hk (j % e.sz) u (by rw [← h1]; exact hu)
  have ea : (⟨b, o, none⟩ : Addr).add j = ⟨b, o + j / e.sz * e.sz + j % e.sz, none⟩ := by
    rw [Nat.add_assoc, hij]
    unfold Addr.add
    split <;> simp_all
  rw [ea]
  exact h2

theorem run_append_rd {α : Type} (e : Enc α) (hsz : 0 < e.sz) (base : Nat) (t ty E : TypeId) (i : TypeInfo) (z : Value) (bytes : Nat) (ht : P.underlying t = some (.slice E)) (hi : P.info? E = some i) (hz : i.zero = some z)
    (hsize : i.size = e.sz) (hby : i.bytes = bytes) (hzs : z.cells.size = e.sz)
    (v : Value) (l : List α) (hown : Ow e E w base v l)
    (B : Nat) (A : Option Addr) (m c : Nat) (ys : List α) (hr : Rd e w B (.slice A m c) ys)
    (hn : l.length ≤ 3000000) (hm : ys.length ≤ 3000000) (hbytes : bytes ≤ 10000) (hbase : base ≤ w.heap.size) :
    ∃ v' w', (Builtin.append_ #[t, t] ty #[v, .slice A m c]).run P w = .ok v' w' ∧ Ow e E w' base v' (l ++ ys) ∧ w.grownBy w' v.ownBlock ∧
      (v'.ownBlock = v.ownBlock ∨ v'.ownBlock = some w.heap.size) := by
  obtain ⟨rfl, hA⟩ := rd_news hsz hr
  have h0 : ∀ ad : Addr, A = some ad → ∀ j u, (ys.flatMap e.cells)[j]? = some u → w.cell? (ad.add j) = some u := by
    intro ad hAd j u hu
    rcases Nat.eq_zero_or_pos ys.length with hz0 | hpos
    · have : ys = [] := List.eq_nil_of_length_eq_zero hz0
      subst this
      simp at hu
    · obtain ⟨ad', hA', hc⟩ := hA hpos
      rw [hA'] at hAd
      injection hAd with hAd
      subst hAd
      exact hc j u hu
  rcases A with _ | ad
  · have hm0 : ys = [] := by
      rcases Nat.eq_zero_or_pos ys.length with h1 | h1
      · exact List.eq_nil_of_length_eq_zero h1
      · obtain ⟨_, h2, _⟩ := hA h1
        cases h2
    subst hm0
    exact ⟨v, w, run_append_nothing w base t ty E i e.sz ht hi v l.length (l.flatMap e.cells) hown c, by simpa using hown, World.grownBy.refl w _, .inl rfl⟩
  · have h1 : ∀ u ∈ ys.flatMap e.cells, u.oneCell' = true := by
      intro u hu
      obtain ⟨y, _, hy⟩ := List.mem_flatMap.1 hu
      exact e.one y u hy
    have hb2 : (l.length + ys.length) * bytes ≤ 6000000 * 10000 := Nat.mul_le_mul (by omega) hbytes
    obtain ⟨v', w', hrun, h2, h3, _, h5⟩ := run_append_own_at (P := P) w base t ty E i z e.sz bytes ht hi hz hsize hby hzs hsz v l.length (l.flatMap e.cells) hown ad ys.length c (ys.flatMap e.cells) (e.flat_length ys) (h0 ad rfl) h1 (by simp [maxLen]; omega) (by omega) hbase
    refine ⟨v', w', hrun, ?_, h3, h5⟩
    unfold Ow
    rw [List.length_append, List.flatMap_append]
    exact h2

theorem wp_append_rd {α : Type} {o : Oper} {a : Act} {K : Act → World → Prop} {Q : Exit → Act → World → Prop} (e : Enc α) (hsz : 0 < e.sz) (s x : Operand) (t : TypeId)
    (ho : o.op = .call { callee := .builtin .append, args := #[s, x], argTypes := #[t, t] })
    (base : Nat) (E : TypeId) (i : TypeInfo) (z : Value) (bytes : Nat) (ht : P.underlying t = some (.slice E)) (hi : P.info? E = some i) (hz : i.zero = some z)
    (hsize : i.size = e.sz) (hby : i.bytes = bytes) (hzs : z.cells.size = e.sz)
    (v : Value) (l : List α) (hs : a.eval s = v) (hown : Ow e E w base v l)
    (B : Nat) (A : Option Addr) (m c : Nat) (ys : List α) (hx : a.eval x = .slice A m c) (hr : Rd e w B (.slice A m c) ys)
    (hn : l.length ≤ 3000000) (hm : ys.length ≤ 3000000) (hbytes : bytes ≤ 10000) (hbase : base ≤ w.heap.size)
    (h : ∀ v' w', Ow e E w' base v' (l ++ ys) → w.grownBy w' v.ownBlock → (v'.ownBlock = v.ownBlock ∨ v'.ownBlock = some w.heap.size) → K (a.put o.dst v') w') : o.wp P a w K Q := by
  obtain ⟨v', w', hrun, h2, h3, h4⟩ := run_append_rd (P := P) w e hsz base t o.type E i z bytes ht hi hz hsize hby hzs v l hown B A m c ys hr hn hm hbytes hbase
  unfold Oper.wp execOp
  simp only [ho, resolve, invoke, builtin, Sem.run_bind, Sem.run_pure, Result.andThen_ok, List.map_toArray, List.map_cons, List.map_nil, hs, hx, hrun]
  exact h v' w' h2 h3 h4

/-- all of a slice is appended to one of the call's own -/
theorem wpList_push_all {α : Type} {ops : Array Oper} {rest : List Oper} {o : Oper} {a : Act} {Q : Exit → Act → World → Prop} (e : Enc α) (hsz : 0 < e.sz) (hgd : o.guard = none) (s x : Operand) {t : TypeId}
    (ho : o.op = .call { callee := .builtin .append, args := #[s, x], argTypes := #[t, t] })
    {base : Nat} {E : TypeId} {i : TypeInfo} {z : Value} {bytes : Nat} (ht : P.underlying t = some (.slice E)) (hi : P.info? E = some i) (hz : i.zero = some z)
    (hsize : i.size = e.sz) (hby : i.bytes = bytes) (hzs : z.cells.size = e.sz)
    {v : Value} {l : List α} (hs : a.eval s = v) (hown : Ow e E w base v l)
    {B : Nat} {A : Option Addr} {m c : Nat} {ys : List α} (hx : a.eval x = .slice A m c) (hr : Rd e w B (.slice A m c) ys)
    (hn : l.length ≤ 3000000) (hm : ys.length ≤ 3000000) (hbytes : bytes ≤ 10000) (hbase : base ≤ w.heap.size)
    (h : ∀ v' w', Ow e E w' base v' (l ++ ys) → w.grownBy w' v.ownBlock → (v'.ownBlock = v.ownBlock ∨ v'.ownBlock = some w.heap.size) → wpList P ops Q rest (a.put o.dst v') w') : wpList P ops Q (o :: rest) a w :=
  wpList_plain hgd fun _ hK => wp_append_rd w e hsz s x t ho base E i z bytes ht hi hz hsize hby hzs v l hs hown B A m c ys hx hr hn hm hbytes hbase fun v' w' h2 h3 h4 => hK _ _ (h v' w' h2 h3 h4)

/-- the same at a step of a region that draws its order -/
theorem step_push_all {α : Type} {ops : Array Oper} {o : Oper} {a : Act} {K : Act → World → Prop} {Q : Exit → Act → World → Prop} {EE : Prop} (e : Enc α) (hsz : 0 < e.sz) (hgd : o.guard = none) (s x : Operand) {t : TypeId}
    (ho : o.op = .call { callee := .builtin .append, args := #[s, x], argTypes := #[t, t] })
    {base : Nat} {E : TypeId} {i : TypeInfo} {z : Value} {bytes : Nat} (ht : P.underlying t = some (.slice E)) (hi : P.info? E = some i) (hz : i.zero = some z)
    (hsize : i.size = e.sz) (hby : i.bytes = bytes) (hzs : z.cells.size = e.sz)
    {v : Value} {l : List α} (hs : a.eval s = v) (hown : Ow e E w base v l)
    {B : Nat} {A : Option Addr} {m c : Nat} {ys : List α} (hx : a.eval x = .slice A m c) (hr : Rd e w B (.slice A m c) ys)
    (hn : l.length ≤ 3000000) (hm : ys.length ≤ 3000000) (hbytes : bytes ≤ 10000) (hbase : base ≤ w.heap.size)
    (h : ∀ v' w', Ow e E w' base v' (l ++ ys) → w.grownBy w' v.ownBlock → (v'.ownBlock = v.ownBlock ∨ v'.ownBlock = some w.heap.size) → K (a.put o.dst v') w') :
    if Region.wanted o (yielded ops a.tmps) = true then Oper.wp P o a w K Q else EE := by
  have hw : Region.wanted o (yielded ops a.tmps) = true := by simp [Region.wanted, hgd]
  rw [if_pos hw]
  exact wp_append_rd w e hsz s x t ho base E i z bytes ht hi hz hsize hby hzs v l hs hown B A m c ys hx hr hn hm hbytes hbase h
end

/-- one element that was just laid -/
theorem Rd.one {α : Type} (e : Enc α) (w : World) (T : TypeId) (x : α) {g : Nat} (hg : g = w.heap.size) {cs : Array Value} (hcs : cs = (e.cells x).toArray) (c : Nat) (hc : 1 ≤ c) {B : Nat} (hB : g < B) : Rd e (w.alloc (.cells cs T)) B (.slice (some ⟨g, 0, none⟩) 1 c) [x] := by
  refine ⟨_, c, rfl, by simpa using hc, fun _ => ⟨g, 0, rfl, hB, fun k hk j u hu => ?_⟩⟩
  have hk0 : k = 0 := by simpa using hk
  subst hk0
  simp only [List.getElem_cons_zero] at hu
  have := news_new w cs T hg j u (by rw [hcs]; simpa using hu)
  have ea : (⟨g, 0, none⟩ : Addr).add j = ⟨g, 0 + 0 * e.sz + j, none⟩ := by
    unfold Addr.add
    split <;> simp_all
  rw [ea] at this
  exact this

/-- a slice of no element that is not nil -/
theorem Ow.empty {α : Type} (e : Enc α) (E : TypeId) (w : World) {g : Nat} (hg : g = w.heap.size) : Ow e E (w.alloc (.cells #[] E)) g (.slice (some ⟨g, 0, none⟩) 0 0) [] := by
  subst hg
  exact World.ownsRow_lit (base := w.heap.size) (e := E) (size := e.sz) w #[] 0 (Nat.le_refl _) (by simp [maxLen]) (by simp)
end Go.Proofs.Ytnaicippgocdfaa
end
section
namespace Go.Proofs.Ytnaicippgocdfaa
open Go.ChangeShapes Go.WideShapes Go.ChangeAt Go.RowKit Go.Deep
set_option maxRecDepth 100000

section
variable {H : Type} {enc : TypeId × Value → H} {P : Program} {w : World} {spare : Nat → Bool} {held : Bool}

theorem read_slice {α : Type} [Inhabited α] (E : Enc α) (ok : α → Prop) {t e : TypeId} {fuel : Nat} {cs : List Value} {x : DataW H × List MemPlace} (ht : P.underlying t = some (.slice e)) (hsz : P.cellsOf e = E.sz) (hpos : 0 < E.sz)
    (hel : ∀ n cs' y, DataW.trod enc P w 0 spare held n e cs' = some y → ∃ z : α, cs' = E.cells z ∧ ok z)
    (h : DataW.trod enc P w 0 spare held fuel t cs = some x) : ∃ (v : Value) (l : List α), cs = [v] ∧ Rd E w w.heap.size v l ∧ (∀ z ∈ l, ok z) ∧ l.length ≤ maxLen := by
  rcases open_slice ht h with ⟨rfl, _⟩ | ⟨a, len, cap, m, n, D, Pl, rfl, _, hl, hm, hmm, _, hi⟩
  · exact ⟨_, [], rfl, ⟨none, 0, rfl, by simp, fun h => absurd h (by simp)⟩, by simp, by simp⟩
  · have hlm : len ≤ m := by rw [hmm]; split <;> omega
    have hsp0 : 0 < len → a.spot = none ∧ a.block < w.heap.size := by
      intro h0l
      obtain ⟨cs', hc, ht'⟩ := hi 0 (by omega)
      obtain ⟨z, rfl, hz⟩ := hel _ _ _ ht'
      rw [hsz] at hc
      obtain ⟨_, hlen, hat⟩ := World.cells?_some hc
      have h0 := hat 0 hpos
      have e0 : (a.add (0 * E.sz)).add 0 = a := by simp [Addr.add]
      rw [e0, List.getElem?_eq_getElem (by rw [E.len]; exact hpos)] at h0
      refine ⟨World.cell?_spot h0, ?_⟩
      rcases Nat.lt_or_ge a.block w.heap.size with hlt | hge
      · exact hlt
      · unfold World.cell? at h0
        rw [Array.getElem?_eq_none hge] at h0
        simp at h0
    have each : ∀ i, i < len → ∃ z : α, ok z ∧ ∀ j u, (E.cells z)[j]? = some u → w.cell? ⟨a.block, a.off + i * E.sz + j, none⟩ = some u := by
      intro i hil
      have hsp := (hsp0 (by omega)).1
      obtain ⟨cs', hc, ht'⟩ := hi i (by omega)
      obtain ⟨z, rfl, hz⟩ := hel _ _ _ ht'
      rw [hsz] at hc
      obtain ⟨_, hlen, hat⟩ := World.cells?_some hc
      have hadd : ∀ j, ((a.add (i * E.sz)).add j) = ⟨a.block, a.off + i * E.sz + j, none⟩ := by
        intro j
        obtain ⟨ab, ao, sp⟩ := a
        simp only at hsp
        subst hsp
        unfold Addr.add
        by_cases h1 : i * E.sz = 0 <;> by_cases h2 : j = 0 <;> simp [h1, h2]
      refine ⟨z, hz, fun j u hu => ?_⟩
      have hj : j < E.sz := by
        have := (List.getElem?_eq_some_iff.1 hu).1
        rw [E.len] at this
        exact this
      rw [← hadd, hat j hj]
      exact hu
    obtain ⟨f, hf⟩ := choose_lt each
    refine ⟨_, (List.range len).map f, rfl, ⟨some a, cap, by simp, by simpa using hl, fun hp => ?_⟩, ?_, by simp; omega⟩
    · simp only [List.length_map, List.length_range] at hp
      obtain ⟨hsp, hb⟩ := hsp0 hp
      refine ⟨a.block, a.off, by rw [← hsp], hb, fun k hk j u hu => ?_⟩
      simp only [List.length_map, List.length_range] at hk
      simp only [List.getElem_map, List.getElem_range] at hu
      exact (hf k hk).2 j u hu
    · intro z hz
      simp only [List.mem_map, List.mem_range] at hz
      obtain ⟨i, hi', rfl⟩ := hz
      exact (hf i hi').1

/-- an int64 -/
def Wf (x : Int) : Prop := -9223372036854775808 ≤ x ∧ x ≤ 9223372036854775807
theorem wf_of {x : Int} (h : (Lit.int .i64 x).wf = true) : Wf x := by
  simp [Lit.wf, IntKind.min, IntKind.max, IntKind.signed, IntKind.bits] at h
  exact ⟨by omega, by omega⟩
end
end Go.Proofs.Ytnaicippgocdfaa
end
section
namespace Go.Proofs.Ytnaicippgocdfaa
open Go.RowKit
set_option maxRecDepth 100000

/-- the head of a slice -/
structure Sl where
  a : Option Addr
  n : Nat
  c : Nat
abbrev Sl.v (s : Sl) : Value := .slice s.a s.n s.c

/-- nothing but the blocks of F has changed; what is new lies behind -/
structure Chg (F : List Nat) (w w' : World) : Prop where
  os : w'.os = w.os
  tape : w'.tape = w.tape
  output : w'.output = w.output
  size : w.heap.size ≤ w'.heap.size
  block : ∀ b, b < w.heap.size → b ∉ F → w'.heap[b]? = w.heap[b]?
theorem Chg.refl (F : List Nat) (w : World) : Chg F w w := ⟨rfl, rfl, rfl, Nat.le_refl _, fun _ _ _ => rfl⟩
theorem Chg.trans {F : List Nat} {a b c : World} (h : Chg F a b) (k : Chg F b c) : Chg F a c :=
  ⟨k.os.trans h.os, k.tape.trans h.tape, k.output.trans h.output, Nat.le_trans h.size k.size, fun i hi hn => (k.block i (Nat.lt_of_lt_of_le hi h.size) hn).trans (h.block i hi hn)⟩
theorem Chg.mono {F G : List Nat} {a b : World} (h : Chg F a b) (hs : ∀ x ∈ F, x ∈ G) : Chg G a b := ⟨h.os, h.tape, h.output, h.size, fun i hi hn => h.block i hi (fun hx => hn (hs i hx))⟩
theorem Chg.of_below {a b : World} (F : List Nat) (h : Below a.heap.size a b) : Chg F a b := ⟨h.os, h.tape, h.output, h.size, fun i hi _ => h.block i hi⟩
theorem Chg.below {F : List Nat} {a b : World} (h : Chg F a b) {base : Nat} (hb : base ≤ a.heap.size) (hF : ∀ x ∈ F, base ≤ x) : Below base a b :=
  ⟨h.os, h.tape, h.output, h.size, fun i hi => h.block i (by omega) (fun hx => by have := hF i hx; omega)⟩
theorem Chg.setCell (w : World) (b o : Nat) (u : Value) : Chg [b] w (w.setCell ⟨b, o, none⟩ u) :=
  ⟨rfl, rfl, rfl, by simp [World.setCell], fun i _ hn => Below.heap_setCell w ⟨b, o, none⟩ u i (by simpa using hn)⟩
theorem Chg.grown {F : List Nat} {a b : World} {row : Option Nat} (h : a.grownBy b row) (hr : ∀ g, row = some g → g ∈ F) : Chg F a b :=
  ⟨h.os, h.tape, h.output, h.size, fun i hi hn => h.block i hi (fun e => hn (hr i e.symm))⟩
theorem Chg.cell {F : List Nat} {w w' : World} (h : Chg F w w') {p : Addr} (hp : p.block < w.heap.size) (hn : p.block ∉ F) : w'.cell? p = w.cell? p := World.cell?_of_block (h.block _ hp hn)
theorem Chg.frozen {F : List Nat} {w w' : World} (h : Chg F w w') {p : Addr} (hp : p.block < w.heap.size) (hn : p.block ∉ F) : w'.frozen? p = w.frozen? p := World.frozen?_of_block (h.block _ hp hn)

section
variable {α : Type} {e : Enc α} {w w' : World} {B B' : Nat} {v : Value} {l : List α} {F G : List Nat}

/-- the blocks that a slice takes -/
def blocks (v : Value) (n : Nat) : List Nat := if n = 0 then [] else v.ownBlock.toList
theorem blocks_nodup (v : Value) (n : Nat) : (blocks v n).Nodup := by
  unfold blocks
  split
  · exact List.nodup_nil
  · cases v.ownBlock <;> simp
/-- v reads as l, and what it reads may be written -/
def Hw (e : Enc α) (w : World) (F : List Nat) (v : Value) (l : List α) : Prop := Rd e w w.heap.size v l ∧ F = blocks v l.length ∧ ∀ g ∈ F, ∀ j, w.frozen? ⟨g, j, none⟩ = false

theorem Rd.block_lt {A : Option Addr} {n c : Nat} (h : Rd e w B (.slice A n c) l) : ∀ b ∈ blocks (.slice A n c) l.length, b < B := by
  intro b hb
  obtain ⟨A', c', hv, _, hA⟩ := h
  simp only [Value.slice.injEq] at hv
  obtain ⟨rfl, rfl, rfl⟩ := hv
  unfold blocks at hb
  split at hb
  · cases hb
  · obtain ⟨b', o', rfl, hlt, _⟩ := hA (by omega)
    simp [Value.ownBlock] at hb
    omega
theorem Rd.keepF (h : Rd e w B v l) (hB : B ≤ B') (hk : ∀ b ∈ blocks v l.length, ∀ o, w'.cell? ⟨b, o, none⟩ = w.cell? ⟨b, o, none⟩) : Rd e w' B' v l := by
  obtain ⟨A, c, rfl, hcap, hA⟩ := h
  refine ⟨A, c, rfl, hcap, fun hl => ?_⟩
  obtain ⟨b, o, rfl, hlt, hc⟩ := hA hl
  refine ⟨b, o, rfl, by omega, fun k hk' j u hu => ?_⟩
  rw [hk b (by unfold blocks; rw [if_neg (by omega)]; simp [Value.ownBlock])]
  exact hc k hk' j u hu
theorem Rd.to_lt (h : Rd e w B v l) (hB : ∀ b ∈ blocks v l.length, b < B') : Rd e w B' v l := by
  obtain ⟨A, c, rfl, hcap, hA⟩ := h
  refine ⟨A, c, rfl, hcap, fun hl => ?_⟩
  obtain ⟨b, o, rfl, hlt, hc⟩ := hA hl
  exact ⟨b, o, rfl, hB b (by unfold blocks; rw [if_neg (by omega)]; simp [Value.ownBlock]), hc⟩
theorem Hw.lt (h : Hw e w F v l) : ∀ b ∈ F, b < w.heap.size := by
  obtain ⟨hr, rfl, _⟩ := h
  obtain ⟨A, c, rfl, _⟩ := id hr
  exact hr.block_lt
theorem Hw.nodup (h : Hw e w F v l) : F.Nodup := by
  obtain ⟨_, rfl, _⟩ := h
  exact blocks_nodup _ _
theorem Hw.keep (h : Hw e w F v l) (hs : w.heap.size ≤ w'.heap.size) (hk : ∀ b ∈ F, w'.heap[b]? = w.heap[b]?) : Hw e w' F v l := by
  obtain ⟨hr, rfl, hf⟩ := h
  refine ⟨hr.keepF hs (fun b hb o => World.cell?_of_block (hk b hb)), rfl, fun g hg j => ?_⟩
  rw [World.frozen?_of_block (w := w) (hk g hg)]
  exact hf g hg j
theorem Hw.chg (h : Hw e w F v l) (hc : Chg G w w') (hd : ∀ b ∈ F, b ∉ G) : Hw e w' F v l := h.keep hc.size fun b hb => hc.block b (h.lt b hb) (hd b hb)
theorem Hw.below (h : Hw e w F v l) (hb : Below w.heap.size w w') : Hw e w' F v l := h.keep hb.size fun b hF => hb.block b (h.lt b hF)
theorem Hw.rd (h : Hw e w F v l) : Rd e w w.heap.size v l := h.1
theorem Hw.of_ow {E : TypeId} {base : Nat} (h : Ow e E w base v l) : Hw e w (blocks v l.length) v l ∧ ∀ b ∈ blocks v l.length, base ≤ b := by
  have hr := Rd.of_own h
  rcases h.form with ⟨rfl, rfl⟩ | ⟨g, cap, rfl, h1, h2, _, _, hf, _⟩
  · exact ⟨⟨hr, rfl, fun g hg => by simp [blocks] at hg⟩, fun b hb => by simp [blocks] at hb⟩
  · have hb : ∀ b ∈ blocks (.slice (some ⟨g, 0, none⟩) l.length cap) l.length, b = g := by
      intro b hb
      unfold blocks at hb
      split at hb
      · cases hb
      · simpa [Value.ownBlock] using hb
    exact ⟨⟨hr, rfl, fun b hb' j => by rw [hb b hb']; exact hf j⟩, fun b hb' => by rw [hb b hb']; exact h1⟩
theorem Hw.nil (e : Enc α) (w : World) (A : Option Addr) (c : Nat) : Hw e w [] (.slice A 0 c) [] :=
  ⟨⟨A, c, rfl, Nat.zero_le _, fun h => absurd h (by simp)⟩, by simp [blocks], fun _ h => by cases h⟩
/-- where the slice lies, and what it holds -/
theorem Hw.at_ {A : Option Addr} {n c : Nat} (h : Hw e w F (.slice A n c) l) (hp : 0 < l.length) : ∃ b o, A = some ⟨b, o, none⟩ ∧ F = [b] ∧ b < w.heap.size ∧ (∀ j, w.frozen? ⟨b, j, none⟩ = false) := by
  obtain ⟨hr, hF, hf⟩ := h
  obtain ⟨A', c', hv, _, hA⟩ := id hr
  simp only [Value.slice.injEq] at hv
  obtain ⟨rfl, rfl, rfl⟩ := hv
  obtain ⟨b, o, rfl, hlt, _⟩ := hA hp
  have hFb : F = [b] := by
    rw [hF]
    unfold blocks
    rw [if_neg (by omega)]
    rfl
  exact ⟨b, o, rfl, hFb, hlt, fun j => hf b (by rw [hFb]; simp) j⟩
end

theorem wSeq_chg : ∀ (us : List Value) (w : World) (b i : Nat), Chg [b] w (wSeq w b i us)
  | [], w, b, _ => Chg.refl [b] w
  | u :: us, w, b, i => (Chg.setCell w b i u).trans (wSeq_chg us _ b (i + 1))
theorem wSeq_size : ∀ (us : List Value) (w : World) (b i : Nat), (wSeq w b i us).heap.size = w.heap.size
  | [], _, _, _ => rfl
  | u :: us, w, b, i => by
    rw [wSeq, wSeq_size us]
    simp [World.setCell]
theorem setCell_cell (w : World) (b o i : Nat) (u u0 : Value) (h0 : w.cell? ⟨b, o, none⟩ = some u0) (hi : ∃ x, w.cell? ⟨b, i, none⟩ = some x) :
    (w.setCell ⟨b, i, none⟩ u).cell? ⟨b, o, none⟩ = some (if o = i then u else u0) := by
  by_cases h : o = i
  · subst h
    rw [if_pos rfl]
    obtain ⟨x, hx⟩ := hi
    simp [go_sem, hx]
  · rw [if_neg h]
    have := h0
    simp [go_sem, this]
/-- cells of one block after some, one behind the other, were written -/
theorem wSeq_cell : ∀ (us : List Value) (w : World) (b i o : Nat) (u0 : Value), (∀ j, j < us.length → ∃ x, w.cell? ⟨b, i + j, none⟩ = some x) → w.cell? ⟨b, o, none⟩ = some u0 →
    (wSeq w b i us).cell? ⟨b, o, none⟩ = some (if h : i ≤ o ∧ o < i + us.length then us[o - i]'(by omega) else u0)
  | [], w, b, i, o, u0, _, h0 => by
    rw [wSeq, h0, dif_neg (by simp)]
  | u :: us, w, b, i, o, u0, hx, h0 => by
    have h1 := setCell_cell w b o i u u0 h0 (by simpa using hx 0 (by simp))
    have h2 := wSeq_cell us (w.setCell ⟨b, i, none⟩ u) b (i + 1) o _ (fun j hj => by
      obtain ⟨x, hx'⟩ := hx (j + 1) (by simpa using hj)
      exact ⟨_, setCell_cell w b (i + 1 + j) i u x (by rw [show i + 1 + j = i + (j + 1) from by omega]; exact hx') (by simpa using hx 0 (by simp))⟩) h1
    rw [wSeq, h2]
    congr 1
    by_cases ho : o = i
    · subst ho
      rw [dif_neg (by omega), if_pos rfl, dif_pos (by simp)]
      simp
    · by_cases hin : i + 1 ≤ o ∧ o < i + 1 + us.length
      · rw [dif_pos hin, dif_pos (by simp only [List.length_cons]; omega)]
        have : o - i = (o - (i + 1)) + 1 := by omega
        simp only [this, List.getElem_cons_succ]
      · rw [dif_neg hin, if_neg ho, dif_neg (by simp only [List.length_cons]; omega)]
theorem setCell_frozen (w : World) (a : Addr) (u : Value) (p : Addr) : (w.setCell a u).frozen? p = w.frozen? p := by simp [go_sem]
theorem wSeq_frozen : ∀ (us : List Value) (w : World) (b i : Nat) (p : Addr), (wSeq w b i us).frozen? p = w.frozen? p
  | [], _, _, _, _ => rfl
  | u :: us, w, b, i, p => by rw [wSeq, wSeq_frozen us, setCell_frozen]

/-- a part of one element's cells is written -/
theorem Rd.part {α : Type} {e : Enc α} {w : World} {B b o n c : Nat} {l : List α} (h : Rd e w B (.slice (some ⟨b, o, none⟩) n c) l) (k : Nat) (hk : k < l.length) (y : α) (off : Nat) (us : List Value) (hoff : off + us.length ≤ e.sz)
    (hin : ∀ j (hj : j < us.length), (e.cells y)[off + j]? = some us[j]) (hout : ∀ j, j < e.sz → (j < off ∨ off + us.length ≤ j) → (e.cells y)[j]? = (e.cells l[k])[j]?) :
    Rd e (wSeq w b (o + k * e.sz + off) us) B (.slice (some ⟨b, o, none⟩) n c) (l.set k y) := by
  obtain ⟨A', c', hv, hcap, hA⟩ := h
  simp only [Value.slice.injEq] at hv
  obtain ⟨rfl, rfl, rfl⟩ := hv
  refine ⟨_, c, by rw [List.length_set], by rw [List.length_set]; exact hcap, fun _ => ?_⟩
  obtain ⟨b', o', he, hlt, hc⟩ := hA (by omega)
  simp only [Option.some.injEq, Addr.mk.injEq, and_true] at he
  obtain ⟨rfl, rfl⟩ := he
  refine ⟨b, o, rfl, hlt, fun i hi0 j u hu => ?_⟩
  have hi : i < l.length := by rw [List.length_set] at hi0; exact hi0
  have hj : j < e.sz := by
    have := (List.getElem?_eq_some_iff.1 hu).1
    rw [e.len] at this
    exact this
  have hex : ∀ j', j' < us.length → ∃ x, w.cell? ⟨b, o + k * e.sz + off + j', none⟩ = some x := fun j' hj' => by
    have hlt' : off + j' < (e.cells l[k]).length := by rw [e.len]; omega
    exact ⟨_, by rw [Nat.add_assoc]; exact hc k hk (off + j') _ (List.getElem?_eq_getElem hlt')⟩
  by_cases hik : i = k
  · subst hik
    rw [List.getElem_set_self] at hu
    have hl0 : j < (e.cells l[i]).length := by rw [e.len]; exact hj
    have h0 := hc i hi j _ (List.getElem?_eq_getElem hl0)
    have h1 := wSeq_cell us w b (o + i * e.sz + off) (o + i * e.sz + j) _ hex h0
    rw [h1]
    by_cases hr : off ≤ j ∧ j < off + us.length
    · rw [dif_pos (by omega)]
      have h2 := hin (j - off) (by omega)
      rw [show off + (j - off) = j from by omega, hu] at h2
      have h3 : o + i * e.sz + j - (o + i * e.sz + off) = j - off := by omega
      simp only [h3]
      exact h2.symm
    · rw [dif_neg (by omega)]
      have h2 := hout j hj (by omega)
      rw [hu, List.getElem?_eq_getElem hl0] at h2
      exact h2.symm
  · rw [List.getElem_set_ne (by omega)] at hu
    have h0 := hc i hi j u hu
    have h1 := wSeq_cell us w b (o + k * e.sz + off) (o + i * e.sz + j) _ hex h0
    rw [h1, dif_neg]
    intro hh
    rcases Nat.lt_or_gt_of_ne hik with h | h
    · have : (i + 1) * e.sz ≤ k * e.sz := Nat.mul_le_mul_right _ h
      rw [Nat.succ_mul] at this
      omega
    · have : (k + 1) * e.sz ≤ i * e.sz := Nat.mul_le_mul_right _ h
      rw [Nat.succ_mul] at this
      omega
/-- another datum with the same cells -/
theorem Rd.same {α : Type} {e : Enc α} {w : World} {B : Nat} {v : Value} {l : List α} (h : Rd e w B v l) (k : Nat) (hk : k < l.length) (y : α) (hy : e.cells y = e.cells l[k]) : Rd e w B v (l.set k y) := by
  obtain ⟨A, c, rfl, hcap, hA⟩ := h
  refine ⟨A, c, by rw [List.length_set], by rw [List.length_set]; exact hcap, fun hl => ?_⟩
  rw [List.length_set] at hl
  obtain ⟨b, o, hb, hlt, hc⟩ := hA hl
  refine ⟨b, o, hb, hlt, fun i hi0 j u hu => ?_⟩
  have hi : i < l.length := by rw [List.length_set] at hi0; exact hi0
  refine hc i hi j u ?_
  by_cases hik : k = i
  · subst hik
    rw [List.getElem_set_self, hy] at hu
    exact hu
  · rw [List.getElem_set_ne hik] at hu
    exact hu

/-- a kind of data: how the own cells lie, what the slices in them read, what of it is owned -/
structure Dt (α : Type) where
  S : Type
  enc : Enc (α × S)
  rd : World → Nat → α → S → Prop
  ow : World → List Nat → α → S → Prop
  rd_keep : ∀ {w w' : World} {B B' : Nat} {x : α} {s : S}, rd w B x s → B ≤ B' → (∀ p : Addr, p.block < B → w'.cell? p = w.cell? p) → rd w' B' x s
  ow_keep : ∀ {w w' : World} {F : List Nat} {x : α} {s : S}, ow w F x s → w.heap.size ≤ w'.heap.size → (∀ b ∈ F, w'.heap[b]? = w.heap[b]?) → ow w' F x s
  ow_lt : ∀ {w : World} {F : List Nat} {x : α} {s : S}, ow w F x s → ∀ b ∈ F, b < w.heap.size
  ow_rd : ∀ {w : World} {F : List Nat} {x : α} {s : S}, ow w F x s → rd w w.heap.size x s
  ow_nodup : ∀ {w : World} {F : List Nat} {x : α} {s : S}, ow w F x s → F.Nodup

section
variable {α : Type} {d : Dt α} {w w' : World} {B B' : Nat} {v : Value} {l : List α} {F G : List Nat}

/-- v is a slice that reads as l, below block B -/
def RdL (d : Dt α) (w : World) (B : Nat) (v : Value) (l : List α) : Prop := ∃ rs : List (α × d.S), rs.map (·.1) = l ∧ Rd d.enc w B v rs ∧ ∀ r ∈ rs, d.rd w B r.1 r.2
theorem RdL.keep (h : RdL d w B v l) (hB : B ≤ B') (hk : ∀ p : Addr, p.block < B → w'.cell? p = w.cell? p) : RdL d w' B' v l := by
  obtain ⟨rs, hm, hr, ha⟩ := h
  exact ⟨rs, hm, (hr.keep hk).more hB, fun r hx => d.rd_keep (ha r hx) hB hk⟩
theorem RdL.below (h : RdL d w B v l) (hb : Below B w w') : RdL d w' B v l := h.keep (Nat.le_refl _) fun _ hp => hb.cell hp
theorem RdL.more (h : RdL d w B v l) (hB : B ≤ B') : RdL d w B' v l := h.keep hB fun _ _ => rfl
theorem RdL.form (h : RdL d w B v l) : ∃ A c, v = .slice A l.length c ∧ l.length ≤ c := by
  obtain ⟨rs, rfl, ⟨A, c, hv, hc, _⟩, _⟩ := h
  exact ⟨A, c, by rw [List.length_map]; exact hv, by rw [List.length_map]; exact hc⟩
theorem RdL.at_ {A : Option Addr} {n c : Nat} (h : RdL d w B (.slice A n c) l) (k : Nat) (hk : k < l.length) : ∃ b o s, A = some ⟨b, o, none⟩ ∧ b < B ∧
    (∀ j u, (d.enc.cells (l[k], s))[j]? = some u → w.cell? ⟨b, o + k * d.enc.sz + j, none⟩ = some u) ∧ d.rd w B l[k] s := by
  obtain ⟨rs, rfl, ⟨A', c', hv, _, hA⟩, ha⟩ := h
  simp only [Value.slice.injEq] at hv
  obtain ⟨rfl, _, _⟩ := hv
  rw [List.length_map] at hk
  obtain ⟨b, o, hA', hb, hc⟩ := hA (by omega)
  have e : (rs.map (·.1))[k]'(by rw [List.length_map]; exact hk) = rs[k].1 := by rw [List.getElem_map]
  refine ⟨b, o, rs[k].2, hA', hb, fun j u hu => ?_, ?_⟩
  · rw [e] at hu
    exact hc k hk j u hu
  · rw [e]
    exact ha _ (List.getElem_mem hk)

/-- each of the raw elements is owned, by the blocks of F -/
inductive Ows (d : Dt α) (w : World) : List Nat → List (α × d.S) → Prop
  | nil : Ows d w [] []
  | cons {F G : List Nat} {r : α × d.S} {rs : List (α × d.S)} : d.ow w F r.1 r.2 → Ows d w G rs → Ows d w (F ++ G) (r :: rs)
theorem Ows.keep {rs : List (α × d.S)} (h : Ows d w F rs) (hs : w.heap.size ≤ w'.heap.size) (hk : ∀ b ∈ F, w'.heap[b]? = w.heap[b]?) : Ows d w' F rs := by
  induction h with
  | nil => exact .nil
  | cons h1 _ ih => exact .cons (d.ow_keep h1 hs fun b hb => hk b (List.mem_append_left _ hb)) (ih fun b hb => hk b (List.mem_append_right _ hb))
theorem Ows.lt {rs : List (α × d.S)} (h : Ows d w F rs) : ∀ b ∈ F, b < w.heap.size := by
  induction h with
  | nil => intro b hb; cases hb
  | cons h1 _ ih =>
    intro b hb
    rcases List.mem_append.1 hb with hb | hb
    · exact d.ow_lt h1 b hb
    · exact ih b hb
theorem Ows.rd {rs : List (α × d.S)} (h : Ows d w F rs) : ∀ r ∈ rs, d.rd w w.heap.size r.1 r.2 := by
  induction h with
  | nil => intro r hr; cases hr
  | cons h1 _ ih =>
    intro r hr
    rcases List.mem_cons.1 hr with rfl | hr
    · exact d.ow_rd h1
    · exact ih r hr
theorem Ows.append {rs ts : List (α × d.S)} (h : Ows d w F rs) (k : Ows d w G ts) : Ows d w (F ++ G) (rs ++ ts) := by
  induction h with
  | nil => exact k
  | cons h1 _ ih =>
    rw [List.append_assoc]
    exact .cons h1 ih
theorem Ows.one {r : α × d.S} (h : d.ow w F r.1 r.2) : Ows d w F [r] := by
  have := Ows.cons h (Ows.nil (d := d) (w := w))
  rwa [List.append_nil] at this
theorem Ows.split {rs : List (α × d.S)} (h : Ows d w F rs) (k : Nat) (hk : k ≤ rs.length) : ∃ F1 F2, F = F1 ++ F2 ∧ Ows d w F1 (rs.take k) ∧ Ows d w F2 (rs.drop k) := by
  induction h generalizing k with
  | nil => exact ⟨[], [], rfl, by simpa using Ows.nil, by simpa using Ows.nil⟩
  | @cons F G r rs h1 h2 ih =>
    cases k with
    | zero => exact ⟨[], F ++ G, rfl, by simpa using Ows.nil, by simpa using Ows.cons h1 h2⟩
    | succ k =>
      obtain ⟨F1, F2, rfl, h3, h4⟩ := ih k (by simpa using hk)
      exact ⟨F ++ F1, F2, by rw [List.append_assoc], by simpa using Ows.cons h1 h3, by simpa using h4⟩
theorem Ows.head {r : α × d.S} {rs : List (α × d.S)} (h : Ows d w F (r :: rs)) : ∃ F1 F2, F = F1 ++ F2 ∧ d.ow w F1 r.1 r.2 ∧ Ows d w F2 rs := by
  cases h with
  | cons h1 h2 => exact ⟨_, _, rfl, h1, h2⟩

/-- v is a slice of the call's own, with all that it leads to, in the blocks F -/
def OwL (d : Dt α) (w : World) (F : List Nat) (v : Value) (l : List α) : Prop :=
  ∃ (rs : List (α × d.S)) (H G : List Nat), rs.map (·.1) = l ∧ Hw d.enc w H v rs ∧ Ows d w G rs ∧ F = H ++ G ∧ F.Nodup
theorem OwL.keep (h : OwL d w F v l) (hs : w.heap.size ≤ w'.heap.size) (hk : ∀ b ∈ F, w'.heap[b]? = w.heap[b]?) : OwL d w' F v l := by
  obtain ⟨rs, H, G, hm, hh, ho, rfl, hn⟩ := h
  exact ⟨rs, H, G, hm, hh.keep hs fun b hb => hk b (List.mem_append_left _ hb), ho.keep hs fun b hb => hk b (List.mem_append_right _ hb), rfl, hn⟩
theorem OwL.lt (h : OwL d w F v l) : ∀ b ∈ F, b < w.heap.size := by
  obtain ⟨rs, H, G, hm, hh, ho, rfl, hn⟩ := h
  intro b hb
  rcases List.mem_append.1 hb with hb | hb
  · exact hh.lt b hb
  · exact ho.lt b hb
theorem OwL.nodup (h : OwL d w F v l) : F.Nodup := by
  obtain ⟨rs, H, G, hm, hh, ho, rfl, hn⟩ := h
  exact hn
theorem OwL.rd (h : OwL d w F v l) : RdL d w w.heap.size v l := by
  obtain ⟨rs, H, G, hm, hh, ho, rfl, hn⟩ := h
  exact ⟨rs, hm, hh.rd, ho.rd⟩
theorem OwL.chg (h : OwL d w F v l) (hc : Chg G w w') (hd : ∀ b ∈ F, b ∉ G) : OwL d w' F v l := h.keep hc.size fun b hb => hc.block b (h.lt b hb) (hd b hb)
theorem OwL.below (h : OwL d w F v l) (hb : Below w.heap.size w w') : OwL d w' F v l := h.keep hb.size fun b hF => hb.block b (h.lt b hF)
theorem OwL.nil (d : Dt α) (w : World) (A : Option Addr) (c : Nat) : OwL d w [] (.slice A 0 c) [] := ⟨[], [], [], rfl, Hw.nil _ _ _ _, .nil, rfl, List.nodup_nil⟩
theorem OwL.form (h : OwL d w F v l) : ∃ A c, v = .slice A l.length c ∧ l.length ≤ c := h.rd.form

/-- lists of them are data again -/
@[reducible] def Dt.list (d : Dt α) : Dt (List α) where
  S := Sl
  enc := { cells := fun p => [p.2.v], sz := 1, len := fun _ => rfl, one := fun p u hu => by simp at hu; subst hu; rfl }
  rd w B l s := RdL d w B s.v l
  ow w F l s := OwL d w F s.v l
  rd_keep h hB hk := h.keep hB hk
  ow_keep h hs hk := h.keep hs hk
  ow_lt h := h.lt
  ow_rd h := h.rd
  ow_nodup h := h.nodup
/-- lists of flat data -/
@[reducible] def Dt.flats (e : Enc α) : Dt (List α) where
  S := Sl
  enc := { cells := fun p => [p.2.v], sz := 1, len := fun _ => rfl, one := fun p u hu => by simp at hu; subst hu; rfl }
  rd w B l s := Rd e w B s.v l
  ow w F l s := Hw e w F s.v l
  rd_keep h hB hk := (h.keep hk).more hB
  ow_keep h hs hk := h.keep hs hk
  ow_lt h := h.lt
  ow_rd h := h.rd
  ow_nodup h := h.nodup
/-- data with no slice in it -/
@[reducible] def Dt.flat {β : Type} (cells : β × Unit → List Value) (sz : Nat) (len : ∀ x, (cells x).length = sz) (one : ∀ x, ∀ u ∈ cells x, u.oneCell' = true) : Dt β where
  S := Unit
  enc := { cells := cells, sz := sz, len := len, one := one }
  rd _ _ _ _ := True
  ow _ F _ _ := F = []
  rd_keep _ _ _ := trivial
  ow_keep h _ _ := h
  ow_lt h := by subst h; intro b hb; cases hb
  ow_rd _ := trivial
  ow_nodup h := by subst h; exact List.nodup_nil
/-- data with one datum of another kind in it -/
@[reducible] def Dt.via {β : Type} (d : Dt α) (f : β → α) (cells : β × d.S → List Value) (sz : Nat) (len : ∀ x, (cells x).length = sz) (one : ∀ x, ∀ u ∈ cells x, u.oneCell' = true) : Dt β where
  S := d.S
  enc := { cells := cells, sz := sz, len := len, one := one }
  rd w B x s := d.rd w B (f x) s
  ow w F x s := d.ow w F (f x) s
  rd_keep h hB hk := d.rd_keep h hB hk
  ow_keep h hs hk := d.ow_keep h hs hk
  ow_lt h := d.ow_lt h
  ow_rd h := d.ow_rd h
  ow_nodup h := d.ow_nodup h
/-- data with two -/
@[reducible] def Dt.two {β γ : Type} (d : Dt α) (d' : Dt γ) (f : β → α) (g : β → γ) (cells : β × (d.S × d'.S) → List Value) (sz : Nat) (len : ∀ x, (cells x).length = sz) (one : ∀ x, ∀ u ∈ cells x, u.oneCell' = true) : Dt β where
  S := d.S × d'.S
  enc := { cells := cells, sz := sz, len := len, one := one }
  rd w B x s := d.rd w B (f x) s.1 ∧ d'.rd w B (g x) s.2
  ow w F x s := ∃ F1 F2, F = F1 ++ F2 ∧ F.Nodup ∧ d.ow w F1 (f x) s.1 ∧ d'.ow w F2 (g x) s.2
  rd_keep h hB hk := ⟨d.rd_keep h.1 hB hk, d'.rd_keep h.2 hB hk⟩
  ow_keep := fun ⟨F1, F2, hF, hn, h1, h2⟩ hs hk => ⟨F1, F2, hF, hn, d.ow_keep h1 hs fun b hb => hk b (by rw [hF]; exact List.mem_append_left _ hb), d'.ow_keep h2 hs fun b hb => hk b (by rw [hF]; exact List.mem_append_right _ hb)⟩
  ow_lt := fun ⟨F1, F2, hF, hn, h1, h2⟩ b hb => by
    rw [hF] at hb
    rcases List.mem_append.1 hb with hb | hb
    · exact d.ow_lt h1 b hb
    · exact d'.ow_lt h2 b hb
  ow_rd := fun ⟨F1, F2, hF, hn, h1, h2⟩ => ⟨d.ow_rd h1, d'.ow_rd h2⟩
  ow_nodup := fun ⟨F1, F2, hF, hn, h1, h2⟩ => hn

theorem Dt.ow_chg (d : Dt α) {x : α} {s : d.S} (h : d.ow w F x s) (hc : Chg G w w') (hd : ∀ b ∈ F, b ∉ G) : d.ow w' F x s := d.ow_keep h hc.size fun b hb => hc.block b (d.ow_lt h b hb) (hd b hb)
theorem Dt.ow_below (d : Dt α) {x : α} {s : d.S} (h : d.ow w F x s) (hb : Below w.heap.size w w') : d.ow w' F x s := d.ow_keep h hb.size fun b hF => hb.block b (d.ow_lt h b hF)
theorem Dt.rd_below (d : Dt α) {x : α} {s : d.S} (h : d.rd w B x s) (hb : Below B w w') : d.rd w' B x s := d.rd_keep h (Nat.le_refl _) fun _ hp => hb.cell hp
theorem Dt.rd_more (d : Dt α) {x : α} {s : d.S} (h : d.rd w B x s) (hB : B ≤ B') : d.rd w B' x s := d.rd_keep h hB fun _ _ => rfl

/-- what hands out a datum of the call's own -/
def OwnPost (d : Dt α) (val : α → d.S → Value) (x : α) (w : World) (e : Ending) (w' : World) : Prop :=
  ∃ s F, e = .returned (val x s) ∧ d.ow w' F x s ∧ (∀ b ∈ F, w.heap.size ≤ b) ∧ Below w.heap.size w w'
end

section
variable {α : Type} {d : Dt α} {w w' : World} {v : Value} {l : List α} {F G : List Nat}
theorem Dt.ow_set (d : Dt α) {x : α} {s : d.S} (h : d.ow w F x s) {a : Addr} (ha : a.block ∉ F) (u : Value) : d.ow (w.setCell a u) F x s :=
  d.ow_keep h (by simp [World.setCell]) fun b hb => Below.heap_setCell w a u b (fun e => ha (by rw [← e]; exact hb))
theorem OwL.set (h : OwL d w F v l) {a : Addr} (ha : a.block ∉ F) (u : Value) : OwL d (w.setCell a u) F v l :=
  h.keep (by simp [World.setCell]) fun b hb => Below.heap_setCell w a u b (fun e => ha (by rw [← e]; exact hb))
theorem Hw.set {e : Enc α} (h : Hw e w F v l) {a : Addr} (ha : a.block ∉ F) (u : Value) : Hw e (w.setCell a u) F v l :=
  h.keep (by simp [World.setCell]) fun b hb => Below.heap_setCell w a u b (fun e => ha (by rw [← e]; exact hb))
theorem Ows.bel {rs : List (α × d.S)} (h : Ows d w F rs) (hb : Below w.heap.size w w') : Ows d w' F rs := h.keep hb.size fun b hF => hb.block b (h.lt b hF)
theorem Ows.chg {rs : List (α × d.S)} (h : Ows d w F rs) (hc : Chg G w w') (hd : ∀ b ∈ F, b ∉ G) : Ows d w' F rs := h.keep hc.size fun b hb => hc.block b (h.lt b hb) (hd b hb)
end

theorem blocks_sub (v : Value) (n : Nat) : ∀ b ∈ blocks v n, v.ownBlock = some b := by
  intro b hb
  unfold blocks at hb
  split at hb
  · cases hb
  · cases h : v.ownBlock with
    | none => rw [h] at hb; cases hb
    | some g =>
      rw [h] at hb
      simp at hb
      rw [hb]

section
variable {α : Type} {d : Dt α} {E : TypeId} {w w1 w' : World} {base : Nat} {v : Value} {rs : List (α × d.S)}
/-- a slice of data that the call builds: its own row, and what the elements own -/
def Bld (d : Dt α) (E : TypeId) (w : World) (base : Nat) (v : Value) (rs : List (α × d.S)) : Prop :=
  ∃ G, Ow d.enc E w base v rs ∧ Ows d w G rs ∧ G.Nodup ∧ ∀ b ∈ G, base ≤ b ∧ v.ownBlock ≠ some b
theorem Bld.nil (d : Dt α) (E : TypeId) (w : World) (base : Nat) : Bld d E w base (.slice none 0 0) [] := ⟨[], Ow.nil _ _ _ _, .nil, List.nodup_nil, fun _ h => by cases h⟩
theorem Bld.of_empty {v : Value} (h : Ow d.enc E w base v []) : Bld d E w base v [] := ⟨[], h, .nil, List.nodup_nil, fun _ h => by cases h⟩
theorem Bld.below (h : Bld d E w base v rs) (hb : Below w.heap.size w w') : Bld d E w' base v rs := by
  obtain ⟨G, h1, h2, h3, h4⟩ := h
  exact ⟨G, h1.below hb, h2.bel hb, h3, h4⟩
theorem Bld.ow (h : Bld d E w base v rs) : Ow d.enc E w base v rs := by
  obtain ⟨G, h1, _⟩ := h
  exact h1
theorem Bld.rd (h : Bld d E w base v rs) : RdL d w w.heap.size v (rs.map (·.1)) := by
  obtain ⟨G, h1, h2, _⟩ := h
  exact ⟨rs, rfl, Rd.of_own h1, h2.rd⟩
/-- some elements of the call's own come behind the others; the row may have been laid anew -/
theorem Bld.push {v3 : Value} {w3 : World} {ts : List (α × d.S)} {F : List Nat} (h : Bld d E w base v rs) (hb : Below w.heap.size w w1) (ht : Ows d w1 F ts) (hF : ∀ b ∈ F, w.heap.size ≤ b) (hn : F.Nodup) (hbase : base ≤ w.heap.size)
    (ho : Ow d.enc E w3 base v3 (rs ++ ts)) (hg : w1.grownBy w3 v.ownBlock) (hv : v3.ownBlock = v.ownBlock ∨ ∃ g, v3.ownBlock = some g ∧ w1.heap.size ≤ g) : Bld d E w3 base v3 (rs ++ ts) := by
  obtain ⟨G, h1, h2, h3, h4⟩ := h
  have hG : ∀ b ∈ G, b < w.heap.size := h2.lt
  have hFl : ∀ b ∈ F, b < w1.heap.size := ht.lt
  have hvF : ∀ b ∈ F, v.ownBlock ≠ some b := fun b hb he => by
    rcases h1.form with ⟨rfl, _⟩ | ⟨g, cap, rfl, _, hlt, _⟩
    · simp [Value.ownBlock] at he
    · have : g = b := by simpa [Value.ownBlock] using he
      have := hF b hb
      omega
  have hs := hb.size
  refine ⟨G ++ F, ho, ?_, ?_, ?_⟩
  · refine Ows.append ((h2.bel hb).keep hg.size fun b hbG => hg.block b (by have := hG b hbG; omega) ?_) (ht.keep hg.size fun b hbF => hg.block b (hFl b hbF) ?_)
    · exact fun e => (h4 b hbG).2 e.symm
    · exact fun e => hvF b hbF e.symm
  · rw [List.nodup_append]
    refine ⟨h3, hn, fun a ha b hb' e => ?_⟩
    have := hG a ha
    have := hF b hb'
    omega
  · intro b hbm
    rcases List.mem_append.1 hbm with hbm | hbm
    · refine ⟨(h4 b hbm).1, ?_⟩
      rcases hv with hv | ⟨g, hv, hlt⟩
      · rw [hv]; exact (h4 b hbm).2
      · rw [hv]
        intro e
        have := hG b hbm
        injection e with e
        omega
    · refine ⟨by have := hF b hbm; omega, ?_⟩
      rcases hv with hv | ⟨g, hv, hlt⟩
      · rw [hv]; exact hvF b hbm
      · rw [hv]
        intro e
        have := hFl b hbm
        injection e with e
        omega
theorem Bld.owl (h : Bld d E w base v rs) {l : List α} (hl : rs.map (·.1) = l) : ∃ F, OwL d w F v l ∧ ∀ b ∈ F, base ≤ b := by
  obtain ⟨G, h1, h2, h3, h4⟩ := h
  obtain ⟨h5, h6⟩ := Hw.of_ow h1
  refine ⟨_, ⟨rs, _, G, hl, h5, h2, rfl, ?_⟩, ?_⟩
  · rw [List.nodup_append]
    refine ⟨blocks_nodup _ _, h3, fun a ha b hb e => ?_⟩
    subst e
    exact (h4 a hb).2 (blocks_sub _ _ _ ha)
  · intro b hb
    rcases List.mem_append.1 hb with hb | hb
    · exact h6 b hb
    · exact (h4 b hb).1
/-- one element of a slice that make has made is laid -/
theorem Bld.lay {g : Nat} {rs : List (α × d.S)} {w2 : World} {F G : List Nat} {r : α × d.S} (h1 : Ows d w G rs) (h3 : G.Nodup) (h4 : ∀ b ∈ G, g < b) (hb : Below w.heap.size w w1) (hr : d.ow w1 F r.1 r.2) (hF : ∀ b ∈ F, w.heap.size ≤ b) (hg : g < w.heap.size)
    (hgr : w1.grownBy w2 (some g)) : Ows d w2 (G ++ F) (rs ++ [r]) ∧ (G ++ F).Nodup ∧ ∀ b ∈ G ++ F, g < b := by
  have hG : ∀ b ∈ G, b < w.heap.size := h1.lt
  have hs := hb.size
  refine ⟨Ows.append ((h1.bel hb).keep hgr.size fun b hbG => hgr.block b (by have := hG b hbG; omega) ?_) ((Ows.one hr).keep hgr.size fun b hbF => hgr.block b (d.ow_lt hr b hbF) ?_), ?_, ?_⟩
  · intro e
    have := h4 b hbG
    injection e with e
    omega
  · intro e
    have := hF b hbF
    injection e with e
    omega
  · rw [List.nodup_append]
    refine ⟨h3, d.ow_nodup hr, fun a ha b hb' e => ?_⟩
    have := hG a ha
    have := hF b hb'
    omega
  · intro b hbm
    rcases List.mem_append.1 hbm with hbm | hbm
    · exact h4 b hbm
    · have := hF b hbm
      omega
end

/-- two owned things whose blocks lie apart -/
theorem apart_of {F G : List Nat} {a b c d : Nat} (h : ∀ x ∈ F, a ≤ x ∧ x < b) (k : ∀ x ∈ G, c ≤ x ∧ x < d) (hne : b ≤ c ∨ d ≤ a) : ∀ x ∈ F, x ∉ G := by
  intro x hx hy
  have := h x hx
  have := k x hy
  omega
theorem in_of {F : List Nat} {a b : Nat} (h : ∀ x ∈ F, a ≤ x) (k : ∀ x ∈ F, x < b) : ∀ x ∈ F, a ≤ x ∧ x < b := fun x hx => ⟨h x hx, k x hx⟩

abbrev slV {α : Type} (_ : α) (s : Sl) : Value := .slice s.a s.n s.c

section
variable {α : Type} {d : Dt α} {w w' : World} {b o n c j : Nat} {rs : List (α × d.S)} {G1 Fx G2 : List Nat} {x y : α} {s : d.S}
/-- a list under marking, with the eye on its element j -/
structure Foc (d : Dt α) (w : World) (b o n c : Nat) (rs : List (α × d.S)) (j : Nat) (G1 Fx G2 : List Nat) (x : α) (s : d.S) : Prop where
  rd : Rd d.enc w w.heap.size (.slice (some ⟨b, o, none⟩) n c) (rs.set j (x, s))
  free : ∀ i, w.frozen? ⟨b, i, none⟩ = false
  left : Ows d w G1 (rs.take j)
  here : d.ow w Fx x s
  right : Ows d w G2 (rs.drop (j + 1))
  lt : j < rs.length
  nodup : ([b] ++ (G1 ++ (Fx ++ G2))).Nodup
  blk : b < w.heap.size
theorem Foc.apart (h : Foc d w b o n c rs j G1 Fx G2 x s) : (b ∉ G1 ∧ b ∉ Fx ∧ b ∉ G2) ∧ (∀ a ∈ G1, a ∉ Fx) ∧ (∀ a ∈ G2, a ∉ Fx) := by
  have h1 := h.nodup
  simp only [List.cons_append, List.nil_append, List.nodup_cons, List.mem_append, not_or, List.nodup_append] at h1
  obtain ⟨⟨a1, a2, a3⟩, _, ⟨_, _, a4⟩, a5⟩ := h1
  exact ⟨⟨a1, a2, a3⟩, fun a ha hx => a5 a ha a (.inl hx) rfl, fun a ha hx => a4 a hx a ha rfl⟩
theorem Foc.cells (h : Foc d w b o n c rs j G1 Fx G2 x s) : ∀ i u, (d.enc.cells (x, s))[i]? = some u → w.cell? ⟨b, o + j * d.enc.sz + i, none⟩ = some u := by
  intro i u hu
  obtain ⟨A', c', hv, _, hA⟩ := h.rd
  simp only [Value.slice.injEq] at hv
  obtain ⟨rfl, _, _⟩ := hv
  have hl : j < (rs.set j (x, s)).length := by rw [List.length_set]; exact h.lt
  obtain ⟨b', o', he, _, hc⟩ := hA (by omega)
  simp only [Option.some.injEq, Addr.mk.injEq, and_true] at he
  obtain ⟨rfl, rfl⟩ := he
  exact hc j hl i u (by rw [List.getElem_set_self]; exact hu)
/-- a part of the element's own cells is written -/
theorem Foc.put (h : Foc d w b o n c rs j G1 Fx G2 x s) (y : α) (off : Nat) (us : List Value) (hoff : off + us.length ≤ d.enc.sz)
    (hin : ∀ i (hi : i < us.length), (d.enc.cells (y, s))[off + i]? = some us[i]) (hout : ∀ i, i < d.enc.sz → (i < off ∨ off + us.length ≤ i) → (d.enc.cells (y, s))[i]? = (d.enc.cells (x, s))[i]?)
    (hy : ∀ W, d.ow W Fx x s → d.ow W Fx y s) : Foc d (wSeq w b (o + j * d.enc.sz + off) us) b o n c rs j G1 Fx G2 y s ∧ Chg [b] w (wSeq w b (o + j * d.enc.sz + off) us) := by
  have hc := wSeq_chg us w b (o + j * d.enc.sz + off)
  obtain ⟨⟨a1, a2, a3⟩, _, _⟩ := h.apart
  refine ⟨⟨?_, fun i => by rw [wSeq_frozen]; exact h.free i, h.left.chg hc ?_, hy _ (Dt.ow_chg d h.here hc ?_), h.right.chg hc ?_, h.lt, h.nodup, by rw [wSeq_size]; exact h.blk⟩, hc⟩
  · have hl : j < (rs.set j (x, s)).length := by rw [List.length_set]; exact h.lt
    have := h.rd.part j hl (y, s) off us hoff hin (by rw [List.getElem_set_self]; exact hout)
    rw [List.set_set] at this
    rw [wSeq_size]
    exact this
  all_goals
    intro x hx hb
    simp only [List.mem_singleton] at hb
    subst hb
    first | exact a1 hx | exact a2 hx | exact a3 hx
/-- what the element leads to is written -/
theorem Foc.sub (h : Foc d w b o n c rs j G1 Fx G2 x s) (hc : Chg Fx w w') (hy : d.ow w' Fx y s) (hcells : d.enc.cells (y, s) = d.enc.cells (x, s)) : Foc d w' b o n c rs j G1 Fx G2 y s := by
  obtain ⟨⟨a1, a2, a3⟩, a4, a5⟩ := h.apart
  refine ⟨?_, fun i => by rw [hc.frozen (p := ⟨b, i, none⟩) h.blk a2]; exact h.free i, h.left.chg hc a4, hy, h.right.chg hc a5, h.lt, h.nodup, Nat.lt_of_lt_of_le h.blk hc.size⟩
  have hl : j < (rs.set j (x, s)).length := by rw [List.length_set]; exact h.lt
  have h1 := h.rd.keepF (w' := w') hc.size (fun b' hb' i => by
    have := blocks_sub _ _ _ hb'
    have : b = b' := by simpa [Value.ownBlock] using this
    subst this
    exact hc.cell (p := ⟨b, i, none⟩) h.blk a2)
  have h2 := h1.same j hl (y, s) (by rw [List.getElem_set_self]; exact hcells)
  rwa [List.set_set] at h2
theorem Foc.start {F1 F2 : List Nat} (hr : Rd d.enc w w.heap.size (.slice (some ⟨b, o, none⟩) n c) rs) (hf : ∀ i, w.frozen? ⟨b, i, none⟩ = false) (h1 : Ows d w F1 (rs.take j)) (h2 : Ows d w F2 (rs.drop j)) (hj : j < rs.length) (hn : ([b] ++ (F1 ++ F2)).Nodup) (hb : b < w.heap.size) :
    ∃ Fx G2, F2 = Fx ++ G2 ∧ Foc d w b o n c rs j F1 Fx G2 rs[j].1 rs[j].2 := by
  rw [← List.getElem_cons_drop hj] at h2
  obtain ⟨Fx, G2, rfl, h3, h4⟩ := h2.head
  refine ⟨Fx, G2, rfl, ⟨?_, hf, h1, h3, h4, hj, hn, hb⟩⟩
  have : rs.set j (rs[j].1, rs[j].2) = rs := List.set_getElem_self hj
  rw [this]
  exact hr
theorem Foc.done (h : Foc d w b o n c rs j G1 Fx G2 x s) : Rd d.enc w w.heap.size (.slice (some ⟨b, o, none⟩) n c) (rs.set j (x, s)) ∧ Ows d w (G1 ++ Fx) ((rs.set j (x, s)).take (j + 1)) ∧ Ows d w G2 ((rs.set j (x, s)).drop (j + 1)) ∧ ([b] ++ ((G1 ++ Fx) ++ G2)).Nodup := by
  refine ⟨h.rd, ?_, ?_, ?_⟩
  · have hl : j < (rs.set j (x, s)).length := by rw [List.length_set]; exact h.lt
    rw [List.take_succ_eq_append_getElem hl, List.getElem_set_self, List.take_set_of_le (Nat.le_refl j)]
    exact h.left.append (Ows.one h.here)
  · rw [List.drop_set_of_lt (by omega)]
    exact h.right
  · have := h.nodup
    simp only [List.append_assoc] at this ⊢
    exact this
end

theorem OwL.foc {α : Type} {d : Dt α} {w : World} {F : List Nat} {A : Option Addr} {n c : Nat} {l : List α} (h : OwL d w F (.slice A n c) l) {j : Nat} (hj : j < l.length) :
    ∃ (b o : Nat) (rs : List (α × d.S)) (s : d.S) (G1 Fx G2 : List Nat), A = some ⟨b, o, none⟩ ∧ F = [b] ++ (G1 ++ (Fx ++ G2)) ∧ rs.map (·.1) = l ∧ Foc d w b o n c rs j G1 Fx G2 l[j] s := by
  obtain ⟨rs, H, G, hm, hh, ho, rfl, hn⟩ := h
  subst hm
  rw [List.length_map] at hj
  obtain ⟨b, o, rfl, rfl, hb, hf⟩ := hh.at_ (by omega)
  obtain ⟨F1, F2, rfl, h1, h2⟩ := ho.split j (Nat.le_of_lt hj)
  obtain ⟨Fx, G2, rfl, h3⟩ := Foc.start hh.rd hf h1 h2 hj hn hb
  refine ⟨b, o, rs, rs[j].2, F1, Fx, G2, rfl, rfl, rfl, ?_⟩
  rw [List.getElem_map]
  exact h3
theorem Foc.owl {α : Type} {d : Dt α} {w : World} {b o n c j : Nat} {rs : List (α × d.S)} {G1 Fx G2 : List Nat} {x : α} {s : d.S} {l : List α} (h : Foc d w b o n c rs j G1 Fx G2 x s) (hm : rs.map (·.1) = l) :
    OwL d w ([b] ++ (G1 ++ (Fx ++ G2))) (.slice (some ⟨b, o, none⟩) n c) (l.set j x) := by
  refine ⟨rs.set j (x, s), [b], G1 ++ (Fx ++ G2), by rw [List.map_set, hm], ⟨h.rd, ?_, ?_⟩, ?_, rfl, h.nodup⟩
  · unfold blocks
    rw [if_neg (by rw [List.length_set]; have := h.lt; omega)]
    rfl
  · intro g hg i
    have : g = b := by simpa using hg
    subst this
    exact h.free i
  · have e : rs.set j (x, s) = rs.take j ++ (x, s) :: rs.drop (j + 1) := by rw [List.set_eq_take_append_cons_drop, if_pos h.lt]
    rw [e]
    exact h.left.append (.cons h.here h.right)
theorem mem_box {b x : Nat} {G : List Nat} (h : x ∈ [b]) : x ∈ [b] ++ G := List.mem_append_left _ h
theorem mem_here {b x : Nat} {G1 Fx G2 : List Nat} (h : x ∈ Fx) : x ∈ [b] ++ (G1 ++ (Fx ++ G2)) := List.mem_append_right _ (List.mem_append_right _ (List.mem_append_left _ h))
theorem nodup_apart {F G : List Nat} (h : (F ++ G).Nodup) : (∀ x ∈ F, x ∉ G) ∧ (∀ x ∈ G, x ∉ F) := by
  rw [List.nodup_append] at h
  exact ⟨fun x hx hy => h.2.2 x hx x hy rfl, fun x hx hy => h.2.2 x hy x hx rfl⟩
theorem mix_snoc {α : Type} (rs : List α) (z : α) (k n : Nat) {y : α} (h : rs.length = k) (hlt : k < n) : (rs ++ List.replicate (n - k) z).set k y = (rs ++ [y]) ++ List.replicate (n - (k + 1)) z := by
  rw [List.set_append_right _ _ (by omega), h, Nat.sub_self, show n - k = (n - (k + 1)) + 1 from by omega, List.replicate_succ, List.set_cons_zero, List.append_assoc, List.singleton_append]

/-- what a marking leaves: all that is owned holds its mark -/
def MkPost {α : Type} (d : Dt α) (F : List Nat) (y : α) (s : d.S) (r : Int) (w : World) (en : Ending) (w' : World) : Prop := en = .returned (.int .i64 r) ∧ d.ow w' F y s ∧ Chg F w w'

/-- all lengths in a list of data together -/
def cntL {α : Type} (cnt : α → Nat) (l : List α) : Nat := l.length + (l.map cnt).sum
theorem cntL_mem {α : Type} {cnt : α → Nat} : ∀ {l : List α} {x : α}, x ∈ l → cnt x + 1 ≤ cntL cnt l
  | y :: l, x, h => by
    unfold cntL
    simp only [List.length_cons, List.map_cons, List.sum_cons]
    rcases List.mem_cons.1 h with rfl | h
    · omega
    · have := cntL_mem (cnt := cnt) h
      unfold cntL at this
      omega
theorem cntL_len {α : Type} (cnt : α → Nat) (l : List α) : l.length ≤ cntL cnt l := Nat.le_add_right _ _
theorem sum_take_succ {α : Type} (f : α → Nat) (l : List α) (k : Nat) (h : k < l.length) : ((l.take (k + 1)).map f).sum = ((l.take k).map f).sum + f l[k] := by
  rw [take_snoc l k h, List.map_append, List.sum_append]
  simp
theorem sum_take_le {α : Type} (f : α → Nat) (l : List α) (k : Nat) : ((l.take k).map f).sum ≤ (l.map f).sum := by
  conv => rhs; rw [← List.take_append_drop k l, List.map_append, List.sum_append]
  omega
theorem cntL_zero {α : Type} {cnt : α → Nat} (h : ∀ x, cnt x = 0) : ∀ l : List α, cntL cnt l = l.length
  | [] => rfl
  | x :: l => by
    have := cntL_zero h l
    unfold cntL at *
    simp only [List.length_cons, List.map_cons, List.sum_cons, h x] at *
    omega
/-- lengths are what a machine holds, and each element is right -/
def wfL {α : Type} (wf : α → Prop) (l : List α) : Prop := l.length ≤ 9223372036854775807 ∧ ∀ x ∈ l, wf x
/-- how many marks a list takes -/
def numL {α : Type} (num : α → Nat) (l : List α) : Nat := (l.map num).sum
theorem numL_le {α : Type} {num cnt : α → Nat} {K : Nat} (h : ∀ x, num x ≤ K * (cnt x + 1)) : ∀ l : List α, numL num l ≤ K * cntL cnt l
  | [] => by simp [numL]
  | x :: l => by
    have h1 := numL_le h l
    have h2 := h x
    unfold numL cntL at *
    simp only [List.length_cons, List.map_cons, List.sum_cons]
    rw [Nat.mul_add] at h1 h2 ⊢
    rw [Nat.mul_succ, Nat.mul_add]
    omega
theorem numL_take_le {α : Type} (num : α → Nat) (l : List α) (k : Nat) : numL num (l.take k) ≤ numL num l := sum_take_le num l k
/-- the marks from k on -/
def mkL {α : Type} (mk : Int → α → α) (num : α → Nat) : Int → List α → List α
  | _, [] => []
  | k, x :: l => mk k x :: mkL mk num (k + num x) l
section
variable {α : Type} (mk : Int → α → α) (num : α → Nat)
theorem mkL_length : ∀ (k : Int) (l : List α), (mkL mk num k l).length = l.length
  | _, [] => rfl
  | k, x :: l => by simp [mkL, mkL_length _ l]
theorem mkL_snoc : ∀ (k : Int) (l : List α) (x : α), mkL mk num k (l ++ [x]) = mkL mk num k l ++ [mk (k + numL num l) x]
  | k, [], x => by simp [mkL, numL]
  | k, y :: l, x => by
    simp only [mkL, List.cons_append]
    rw [mkL_snoc _ l x]
    have e : k + (num y : Int) + (numL num l : Nat) = k + (numL num (y :: l) : Nat) := by
      simp only [numL, List.map_cons, List.sum_cons]
      push_cast
      omega
    rw [e]
theorem mkL_get (k : Int) (l : List α) (j : Nat) (h : j < l.length) (h' : j < (mkL mk num k l).length) : (mkL mk num k l)[j] = mk (k + numL num (l.take j)) l[j] := by
  induction l generalizing k j with
  | nil => exact absurd h (by simp)
  | cons y l ih =>
    cases j with
    | zero => simp [mkL, numL]
    | succ j =>
      simp only [mkL, List.getElem_cons_succ, List.take_succ_cons]
      rw [ih (k + num y) j (by simpa using h)]
      congr 1
      simp only [numL, List.map_cons, List.sum_cons]
      push_cast
      omega
theorem mkL_set (k : Int) (l : List α) (j : Nat) (h : j < l.length) : (mkL mk num k (l.take j) ++ l.drop j).set j (mk (k + numL num (l.take j)) l[j]) = mkL mk num k (l.take (j + 1)) ++ l.drop (j + 1) := by
  have hl : (mkL mk num k (l.take j)).length = j := by rw [mkL_length, List.length_take, Nat.min_eq_left (Nat.le_of_lt h)]
  rw [List.set_append_right _ _ (by omega), hl, Nat.sub_self, take_snoc l j h, mkL_snoc, List.append_assoc, ← List.getElem_cons_drop h, List.set_cons_zero, List.singleton_append]
theorem mkL_here (k : Int) (l : List α) (j : Nat) (h : j < l.length) {h' : j < (mkL mk num k (l.take j) ++ l.drop j).length} : (mkL mk num k (l.take j) ++ l.drop j)[j] = l[j] := by
  have hl : (mkL mk num k (l.take j)).length = j := by rw [mkL_length, List.length_take, Nat.min_eq_left (Nat.le_of_lt h)]
  rw [List.getElem_append_right (by omega)]
  simp [hl]
end
end Go.Proofs.Ytnaicippgocdfaa
end
section
namespace Go.Proofs.Ytnaicippgocdfaa
open Go.RowKit
set_option maxRecDepth 100000

/-- block b is a variable that holds the cells cs -/
structure DBox (b : Nat) (cs : List Value) (w : World) : Prop where
  cell : ∀ (j : Nat) (u : Value), cs[j]? = some u → w.cell? ⟨b, j, none⟩ = some u
  free : ∀ j, w.frozen? ⟨b, j, none⟩ = false
  lt : b < w.heap.size
theorem DBox.new (T : TypeId) (cs : List Value) (w : World) {b : Nat} (hb : b = w.heap.size) : DBox b cs (w.alloc (.cells cs.toArray T)) := by
  subst hb
  refine ⟨fun j u hu => ?_, fun j => by simp [go_sem], by simp⟩
  have := news_new w cs.toArray T rfl j u (by simpa using hu)
  have e : ((⟨w.heap.size, 0, none⟩ : Addr).add j) = ⟨w.heap.size, j, none⟩ := by
    unfold Addr.add
    split <;> simp_all
  rw [e] at this
  exact this
theorem DBox.keep {b : Nat} {cs : List Value} {w w' : World} (h : DBox b cs w) (hs : w.heap.size ≤ w'.heap.size) (hk : ∀ j, w'.cell? ⟨b, j, none⟩ = w.cell? ⟨b, j, none⟩) (hf : ∀ j, w'.frozen? ⟨b, j, none⟩ = w.frozen? ⟨b, j, none⟩) : DBox b cs w' :=
  ⟨fun j u hu => (hk j).trans (h.cell j u hu), fun j => (hf j).trans (h.free j), Nat.lt_of_lt_of_le h.lt hs⟩
theorem DBox.below {b : Nat} {cs : List Value} {w w' : World} (h : DBox b cs w) (hb : Below w.heap.size w w') : DBox b cs w' :=
  h.keep hb.size (fun j => hb.cell (p := ⟨b, j, none⟩) h.lt) (fun j => hb.frozen (p := ⟨b, j, none⟩) h.lt)
theorem DBox.chg {F : List Nat} {b : Nat} {cs : List Value} {w w' : World} (h : DBox b cs w) (hc : Chg F w w') (hn : b ∉ F) : DBox b cs w' :=
  h.keep hc.size (fun j => hc.cell (p := ⟨b, j, none⟩) h.lt hn) (fun j => hc.frozen (p := ⟨b, j, none⟩) h.lt hn)
end Go.Proofs.Ytnaicippgocdfaa
end
section
namespace Go.Proofs.Ytnaicippgocdfaa
open Go.RowKit
set_option maxRecDepth 100000

theorem DBox.put {b : Nat} {cs : List Value} {w : World} (h : DBox b cs w) (j : Nat) (hj : j < cs.length) (u : Value) : DBox b (cs.set j u) (w.setCell ⟨b, j, none⟩ u) := by
  refine ⟨fun i x hx => ?_, fun i => by rw [setCell_frozen]; exact h.free i, by simpa [World.setCell] using h.lt⟩
  have hi : i < cs.length := by
    have := (List.getElem?_eq_some_iff.1 hx).1
    simpa using this
  rw [setCell_cell w b i j u cs[i] (h.cell i _ (List.getElem?_eq_getElem hi)) ⟨_, h.cell j _ (List.getElem?_eq_getElem hj)⟩]
  by_cases e : i = j
  · subst e
    rw [List.getElem?_set_self hi] at hx
    rw [if_pos rfl]
    exact hx
  · rw [List.getElem?_set_ne (Ne.symm e), List.getElem?_eq_getElem hi] at hx
    rw [if_neg e]
    exact hx
end Go.Proofs.Ytnaicippgocdfaa
end
