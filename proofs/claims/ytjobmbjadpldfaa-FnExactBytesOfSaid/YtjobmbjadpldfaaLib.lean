/-
  Words for memory: how a list of plain data lies in a slice; a slice of the call's own; what is kept when new memory is made.
-/
import Derived.Test.YtjobmbjadpldfaaRows
import Derived.WalkKit
import Derived.Lib.Hide
import Derived.Deep.QuietTactic
import Derived.BigQuiet
import Derived.StillTailTactics
import Derived.Deep.RegionHeld3
import Derived.Maps.AppendAt
import Derived.Deep.AppendLies
namespace Go.Proofs.Ytjobmbjadpldfaa
open Go.RowKit

/-- how a datum lies in cells -/
structure Enc (α : Type) where
  cells : α → List Value
  sz : Nat
  len : ∀ x, (cells x).length = sz
  one : ∀ x, ∀ u ∈ cells x, u.oneCell' = true

section
variable {α : Type} {e : Enc α} {w w' : World} {B B' : Nat} {v : Value} {l : List α}

theorem Enc.flat_length (e : Enc α) : ∀ l : List α, (l.flatMap e.cells).length = l.length * e.sz
  | [] => by simp
  | x :: l => by rw [List.flatMap_cons, List.length_append, e.len, Enc.flat_length e l, List.length_cons, Nat.succ_mul, Nat.add_comm]

theorem Enc.flat_get (e : Enc α) {j : Nat} (hj : j < e.sz) : ∀ (l : List α) (k : Nat) (h : k < l.length), (l.flatMap e.cells)[k * e.sz + j]? = (e.cells l[k])[j]?
  | [], k, h => absurd h (by simp)
  | x :: l, 0, _ => by
    rw [List.flatMap_cons, Nat.zero_mul, Nat.zero_add, List.getElem?_append_left (by rw [e.len]; exact hj)]
    rfl
  | x :: l, k + 1, h => by
    rw [List.flatMap_cons, List.getElem?_append_right (by rw [e.len, Nat.succ_mul]; omega), e.len,
      show (k + 1) * e.sz + j - e.sz = k * e.sz + j from by rw [Nat.succ_mul]; omega]
    exact Enc.flat_get e hj l k (by simpa using h)

/-- cells from place i on, laid one behind the other -/
def setSeq (xs : List Value) (i : Nat) : List Value → List Value
  | [] => xs
  | u :: us => setSeq (xs.set i u) (i + 1) us
def wSeq (w : World) (g i : Nat) : List Value → World
  | [] => w
  | u :: us => wSeq (w.setCell ⟨g, i, none⟩ u) g (i + 1) us

theorem setSeq_eq : ∀ (us xs : List Value) (i : Nat), i + us.length ≤ xs.length → setSeq xs i us = xs.take i ++ us ++ xs.drop (i + us.length)
  | [], xs, i, _ => by simp [setSeq]
  | u :: us, xs, i, h => by
    simp only [List.length_cons] at h
    rw [setSeq, setSeq_eq us _ _ (by simp; omega)]
    have h1 : (xs.set i u).take (i + 1) = xs.take i ++ [u] := by
      rw [List.take_set, List.take_succ_eq_append_getElem (by omega), List.set_append_right _ _ (by simp; omega)]
      simp [show i - min i xs.length = 0 from by omega]
    have h2 : (xs.set i u).drop (i + 1 + us.length) = xs.drop (i + (u :: us).length) := by
      rw [List.drop_set_of_lt (by omega)]
      congr 1
      simp; omega
    rw [h1, h2]
    simp

theorem Enc.flat_put (e : Enc α) (x : α) : ∀ (l : List α) (k : Nat), k < l.length → setSeq (l.flatMap e.cells) (k * e.sz) (e.cells x) = (l.set k x).flatMap e.cells := by
  intro l k hk
  rw [setSeq_eq _ _ _ (by
    rw [e.flat_length, e.len]
    have : (k + 1) * e.sz ≤ l.length * e.sz := Nat.mul_le_mul_right _ hk
    rw [Nat.succ_mul] at this; exact this), e.len]
  have hl : l = l.take k ++ l[k] :: l.drop (k + 1) := by
    rw [List.getElem_cons_drop hk, List.take_append_drop]
  have hs : l.set k x = l.take k ++ x :: l.drop (k + 1) := by
    rw [List.set_eq_take_append_cons_drop, if_pos hk]
  rw [hs]
  have e1 : (l.take k).flatMap e.cells = (l.flatMap e.cells).take (k * e.sz) := by
    conv => rhs; rw [hl, List.flatMap_append]
    rw [List.take_left' (by rw [e.flat_length, List.length_take, Nat.min_eq_left (Nat.le_of_lt hk)])]
  have e2 : (l.drop (k + 1)).flatMap e.cells = (l.flatMap e.cells).drop (k * e.sz + e.sz) := by
    conv => rhs; rw [hl, List.flatMap_append, List.flatMap_cons, ← List.append_assoc]
    rw [List.drop_left' (by rw [List.length_append, e.flat_length, e.len, List.length_take, Nat.min_eq_left (Nat.le_of_lt hk)])]
  rw [List.flatMap_append, List.flatMap_cons, e1, e2, List.append_assoc]

/-- v is a slice that reads as l, below block B -/
def Rd (e : Enc α) (w : World) (B : Nat) (v : Value) (l : List α) : Prop :=
  ∃ A c, v = .slice A l.length c ∧ l.length ≤ c ∧ (0 < l.length → ∃ b o, A = some ⟨b, o, none⟩ ∧ b < B ∧
    ∀ (k : Nat) (h : k < l.length) (j : Nat) (u : Value), (e.cells l[k])[j]? = some u → w.cell? ⟨b, o + k * e.sz + j, none⟩ = some u)

theorem Rd.keep (h : Rd e w B v l) (hk : ∀ p : Addr, p.block < B → w'.cell? p = w.cell? p) : Rd e w' B v l := by
  obtain ⟨A, c, hv, hcap, hA⟩ := h
  refine ⟨A, c, hv, hcap, fun hl => ?_⟩
  obtain ⟨b, o, hb, hlt, hc⟩ := hA hl
  exact ⟨b, o, hb, hlt, fun k hk' j u hu => (hk _ hlt).trans (hc k hk' j u hu)⟩
theorem Rd.more (h : Rd e w B v l) (hB : B ≤ B') : Rd e w B' v l := by
  obtain ⟨A, c, hv, hcap, hA⟩ := h
  refine ⟨A, c, hv, hcap, fun hl => ?_⟩
  obtain ⟨b, o, hb, hlt, hc⟩ := hA hl
  exact ⟨b, o, hb, by omega, hc⟩
theorem Rd.below (h : Rd e w B v l) (hb : Below B w w') : Rd e w' B v l := h.keep fun _ hp => hb.cell hp

/-- v is a slice of the call's own, from block base on: it reads as l -/
def Ow (e : Enc α) (E : TypeId) (w : World) (base : Nat) (v : Value) (l : List α) : Prop := w.ownsRow base E e.sz v l.length (l.flatMap e.cells)

theorem Ow.nil (e : Enc α) (E : TypeId) (w : World) (base : Nat) : Ow e E w base (.slice none 0 0) [] := World.ownsRow_nil w base E e.sz

theorem Ow.form {E : TypeId} {base : Nat} (h : Ow e E w base v l) : (v = .slice none 0 0 ∧ l = []) ∨
    ∃ g cap, v = .slice (some ⟨g, 0, none⟩) l.length cap ∧ base ≤ g ∧ g < w.heap.size ∧ l.length ≤ cap ∧ cap ≤ maxLen ∧ (∀ j, w.frozen? ⟨g, j, none⟩ = false) ∧
      ∀ (k : Nat) (h : k < l.length) (j : Nat) (u : Value), (e.cells l[k])[j]? = some u → w.cell? ⟨g, k * e.sz + j, none⟩ = some u := by
  have h0 := h
  rcases h.2 with ⟨hv, hn⟩ | ⟨g, cap, cur, hv, hg, hh, hc, hm, _, _⟩
  · exact .inl ⟨hv, List.eq_nil_of_length_eq_zero hn⟩
  · subst hv
    refine .inr ⟨g, cap, rfl, hg, (h.lt g rfl).2, hc, hm, fun j => World.ownsRow.frozenAt h j, fun k hk j u hu => ?_⟩
    have hj : j < e.sz := by
      have := (List.getElem?_eq_some_iff.1 hu).1
      rw [e.len] at this; exact this
    have hlt : k * e.sz + j < l.length * e.sz := by
      have : (k + 1) * e.sz ≤ l.length * e.sz := Nat.mul_le_mul_right _ hk
      rw [Nat.succ_mul] at this; omega
    rw [World.ownsRow.cellAt h _ hlt, e.flat_get hj l k hk]
    exact hu

theorem Ow.free {E : TypeId} {base g n cap : Nat} (h : Ow e E w base (.slice (some ⟨g, 0, none⟩) n cap) l) (j : Nat) : w.frozen? ⟨g, j, none⟩ = false := by
  rcases h.form with ⟨h1, _⟩ | ⟨g', cap', hv, _, _, _, _, hf, _⟩
  · simp at h1
  · simp only [Value.slice.injEq, Option.some.injEq, Addr.mk.injEq, and_true] at hv
    obtain ⟨rfl, _, _⟩ := hv
    exact hf j

theorem Ow.blk {E : TypeId} {base g n cap : Nat} (h : Ow e E w base (.slice (some ⟨g, 0, none⟩) n cap) l) : base ≤ g ∧ g < w.heap.size := by
  rcases h.form with ⟨h1, _⟩ | ⟨g', cap', hv, hb, hg, _⟩
  · simp at h1
  · simp only [Value.slice.injEq, Option.some.injEq, Addr.mk.injEq, and_true] at hv
    obtain ⟨rfl, _, _⟩ := hv
    exact ⟨hb, hg⟩

theorem Rd.of_own {E : TypeId} {base : Nat} (h : Ow e E w base v l) : Rd e w w.heap.size v l := by
  rcases h.form with ⟨rfl, rfl⟩ | ⟨g, cap, rfl, _, hlt, hcap, _, _, hc⟩
  · exact ⟨none, 0, rfl, Nat.le_refl _, fun h => absurd h (by simp)⟩
  · exact ⟨_, cap, rfl, hcap, fun _ => ⟨g, 0, rfl, hlt, fun k hk j u hu => by rw [Nat.zero_add]; exact hc k hk j u hu⟩⟩

theorem Rd.take {A : Option Addr} {n c k : Nat} (h : Rd e w B (.slice A n c) l) (hk : k ≤ l.length) (c' : Nat) (hc' : k ≤ c') : Rd e w B (.slice A k c') (l.take k) := by
  obtain ⟨A', c0, hv, _, hA⟩ := h
  simp only [Value.slice.injEq] at hv
  obtain ⟨rfl, rfl, rfl⟩ := hv
  refine ⟨A, c', by rw [List.length_take, Nat.min_eq_left hk], by rw [List.length_take, Nat.min_eq_left hk]; exact hc', fun hl => ?_⟩
  rw [List.length_take, Nat.min_eq_left hk] at hl
  obtain ⟨b, o, hb, hlt, hc⟩ := hA (by omega)
  refine ⟨b, o, hb, hlt, fun i hi j u hu => ?_⟩
  rw [List.length_take, Nat.min_eq_left hk] at hi
  rw [List.getElem_take] at hu
  exact hc i (by omega) j u hu
theorem Rd.cap {A : Option Addr} {n c : Nat} (h : Rd e w B (.slice A n c) l) : l.length ≤ c := by
  obtain ⟨A', c0, hv, hc, _⟩ := h
  simp only [Value.slice.injEq] at hv
  rw [hv.2.2]
  exact hc
theorem Rd.nil (e : Enc α) (w : World) (B c : Nat) : Rd e w B (.slice none 0 c) [] := ⟨none, c, rfl, Nat.zero_le _, fun h => absurd h (by simp)⟩

/-- a slice of the call's own, with room for one list of cells more -/
theorem Ow.snoc {E : TypeId} {base : Nat} {x : α} (h : w.ownsRow base E e.sz v (l.length + 1) (l.flatMap e.cells ++ e.cells x)) : Ow e E w base v (l ++ [x]) := by
  unfold Ow
  rw [List.length_append, List.length_singleton, List.flatMap_append, List.flatMap_singleton]
  exact h

theorem Ow.below {E : TypeId} {base : Nat} (h : Ow e E w base v l) (hb : Below w.heap.size w w') : Ow e E w' base v l := by
  refine World.ownsRow.kept (row := none) h ⟨hb.os, hb.tape, hb.output, hb.size, fun k hk _ => hb.block k hk⟩ ?_
  cases hv : v.ownBlock with
  | none => exact .inl rfl
  | some g => exact .inr (by simp)

theorem Ow.more {E : TypeId} {base base' : Nat} (h : Ow e E w base v l) (hb : base' ≤ base) : Ow e E w base' v l := by
  obtain ⟨h1, h2⟩ := h
  refine ⟨h1, ?_⟩
  rcases h2 with h2 | ⟨g, cap, cur, hv, hg, r⟩
  · exact .inl h2
  · exact .inr ⟨g, cap, cur, hv, by omega, r⟩
end

theorem wSeq_own {E : TypeId} {sz base g cap : Nat} (n : Nat) : ∀ (us xs : List Value) (w : World) (i : Nat), w.ownsRow base E sz (.slice (some ⟨g, 0, none⟩) n cap) n xs →
    (wSeq w g i us).ownsRow base E sz (.slice (some ⟨g, 0, none⟩) n cap) n (setSeq xs i us) ∧ w.grownBy (wSeq w g i us) (some g)
  | [], xs, w, i, h => ⟨h, World.grownBy.refl w _⟩
  | u :: us, xs, w, i, h => by
    have h1 := World.ownsRow.stored h i u
    have h2 := wSeq_own n us _ _ (i + 1) h1.1
    exact ⟨h2.1, h1.2.trans h2.2⟩

/-- one element of the call's own slice is written -/
theorem Ow.put {α : Type} {e : Enc α} {E : TypeId} {w : World} {base g cap n : Nat} {l : List α} (h : Ow e E w base (.slice (some ⟨g, 0, none⟩) n cap) l) (hn : l.length = n) (k : Nat) (hk : k < n) (x : α) :
    Ow e E (wSeq w g (k * e.sz) (e.cells x)) base (.slice (some ⟨g, 0, none⟩) n cap) (l.set k x) ∧ w.grownBy (wSeq w g (k * e.sz) (e.cells x)) (some g) := by
  subst hn
  have := wSeq_own (cap := cap) l.length (e.cells x) _ w (k * e.sz) h
  rw [e.flat_put x l k hk] at this
  unfold Ow
  rw [List.length_set]
  exact this

theorem madeCells_flat {α : Type} (e : Enc α) (x : α) (n : Nat) (hsz : 0 < e.sz) : (madeCells (e.cells x).toArray (n * e.sz)).toList = (List.replicate n x).flatMap e.cells := by
  apply List.ext_getElem?
  intro i
  by_cases hi : i < n * e.sz
  · have hk : i / e.sz < n := Nat.div_lt_of_lt_mul (by rw [Nat.mul_comm]; exact hi)
    have hj : i % e.sz < e.sz := Nat.mod_lt _ hsz
    have hij : i / e.sz * e.sz + i % e.sz = i := by rw [Nat.mul_comm]; exact Nat.div_add_mod _ _
    have h1 := e.flat_get hj (List.replicate n x) (i / e.sz) (by simpa using hk)
    rw [hij] at h1
    rw [h1]
    have hl : i % e.sz < (e.cells x).length := by rw [e.len]; exact hj
    have hz : 0 < (e.cells x).length := by rw [e.len]; exact hsz
    simp [madeCells, hi, e.len, hj]
  · rw [List.getElem?_eq_none (by simp [madeCells]; omega), List.getElem?_eq_none (by rw [e.flat_length]; simp; omega)]

/-- a slice that make has made -/
theorem Ow.made {α : Type} (e : Enc α) (E : TypeId) (w : World) (x : α) (n : Nat) (hsz : 0 < e.sz) (hn : n ≤ maxLen) {z : Array Value} (hz : z = (e.cells x).toArray) {m : Nat} (hm : m = n * e.sz) :
    Ow e E (w.alloc (.cells (madeCells z m) E)) w.heap.size (.slice (some ⟨w.heap.size, 0, none⟩) n n) (List.replicate n x) := by
  subst hz; subst hm
  have := World.ownsRow_lit (base := w.heap.size) (e := E) (size := e.sz) w (madeCells (e.cells x).toArray (n * e.sz)) n (Nat.le_refl _) hn (size_madeCells _ _)
  rw [madeCells_flat e x n hsz] at this
  unfold Ow
  rw [List.length_replicate]
  exact this

theorem Ow.ne_ {α β : Type} {e : Enc α} {e' : Enc β} {E E' : TypeId} {w : World} {base base' : Nat} {v v' : Value} {l : List α} {l' : List β} (h : Ow e E w base v l) (h' : Ow e' E' w base' v' l') (hne : E ≠ E') :
    v.ownBlock = none ∨ v.ownBlock ≠ v'.ownBlock := by
  rcases h.2 with ⟨rfl, _⟩ | ⟨g, cap, cur, rfl, _, hh, _⟩
  · exact .inl rfl
  · rcases h'.2 with ⟨rfl, _⟩ | ⟨g', cap', cur', rfl, _, hh', _⟩
    · exact .inr (by simp [Value.ownBlock])
    · refine .inr (fun he => ?_)
      have : g = g' := by simpa [Value.ownBlock] using he
      subst this
      rw [hh] at hh'
      injection hh' with hh'
      injection hh' with _ ht
      exact hne ht
theorem Ow.grown {α : Type} {e : Enc α} {E : TypeId} {w w' : World} {base : Nat} {v : Value} {l : List α} {row : Option Nat} (h : Ow e E w base v l) (hg : w.grownBy w' row) (hne : v.ownBlock = none ∨ v.ownBlock ≠ row) : Ow e E w' base v l :=
  World.ownsRow.kept h hg hne

theorem news_new (w : World) (cs : Array Value) (T : TypeId) {g : Nat} (hg : g = w.heap.size) : ∀ j u, cs.toList[j]? = some u → (w.alloc (.cells cs T)).cell? ((⟨g, 0, none⟩ : Addr).add j) = some u := by
  subst hg
  intro j u hu
  have h : (w.alloc (.cells cs T)).cell? ⟨w.heap.size, j, none⟩ = cs[j]? := cell_of_row _ _ j cs T (0, 0) (heap_alloc_new w _)
  have e : ((⟨w.heap.size, 0, none⟩ : Addr).add j) = ⟨w.heap.size, j, none⟩ := by
    unfold Addr.add
    split <;> simp_all
  rw [e, h]
  simpa using hu

/-- one element is appended to a slice of the call's own -/
theorem wpList_push {α : Type} {P : Program} {ops : Array Oper} {rest : List Oper} {o : Oper} {a : Act} {Q : Exit → Act → World → Prop} {w : World} (e : Enc α) (hsz : 0 < e.sz) {base : Nat} {E t : TypeId} {i : TypeInfo} {z : Value} {bytes : Nat}
    (hgd : o.guard = none) (s x : Operand) (ho : o.op = .call { callee := .builtin .append, args := #[s, x], argTypes := #[t, t] })
    (ht : P.underlying t = some (.slice E)) (hi : P.info? E = some i) (hz : i.zero = some z) (hsize : i.size = e.sz) (hby : i.bytes = bytes) (hzs : z.cells.size = e.sz)
    {v : Value} {l : List α} (y : α) (hs : a.eval s = v) (hown : Ow e E w base v l) (ad : Addr) (c : Nat) (hx : a.eval x = .slice (some ad) 1 c) (hnews : ∀ j u, (e.cells y)[j]? = some u → w.cell? (ad.add j) = some u)
    (hlen : l.length ≤ 3000000) (hbytes : bytes ≤ 10000) (hbase : base ≤ w.heap.size)
    (h : ∀ v' w', Ow e E w' base v' (l ++ [y]) → w.grownBy w' v.ownBlock → wpList P ops Q rest (a.put o.dst v') w') : wpList P ops Q (o :: rest) a w := by
  refine wpList_append_own w hgd s x t ho base E i z e.sz bytes ht hi hz hsize hby hzs hsz v l.length (l.flatMap e.cells) hs hown ad 1 c (e.cells y) hx (by rw [e.len, Nat.one_mul]) hnews (e.one y) (by simp [maxLen]; omega) ?_ hbase ?_
  · have h1 : (l.length + 1) * bytes ≤ 3000001 * 10000 := Nat.mul_le_mul (by omega) hbytes
    omega
  · intro v' w' h1 h2 _
    exact h v' w' (Ow.snoc h1) h2

/-- an int in a cell -/
def intE : Enc Int := { cells := fun x => [.int .i64 x], sz := 1, len := fun _ => rfl, one := fun _ u hu => by simp at hu; subst hu; rfl }

theorem bcell {W w1 : World} (hb : Below W.heap.size W w1) : (∀ b o, b < W.heap.size → w1.cell? ⟨b, o, none⟩ = W.cell? ⟨b, o, none⟩) ∧ (∀ b o, b < W.heap.size → w1.frozen? ⟨b, o, none⟩ = W.frozen? ⟨b, o, none⟩) :=
  ⟨fun b o h => hb.cell (p := ⟨b, o, none⟩) h, fun b o h => hb.frozen (p := ⟨b, o, none⟩) h⟩

theorem bnext {w w1 w2 : World} (h : Below w.heap.size w w1) (k : Below w1.heap.size w1 w2) : Below w.heap.size w w2 := h.trans (k.mono h.size)

theorem bdrewN {B : Nat} {a w : World} (h : Below B a w) (n : Nat) : Below B a (w.drewN n) := ⟨h.os, h.tape, h.output, h.size, h.block⟩

/-- what a counting of sizes answers: -1, or what is left of the room -/
def SzPost (left : Int) (n : Nat) (w : World) (e : Ending) (w' : World) : Prop := ∃ r : Int, e = .returned (.int .i64 r) ∧ (r = -1 ∨ (0 ≤ r ∧ r + n ≤ left)) ∧ Below w.heap.size w w'

theorem ret_int {k : IntKind} {a b : Int} (h : a = b) : Ending.returned (.int k a) = .returned (.int k b) := by rw [h]
theorem ret_bool {a b : Bool} (h : a = b) : Ending.returned (.bool a) = .returned (.bool b) := by rw [h]

theorem mix_set {α : Type} (l : List α) (z : α) (k : Nat) (h : k < l.length) : (l.take k ++ List.replicate (l.length - k) z).set k l[k] = l.take (k + 1) ++ List.replicate (l.length - (k + 1)) z := by
  rw [List.set_append_right _ _ (by simp; omega), List.length_take, Nat.min_eq_left (Nat.le_of_lt h), Nat.sub_self, show l.length - k = (l.length - (k + 1)) + 1 from by omega, List.replicate_succ, List.set_cons_zero,
    List.take_succ_eq_append_getElem h, List.append_assoc, List.singleton_append]

theorem bytes_ne {a b : ByteArray} (h : ¬ a = b) : (a.toList == b.toList) = false := by
  rw [beq_eq_false_iff_ne]
  intro e
  rw [ByteArray.toList_eq, ByteArray.toList_eq] at e
  exact h (by cases a; cases b; simpa using e)

theorem take_snoc {α : Type} (l : List α) (k : Nat) (h : k < l.length) : l.take (k + 1) = l.take k ++ [l[k]] := by
  rw [List.take_succ_eq_append_getElem h]


/-! A region that draws its order, whose operations only read old memory and whose callees only make new memory and hand back values that do not depend on it: one walk serves. -/
/-- the worlds that may come behind w: what was there is as it was -/
def Later (w : World) : Type := { u : World // Below w.heap.size w u }
instance (w : World) : Nonempty (Later w) := ⟨⟨w, Below.refl _ _⟩⟩
theorem wp_region_pure {P : Program} {id : Nat} {Q : Exit → Act → World → Prop} {a : Act} {w : World} {l : List Oper} (hm : P.follows .mixedOrders = true) (hB : Region.lexB .any l.toArray = true)
    (h : wpQuiet P l.toArray (fun w' => ∃ u : Later w, w' = u.1) (fun a' => ∀ w', (∃ u : Later w, w' = u.1) → Q .normal a' w') l a) : (Code.region id l.toArray true).wp P Q a w :=
  wp_region_quiet (C := fun w' => ∃ u : Later w, w' = u.1) hm hB ⟨⟨w.drew, (Below.refl _ _).drew⟩, rfl⟩ (by simpa using h)
theorem later_cell (w : World) : ∀ (u : Later w) (b o : Nat), b < w.heap.size → (u.1).cell? ⟨b, o, none⟩ = w.cell? ⟨b, o, none⟩ := fun u b o h => u.2.cell (p := ⟨b, o, none⟩) h
theorem pure_of {P : Program} {f : FuncId} {args : Array Value} {w : World} {u : Later w} {v : Value}
    (h : Calls P f args u.1 fun e w' => e = .returned v ∧ Below u.1.heap.size u.1 w') : Calls P f args u.1 fun e w'' => e = .returned v ∧ ∃ u' : Later w, w'' = u'.1 :=
  h.mono fun _ _ ⟨he, hb⟩ => ⟨he, ⟨_, bnext u.2 hb⟩, rfl⟩
theorem pure_at {P : Program} {f : FuncId} {args : Array Value} {w : World} {u : Later w} {v : Value}
    (h : ∀ u : Later w, Calls P f args u.1 fun e w' => e = .returned v ∧ Below u.1.heap.size u.1 w') : Calls P f args u.1 fun e w'' => e = .returned v ∧ ∃ u' : Later w, w'' = u'.1 :=
  (h u).mono fun _ _ ⟨he, hb⟩ => ⟨he, ⟨_, bnext u.2 hb⟩, rfl⟩
theorem pure_same {P : Program} {f : FuncId} {args : Array Value} {w : World} {u : Later w} {v : Value}
    (h : ∀ u : Later w, Calls P f args u.1 fun e w' => e = .returned v ∧ u.1 = w') : Calls P f args u.1 fun e w'' => e = .returned v ∧ ∃ u' : Later w, w'' = u'.1 :=
  (h u).mono fun _ _ ⟨he, hb⟩ => ⟨he, u, hb.symm⟩
end Go.Proofs.Ytjobmbjadpldfaa
