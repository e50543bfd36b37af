/-
  Plans: what they are, when they are right, and how they lie in memory.
-/
import Derived.Test.YtjobmbjadpldfaaEd
import Derived.Test.YtjobmbjadpldfaaPg
namespace Go.Proofs.Ytjobmbjadpldfaa
open Go.RowKit
set_option maxRecDepth 100000

structure Plan where
  prio : Int
  most : Int
  wait : Int
  tasks : Int
  edges : List Edge
deriving DecidableEq, Inhabited

@[go_sem] abbrev planV (p : Plan) (ve : Value) : Value := .agg #[.int .i64 p.prio, .int .i64 p.most, .int .i64 p.wait, .int .i64 p.tasks, ve]

def natE : Enc Nat := { cells := fun x => [.int .i64 (x : Int)], sz := 1, len := fun _ => rfl, one := fun _ u hu => by simp at hu; subst hu; rfl }
def boolE : Enc Bool := { cells := fun x => [.bool x], sz := 1, len := fun _ => rfl, one := fun _ u hu => by simp at hu; subst hu; rfl }

def inB (n lo hi : Int) : Bool := decide (lo ≤ n) && decide (n ≤ hi)
theorem inB_iff {n lo hi : Int} : inB n lo hi = true ↔ lo ≤ n ∧ n ≤ hi := by simp [inB]

def manyOk (p : Plan) : Bool := inB p.tasks 1 12 && decide (p.edges.length ≤ 30) && inB p.prio 0 9 && inB p.most 1 5 && inB p.wait 1 20
def edgeIn (T : Int) (e : Edge) : Bool := inB e.fr 0 (T - 1) && inB e.to 0 (T - 1)
def esL (l : List Edge) : List (Nat × Nat) := l.map fun e => (e.fr.toNat, e.to.toNat)
def esOf (p : Plan) : List (Nat × Nat) := esL p.edges
def edgesIn (p : Plan) : Prop := ∀ e ∈ p.edges, edgeIn p.tasks e = true
def cyclic (p : Plan) : Prop := ∃ t, t < p.tasks.toNat ∧ Pg.Reach (esOf p) t t
open Classical in
noncomputable def planFault (p : Plan) : Int :=
  if manyOk p = false then 1 else if ¬ edgesIn p then 2 else if ¬ p.edges.Nodup then 3 else if cyclic p then 4 else 0

theorem planFault_zero {p : Plan} : planFault p = 0 ↔ manyOk p = true ∧ edgesIn p ∧ p.edges.Nodup ∧ ¬ cyclic p := by
  unfold planFault
  cases h1 : manyOk p
  · simp
  · by_cases h2 : edgesIn p <;> by_cases h3 : p.edges.Nodup <;> by_cases h4 : cyclic p <;> simp [h2, h3, h4]

theorem manyOk_tasks {p : Plan} (h : manyOk p = true) : 1 ≤ p.tasks ∧ p.tasks ≤ 12 := by
  simp only [manyOk, Bool.and_eq_true] at h
  exact inB_iff.1 h.1.1.1.1
theorem manyOk_edges {p : Plan} (h : manyOk p = true) : p.edges.length ≤ 30 := by
  simp only [manyOk, Bool.and_eq_true, decide_eq_true_eq] at h
  exact h.1.1.1.2
theorem edgesIn_get {p : Plan} (h : edgesIn p) {k : Nat} (hk : k < p.edges.length) : 0 ≤ p.edges[k].fr ∧ p.edges[k].fr < p.tasks ∧ 0 ≤ p.edges[k].to ∧ p.edges[k].to < p.tasks := by
  have := h _ (List.getElem_mem hk)
  simp only [edgeIn, Bool.and_eq_true, inB_iff] at this
  omega
theorem esL_length (l : List Edge) : (esL l).length = l.length := by simp [esL]
theorem esOf_lt {p : Plan} (h : edgesIn p) : (∀ e ∈ esOf p, e.1 < p.tasks.toNat) ∧ (∀ e ∈ esOf p, e.2 < p.tasks.toNat) := by
  have : ∀ e ∈ esOf p, e.1 < p.tasks.toNat ∧ e.2 < p.tasks.toNat := by
    intro e he
    simp only [esOf, esL, List.mem_map] at he
    obtain ⟨x, hx, rfl⟩ := he
    have := h x hx
    simp only [edgeIn, Bool.and_eq_true, inB_iff] at this
    simp only
    omega
  exact ⟨fun e he => (this e he).1, fun e he => (this e he).2⟩

theorem Rd.nat {w : World} {B : Nat} {A : Option Addr} {n c : Nat} {l : List Nat} (h : Rd natE w B (.slice A n c) l) {k : Nat} (hk : k < l.length) :
    ∃ b o, A = some ⟨b, o, none⟩ ∧ b < B ∧ w.cell? ⟨b, o + k, none⟩ = some (.int .i64 (l[k] : Int)) := by
  obtain ⟨A', c', hv, _, hA⟩ := h
  obtain ⟨b, o, hA', hb, hc⟩ := hA (by omega)
  simp only [Value.slice.injEq] at hv
  obtain ⟨rfl, _, _⟩ := hv
  exact ⟨b, o, hA', hb, by simpa [natE] using hc k hk 0 _ rfl⟩
theorem Rd.int {w : World} {B : Nat} {A : Option Addr} {n c : Nat} {l : List Int} (h : Rd intE w B (.slice A n c) l) {k : Nat} (hk : k < l.length) :
    ∃ b o, A = some ⟨b, o, none⟩ ∧ b < B ∧ w.cell? ⟨b, o + k, none⟩ = some (.int .i64 l[k]) := by
  obtain ⟨A', c', hv, _, hA⟩ := h
  obtain ⟨b, o, hA', hb, hc⟩ := hA (by omega)
  simp only [Value.slice.injEq] at hv
  obtain ⟨rfl, _, _⟩ := hv
  exact ⟨b, o, hA', hb, by simpa [intE] using hc k hk 0 _ rfl⟩
theorem Rd.bool {w : World} {B : Nat} {A : Option Addr} {n c : Nat} {l : List Bool} (h : Rd boolE w B (.slice A n c) l) {k : Nat} (hk : k < l.length) :
    ∃ b o, A = some ⟨b, o, none⟩ ∧ b < B ∧ w.cell? ⟨b, o + k, none⟩ = some (.bool l[k]) := by
  obtain ⟨A', c', hv, _, hA⟩ := h
  obtain ⟨b, o, hA', hb, hc⟩ := hA (by omega)
  simp only [Value.slice.injEq] at hv
  obtain ⟨rfl, _, _⟩ := hv
  exact ⟨b, o, hA', hb, by simpa [boolE] using hc k hk 0 _ rfl⟩

theorem Ow.one_ {α : Type} {e : Enc α} (hsz : e.sz = 1) {E : TypeId} {w : World} {base g n cap : Nat} {l : List α} (h : Ow e E w base (.slice (some ⟨g, 0, none⟩) n cap) l) {k : Nat} (hk : k < l.length) {u : Value} (hu : (e.cells l[k])[0]? = some u) :
    w.cell? ⟨g, k, none⟩ = some u := by
  rcases h.form with ⟨h1, _⟩ | ⟨g', cap', hv, _, _, _, _, _, hc⟩
  · simp at h1
  · simp only [Value.slice.injEq, Option.some.injEq, Addr.mk.injEq, and_true] at hv
    obtain ⟨rfl, _, _⟩ := hv
    have := hc k hk 0 u hu
    rw [hsz] at this
    simpa using this
theorem Ow.nat {E : TypeId} {w : World} {base g n cap : Nat} {l : List Nat} (h : Ow natE E w base (.slice (some ⟨g, 0, none⟩) n cap) l) {k : Nat} (hk : k < l.length) : w.cell? ⟨g, k, none⟩ = some (.int .i64 (l[k] : Int)) := h.one_ rfl hk rfl
theorem Ow.int {E : TypeId} {w : World} {base g n cap : Nat} {l : List Int} (h : Ow intE E w base (.slice (some ⟨g, 0, none⟩) n cap) l) {k : Nat} (hk : k < l.length) : w.cell? ⟨g, k, none⟩ = some (.int .i64 l[k]) := h.one_ rfl hk rfl
theorem Ow.bool {E : TypeId} {w : World} {base g n cap : Nat} {l : List Bool} (h : Ow boolE E w base (.slice (some ⟨g, 0, none⟩) n cap) l) {k : Nat} (hk : k < l.length) : w.cell? ⟨g, k, none⟩ = some (.bool l[k]) := h.one_ rfl hk rfl

theorem or_i64 (a b : Nat) (ha : a < 9223372036854775808) (hb : b < 9223372036854775808) : bits .or .i64 (a : Int) (b : Int) = ((a ||| b : Nat) : Int) := by
  have hx : a ||| b < 2 ^ 63 := Nat.or_lt_two_pow (by omega) (by omega)
  have h1 : (BitVec.ofInt 64 (a : Int)).toNat = a := by
    rw [BitVec.ofInt_natCast, BitVec.toNat_ofNat]; exact Nat.mod_eq_of_lt (by omega)
  have h2 : (BitVec.ofInt 64 (b : Int)).toNat = b := by
    rw [BitVec.ofInt_natCast, BitVec.toNat_ofNat]; exact Nat.mod_eq_of_lt (by omega)
  show IntKind.i64.wrap ((BitVec.ofInt 64 (a : Int) ||| BitVec.ofInt 64 (b : Int)).toNat : Int) = _
  rw [BitVec.toNat_or, h1, h2, IntKind.wrap_i64]
  generalize a ||| b = y at *
  have hy : y < 9223372036854775808 := hx
  clear h1 h2 hx
  rw [Int.emod_eq_of_lt (by omega) (by omega), Int.add_sub_cancel]
theorem and_i64 (a b : Nat) (ha : a < 9223372036854775808) (hb : b < 9223372036854775808) : bits .and .i64 (a : Int) (b : Int) = ((a &&& b : Nat) : Int) := by
  have hx : a &&& b < 2 ^ 63 := Nat.and_lt_two_pow _ (by omega)
  have h1 : (BitVec.ofInt 64 (a : Int)).toNat = a := by
    rw [BitVec.ofInt_natCast, BitVec.toNat_ofNat]; exact Nat.mod_eq_of_lt (by omega)
  have h2 : (BitVec.ofInt 64 (b : Int)).toNat = b := by
    rw [BitVec.ofInt_natCast, BitVec.toNat_ofNat]; exact Nat.mod_eq_of_lt (by omega)
  show IntKind.i64.wrap ((BitVec.ofInt 64 (a : Int) &&& BitVec.ofInt 64 (b : Int)).toNat : Int) = _
  rw [BitVec.toNat_and, h1, h2, IntKind.wrap_i64]
  generalize a &&& b = y at *
  have hy : y < 9223372036854775808 := hx
  clear h1 h2 hx
  omega
theorem bit_test (x k : Nat) (hx : x < 9223372036854775808) : (bits .and .i64 ((x : Int) / 2 ^ k) 1 == 1) = x.testBit k := by
  have e : ((x : Int) / 2 ^ k) = ((x >>> k : Nat) : Int) := by
    rw [Nat.shiftRight_eq_div_pow, Int.natCast_ediv, Int.natCast_pow]; rfl
  have hl : x >>> k < 9223372036854775808 := by
    rw [Nat.shiftRight_eq_div_pow]; exact Nat.lt_of_le_of_lt (Nat.div_le_self _ _) hx
  have ha := and_i64 (x >>> k) 1 hl (by omega)
  rw [e]
  rw [show (1 : Int) = ((1 : Nat) : Int) from rfl, ha]
  unfold Nat.testBit
  rw [Nat.and_comm 1, Nat.and_one_is_mod]
  rcases Nat.mod_two_eq_zero_or_one (x >>> k) with h | h <;> simp [h]
theorem shl_one (d : Nat) (hd : d < 63) : wrap64 ((2 : Int) ^ d) = ((1 <<< d : Nat) : Int) := by
  have h : 2 ^ d < 2 ^ 63 := Nat.pow_lt_pow_of_lt (by omega) hd
  have e : (2 : Int) ^ d = ((2 ^ d : Nat) : Int) := by rw [Int.natCast_pow]; rfl
  rw [e, Nat.shiftLeft_eq, Nat.one_mul]
  clear e
  generalize 2 ^ d = y at *
  unfold wrap64
  omega

/-- the world with a plan's variable laid -/
def planBox (T : TypeId) (p : Plan) (ve : Value) (w : World) : World := w.alloc (.cells #[.int .i64 p.prio, .int .i64 p.most, .int .i64 p.wait, .int .i64 p.tasks, ve] T)
theorem planBox_below (T : TypeId) (p : Plan) (ve : Value) (w : World) : Below w.heap.size w (planBox T p ve w) := (Below.refl _ _).alloc (Nat.le_refl _) _
theorem planBox_size (T : TypeId) (p : Plan) (ve : Value) (w : World) : (planBox T p ve w).heap.size = w.heap.size + 1 := by simp [planBox]
theorem planBox_cells {T : TypeId} {p : Plan} {ve : Value} {w wr : World} (hb : Below (planBox T p ve w).heap.size (planBox T p ve w) wr) :
    wr.cell? ⟨w.heap.size, 0, none⟩ = some (.int .i64 p.prio) ∧ wr.cell? ⟨w.heap.size, 1, none⟩ = some (.int .i64 p.most) ∧ wr.cell? ⟨w.heap.size, 2, none⟩ = some (.int .i64 p.wait) ∧
      wr.cell? ⟨w.heap.size, 3, none⟩ = some (.int .i64 p.tasks) ∧ wr.cell? ⟨w.heap.size, 4, none⟩ = some ve ∧ w.heap.size + 1 ≤ wr.heap.size ∧ Below w.heap.size w wr := by
  have hs := planBox_size T p ve w
  have h : ∀ j u, (planBox T p ve w).cell? ⟨w.heap.size, j, none⟩ = some u → wr.cell? ⟨w.heap.size, j, none⟩ = some u := fun j u hu => (hb.cell (p := ⟨w.heap.size, j, none⟩) (by rw [hs]; simp)).trans hu
  refine ⟨h 0 _ ?_, h 1 _ ?_, h 2 _ ?_, h 3 _ ?_, h 4 _ ?_, by rw [← hs]; exact hb.size, (planBox_below T p ve w).trans (hb.mono (by rw [hs]; omega))⟩
  all_goals simp [planBox, go_sem]
end Go.Proofs.Ytjobmbjadpldfaa
