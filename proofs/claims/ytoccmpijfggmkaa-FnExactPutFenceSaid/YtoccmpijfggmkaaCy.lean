/-
  copy between slices whose elements take several cells; a row that is known whole; slices.Insert's steps.
-/
import Derived.Test.YtoccmpijfggmkaaAp
import Derived.Laws.CopyRow
import Derived.Laws.CopyOwn
import Derived.Lib.AppendZerosOnto
import Derived.Lib.Overlaps
import Derived.Lib.SliceRun
namespace Go.Proofs.Ytoccmpijfggmkaa
open Go.RowKit
set_option maxRecDepth 100000

section
variable {P : Program}
theorem run_copy_sz (w : World) (dT sT ty elem : TypeId) (g o dLen dCap : Nat) (a : Addr) (sLen sCap k : Nat) (cur : Array Value) (t : TypeId) (cs : List Value)
    (hu : P.underlying dT = some (.slice elem)) (hs : (P.info? elem).map (·.size) = some k)
    (hg : w.heap[g]? = some (.cells cur t (0, 0))) (hn : cs.length = Nat.min sLen dLen * k)
    (hsrc : ∀ j v, cs[j]? = some v → w.cell? (a.add j) = some v) (hfit : o + cs.length ≤ cur.size) (h1 : ∀ v ∈ cs, v.oneCell' = true) :
    (Builtin.copy_ #[dT, sT] ty #[.slice (some ⟨g, o, none⟩) dLen dCap, .slice (some a) sLen sCap]).run P w =
      .ok (goInt (Nat.min sLen dLen)) (w.setRow g (cur.toList.take o ++ cs ++ cur.toList.drop (o + cs.length)).toArray) := by
  have hl := run_loadCells_list (P := P) w a cs hsrc
  have hst := run_storeCells_at P g o t cs 0 cur w hg (by simpa using hfit) h1
  cases hq : P.info? elem with
  | none => simp [hq] at hs
  | some i =>
    have hi : i.size = k := by simpa [hq] using hs
    rw [hn] at hl
    simp [Builtin.copy_, run_underlying hu, Builtin.lenOf, Builtin.firstCells, sizeOf, typeInfo, hq, hi, hl, hst]

theorem grown_setRow (w : World) (g : Nat) (cs : Array Value) : w.grownBy (w.setRow g cs) (some g) :=
  ⟨rfl, rfl, rfl, by simp [World.setRow], fun k _ hne => setRow_other w g k cs (fun e => hne (by rw [e]))⟩

theorem wp_copy_sz (w : World) {o : Oper} {a : Act} {K : Act → World → Prop} {Q : Exit → Act → World → Prop} (d s : Operand) (dT sT : TypeId)
    (ho : o.op = .call { callee := .builtin .copy, args := #[d, s], argTypes := #[dT, sT] }) (elem : TypeId) (k : Nat) (hu : P.underlying dT = some (.slice elem)) (hsz : (P.info? elem).map (·.size) = some k)
    (g off dLen dCap : Nat) (ad : Addr) (sLen sCap : Nat) (hd : a.eval d = .slice (some ⟨g, off, none⟩) dLen dCap) (hs : a.eval s = .slice (some ad) sLen sCap)
    (cur : List Value) (t : TypeId) (hg : w.heap[g]? = some (.cells cur.toArray t (0, 0))) (cs : List Value) (hn : cs.length = Nat.min sLen dLen * k)
    (hsrc : ∀ j v, cs[j]? = some v → w.cell? (ad.add j) = some v) (hfit : off + cs.length ≤ cur.length) (h1 : ∀ v ∈ cs, v.oneCell' = true)
    (h : ∀ w', Hid (w'.heap[g]? = some (.cells (splice cur off cs).toArray t (0, 0))) → w.grownBy w' (some g) → K (a.put o.dst (goInt (Nat.min sLen dLen))) w') : o.wp P a w K Q := by
  have hrun := run_copy_sz (P := P) w dT sT o.type elem g off dLen dCap ad sLen sCap k cur.toArray t cs hu hsz hg hn hsrc (by simpa using hfit) h1
  have h2 : Hid ((w.setRow g (cur.toArray.toList.take off ++ cs ++ cur.toArray.toList.drop (off + cs.length)).toArray).heap[g]? = some (.cells (splice cur off cs).toArray t (0, 0))) := show _ = _ by simpa [splice] using setRow_heap w g _ _ t _ hg
  have h3 := h _ h2 (grown_setRow w g _)
  unfold Oper.wp execOp
  simp only [ho, resolve, invoke, builtin, Sem.run_bind, Sem.run_pure, Result.andThen_ok, List.map_toArray, List.map_cons, List.map_nil, hd, hs, hrun]
  exact h3
theorem wpList_copy_sz (w : World) {ops : Array Oper} {rest : List Oper} {o : Oper} {a : Act} {Q : Exit → Act → World → Prop} (hgd : o.guard = none) (d s : Operand) (dT sT : TypeId)
    (ho : o.op = .call { callee := .builtin .copy, args := #[d, s], argTypes := #[dT, sT] }) (elem : TypeId) (k : Nat) (hu : P.underlying dT = some (.slice elem)) (hsz : (P.info? elem).map (·.size) = some k)
    (g off dLen dCap : Nat) (ad : Addr) (sLen sCap : Nat) (hd : a.eval d = .slice (some ⟨g, off, none⟩) dLen dCap) (hs : a.eval s = .slice (some ad) sLen sCap)
    (cur : List Value) (t : TypeId) (hg : w.heap[g]? = some (.cells cur.toArray t (0, 0))) (cs : List Value) (hn : cs.length = Nat.min sLen dLen * k)
    (hsrc : ∀ j v, cs[j]? = some v → w.cell? (ad.add j) = some v) (hfit : off + cs.length ≤ cur.length) (h1 : ∀ v ∈ cs, v.oneCell' = true)
    (h : ∀ w', Hid (w'.heap[g]? = some (.cells (splice cur off cs).toArray t (0, 0))) → w.grownBy w' (some g) → wpList P ops Q rest (a.put o.dst (goInt (Nat.min sLen dLen))) w') : wpList P ops Q (o :: rest) a w :=
  wpList_plain hgd fun _ hK => wp_copy_sz w d s dT sT ho elem k hu hsz g off dLen dCap ad sLen sCap hd hs cur t hg cs hn hsrc hfit h1 fun w' h2 h3 => hK _ _ (h w' h2 h3)
theorem step_copy_sz (w : World) {ops : Array Oper} {o : Oper} {a : Act} {K : Act → World → Prop} {Q : Exit → Act → World → Prop} {EE : Prop} (hgd : o.guard = none) (d s : Operand) (dT sT : TypeId)
    (ho : o.op = .call { callee := .builtin .copy, args := #[d, s], argTypes := #[dT, sT] }) (elem : TypeId) (k : Nat) (hu : P.underlying dT = some (.slice elem)) (hsz : (P.info? elem).map (·.size) = some k)
    (g off dLen dCap : Nat) (ad : Addr) (sLen sCap : Nat) (hd : a.eval d = .slice (some ⟨g, off, none⟩) dLen dCap) (hs : a.eval s = .slice (some ad) sLen sCap)
    (cur : List Value) (t : TypeId) (hg : w.heap[g]? = some (.cells cur.toArray t (0, 0))) (cs : List Value) (hn : cs.length = Nat.min sLen dLen * k)
    (hsrc : ∀ j v, cs[j]? = some v → w.cell? (ad.add j) = some v) (hfit : off + cs.length ≤ cur.length) (h1 : ∀ v ∈ cs, v.oneCell' = true)
    (h : ∀ w', Hid (w'.heap[g]? = some (.cells (splice cur off cs).toArray t (0, 0))) → w.grownBy w' (some g) → K (a.put o.dst (goInt (Nat.min sLen dLen))) w') :
    if Region.wanted o (yielded ops a.tmps) = true then Oper.wp P o a w K Q else EE := by
  have hw : Region.wanted o (yielded ops a.tmps) = true := by simp [Region.wanted, hgd]
  rw [if_pos hw]
  exact wp_copy_sz w d s dT sT ho elem k hu hsz g off dLen dCap ad sLen sCap hd hs cur t hg cs hn hsrc hfit h1 h
end

section
variable {α : Type} {e : Enc α} {E : TypeId} {w : World} {base g n cap : Nat} {l : List α}
theorem Ow.row (h : Ow e E w base (.slice (some ⟨g, 0, none⟩) n cap) l) :
    l.length = n ∧ base ≤ g ∧ n ≤ cap ∧ cap ≤ maxLen ∧ ∃ cur : List Value, w.heap[g]? = some (.cells cur.toArray E (0, 0)) ∧ cur.length = cap * e.sz ∧ cur.take (n * e.sz) = l.flatMap e.cells := by
  rcases h.2 with ⟨h1, _⟩ | ⟨g', cap', cur, hv, hg, hh, hc, hm, hs, ht⟩
  · simp at h1
  · simp only [Value.slice.injEq, Option.some.injEq, Addr.mk.injEq, and_true] at hv
    obtain ⟨rfl, rfl, rfl⟩ := hv
    exact ⟨rfl, hg, hc, hm, cur.toList, by simpa using hh, by simpa using hs, ht⟩
theorem Ow.of_row {cur : List Value} (hg : w.heap[g]? = some (.cells cur.toArray E (0, 0))) (hc : cur.length = cap * e.sz) (ht : cur.take (l.length * e.sz) = l.flatMap e.cells) (hb : base ≤ g) (hn : l.length ≤ cap) (hm : cap ≤ maxLen) :
    Ow e E w base (.slice (some ⟨g, 0, none⟩) l.length cap) l :=
  ⟨e.flat_length l, .inr ⟨g, cap, cur.toArray, rfl, hb, hg, hn, hm, by simpa using hc, by simpa using ht⟩⟩
end

theorem splice_two {α : Type} (R X Y : List α) (a : Nat) (h : a + X.length + Y.length ≤ R.length) : (splice (splice R a X) (a + X.length) Y).take (a + X.length + Y.length) = R.take a ++ X ++ Y := by
  have h0 : (R.take a).length = a := by rw [List.length_take]; omega
  have h1 : (splice R a X).take (a + X.length) = R.take a ++ X := by
    unfold splice
    rw [← List.append_assoc, List.take_left' (by rw [List.length_append, h0])]
  unfold splice at h1 ⊢
  rw [h1, ← List.append_assoc, List.take_left' (by rw [List.length_append, List.length_append, h0])]
theorem splice_back {α : Type} (C X Y : List α) (a : Nat) (h : a + X.length + Y.length ≤ C.length) : (splice (splice C (a + X.length) Y) a X).take (a + X.length + Y.length) = C.take a ++ X ++ Y := by
  have h0 : (C.take a).length = a := by rw [List.length_take]; omega
  have h1 : (splice C (a + X.length) Y).take a = C.take a := by
    unfold splice
    rw [List.take_append_of_le_length (by rw [List.length_take]; omega), List.take_take]
    congr 1
    omega
  have h2 : (splice C (a + X.length) Y).drop (a + X.length) = Y ++ C.drop (a + X.length + Y.length) := by
    unfold splice
    rw [List.drop_left' (by rw [List.length_take]; omega)]
  show ((splice C (a + X.length) Y).take a ++ (X ++ (splice C (a + X.length) Y).drop (a + X.length))).take _ = _
  rw [h1, h2, ← List.append_assoc, ← List.append_assoc, List.take_left' (by rw [List.length_append, List.length_append, h0])]

/-- the cells of a list with one element more in its midst -/
theorem flat_insert {α : Type} (e : Enc α) (l : List α) (i : Nat) (hi : i ≤ l.length) (x : α) :
    (l.take i ++ x :: l.drop i).flatMap e.cells = (l.flatMap e.cells).take (i * e.sz) ++ e.cells x ++ (l.flatMap e.cells).drop (i * e.sz) := by
  have hl : l.flatMap e.cells = (l.take i).flatMap e.cells ++ (l.drop i).flatMap e.cells := by rw [← List.flatMap_append, List.take_append_drop]
  have h0 : ((l.take i).flatMap e.cells).length = i * e.sz := by rw [e.flat_length, List.length_take, Nat.min_eq_left hi]
  rw [List.flatMap_append, List.flatMap_cons, hl, List.take_left' h0, List.drop_left' h0, List.append_assoc]
section
variable {P : Program}
/-- append(s[:i], make(S, k)...) where there is no room: a new row, whose first cells are those of s -/
theorem wpList_append_zeros (w : World) {ops : Array Oper} {rest : List Oper} {o : Oper} {a : Act} {Q : Exit → Act → World → Prop} (hgd : o.guard = none) (s x : Operand) (t tn : TypeId)
    (ho : o.op = .call { callee := .builtin .append, args := #[s, x], argTypes := #[t, tn] }) (E : TypeId) (i : TypeInfo) (z : Value) (sz bytes : Nat) (kn kq : IntKind)
    (ht : P.underlying t = some (.slice E)) (htn : P.underlying tn = some (.int kn)) (hi : P.info? E = some i) (hz : i.zero = some z) (hsize : i.size = sz) (hby : i.bytes = bytes) (hzs : z.cells.size = sz) (hsz : 0 < sz)
    (ad : Addr) (n cap : Nat) (olds : List Value) (hs : a.eval s = .slice (some ad) n cap) (k : Nat) (m : Int) (hm : m = k) (hx : a.eval x = .int kq m)
    (hol : olds.length = n * sz) (hold : ∀ j u, olds[j]? = some u → w.cell? (ad.add j) = some u) (h0 : 0 < k) (hg : cap < n + k) (h1 : n + k ≤ 3000000) (hb : bytes ≤ 10000) (N : Nat) (hN : N = n + k)
    (h : ∀ (w' : World) (c : Nat) (R : List Value), Hid (w'.heap[w.heap.size]? = some (.cells R.toArray E (0, 0))) → Hid (R.length = c * sz) → Hid (R.take (n * sz) = olds) → N ≤ c → c ≤ 9223372036854775807 → w.grownBy w' none → w.heap.size < w'.heap.size →
      wpList P ops Q rest (a.put o.dst (.slice (some ⟨w.heap.size, 0, none⟩) N c)) w') : wpList P ops Q (o :: rest) a w := by
  subst hm
  subst hN
  have hbb : (n + k) * bytes ≤ 3000000 * 10000 := Nat.mul_le_mul h1 hb
  have hkb : k * bytes ≤ (n + k) * bytes := Nat.mul_le_mul_right _ (by omega)
  have hrun := Lib.run_append_grow_zeros (P := P) w t tn o.type E i z kq kn ht htn hi hz (some ad) n cap olds
    (run_firstCells_some w.drew i.size n ad n cap olds (by rw [hsize]; exact hol) (fun j u hu => hold j u hu)) k h0 (by omega) hg (by omega) (by rw [hby]; omega) (by rw [hby]; exact growslice_fits hg (by omega))
  have hge := grownCap_ge w (n + k) cap E
  have hcm : grownCap w (n + k) cap E ≤ maxLen := grownCap_le_maxLen w (n + k) cap E (by simp [maxLen]; omega)
  simp only [maxLen] at hcm
  have h2 := h (w.drew.alloc (.cells (olds.toArray ++ Builtin.zeroCells z.cells k ++ Builtin.zeroCells z.cells (grownCap w (n + k) cap E - (n + k))) E)) (grownCap w (n + k) cap E) (olds ++ (Builtin.zeroCells z.cells k).toList ++ (Builtin.zeroCells z.cells (grownCap w (n + k) cap E - (n + k))).toList)
    (by
      unfold Hid
      have := heap_alloc_new w.drew (.cells (olds.toArray ++ Builtin.zeroCells z.cells k ++ Builtin.zeroCells z.cells (grownCap w (n + k) cap E - (n + k))) E)
      have e : (olds ++ (Builtin.zeroCells z.cells k).toList ++ (Builtin.zeroCells z.cells (grownCap w (n + k) cap E - (n + k))).toList).toArray = olds.toArray ++ Builtin.zeroCells z.cells k ++ Builtin.zeroCells z.cells (grownCap w (n + k) cap E - (n + k)) := by simp
      rw [e]
      exact this)
    (by
      unfold Hid
      simp only [List.length_append, Array.length_toList, size_zeroCells, hol, hzs]
      rw [← Nat.add_mul, ← Nat.add_mul]
      congr 1
      omega)
    (by unfold Hid; rw [List.append_assoc, ← hol, List.take_left]) hge hcm
    ⟨rfl, rfl, rfl, by simp, fun _ hk' _ => Below.heap_alloc w.drew _ _ hk'⟩ (by simp)
  refine wpList_plain hgd fun _ hK => ?_
  unfold Oper.wp execOp
  simp only [ho, resolve, invoke, builtin, Sem.run_bind, Sem.run_pure, Result.andThen_ok, List.map_toArray, List.map_cons, List.map_nil, hs, hx, hrun]
  exact hK _ _ h2
end

theorem grown_none {w w' : World} (h : w.grownBy w' none) (row : Option Nat) : w.grownBy w' row := ⟨h.os, h.tape, h.output, h.size, fun k hk _ => h.block k hk (by simp)⟩
theorem grown_new {w w1 w2 : World} {row : Option Nat} {G : Nat} (h : w.grownBy w1 row) (h2 : w1.grownBy w2 (some G)) (hG : w.heap.size ≤ G) : w.grownBy w2 row :=
  ⟨h2.os.trans h.os, h2.tape.trans h.tape, h2.output.trans h.output, Nat.le_trans h.size h2.size, fun k hk hne => (h2.block k (Nat.lt_of_lt_of_le hk h.size) (fun e => by injection e with e; omega)).trans (h.block k hk hne)⟩
theorem grown_drew {w w' : World} {row : Option Nat} (h : w.drew.grownBy w' row) : w.grownBy w' row := ⟨h.os, h.tape, h.output, h.size, h.block⟩
/-- the cells of a block below a world's end, known whole -/
theorem row_keep {w w' : World} {row : Option Nat} (hg : w.grownBy w' row) {g : Nat} {o : Obj} (h : w.heap[g]? = some o) (hne : some g ≠ row) : w'.heap[g]? = some o :=
  (hg.block g (Array.getElem?_eq_some_iff.1 h).1 hne).trans h
theorem row_cells {w : World} {g : Nat} {R : List Value} {E : TypeId} {o : Nat} (h : w.heap[g]? = some (.cells R.toArray E (0, 0))) (xs : List Value) (hx : ∀ j u, xs[j]? = some u → R[o + j]? = some u) :
    ∀ j u, xs[j]? = some u → w.cell? ((⟨g, o, none⟩ : Addr).add j) = some u := by
  intro j u hu
  have e : ((⟨g, o, none⟩ : Addr).add j) = ⟨g, o + j, none⟩ := by unfold Addr.add; split <;> simp_all
  rw [e, cell_of_row _ _ (o + j) _ _ (0, 0) h]
  simpa using hx j u hu
theorem splice_length {α : Type} (C X : List α) (a : Nat) (h : a + X.length ≤ C.length) : (splice C a X).length = C.length := by
  unfold splice
  simp only [List.length_append, List.length_take, List.length_drop]
  omega
section
variable {α : Type} (e : Enc α) (l : List α) (i : Nat) (hi : i ≤ l.length) (x : α)
include hi
theorem insert_len : (l.take i ++ x :: l.drop i).length = l.length + 1 := by simp; omega
omit hi in
theorem insert_drop_len : ((l.flatMap e.cells).drop (i * e.sz)).length = (l.length - i) * e.sz := by rw [List.length_drop, e.flat_length, Nat.sub_mul]
theorem insert_sum : i * e.sz + (e.cells x).length + ((l.flatMap e.cells).drop (i * e.sz)).length = (l.length + 1) * e.sz := by
  rw [insert_drop_len e l i, e.len, ← Nat.succ_mul, ← Nat.add_mul]
  congr 1
  omega
theorem insert_back (C : List Value) (hC : C.take (l.length * e.sz) = l.flatMap e.cells) (hl : (l.length + 1) * e.sz ≤ C.length) :
    (splice (splice C ((i + 1) * e.sz) ((l.flatMap e.cells).drop (i * e.sz))) (i * e.sz) (e.cells x)).take ((l.length + 1) * e.sz) = (l.take i ++ x :: l.drop i).flatMap e.cells ∧
    (splice (splice C ((i + 1) * e.sz) ((l.flatMap e.cells).drop (i * e.sz))) (i * e.sz) (e.cells x)).length = C.length := by
  have hs := insert_sum e l i hi x
  have h1 : (i + 1) * e.sz = i * e.sz + (e.cells x).length := by rw [e.len, Nat.succ_mul]
  have h2 : C.take (i * e.sz) = (l.flatMap e.cells).take (i * e.sz) := by
    rw [← hC, List.take_take]
    congr 1
    exact (Nat.min_eq_left (Nat.mul_le_mul_right _ hi)).symm
  constructor
  · rw [h1, ← hs, splice_back _ _ _ _ (by omega), flat_insert e l i hi x, h2]
  · rw [splice_length, splice_length]
    · rw [h1]; omega
    · rw [splice_length _ _ _ (by rw [h1]; omega)]; omega
theorem insert_two (R : List Value) (hR : R.take (i * e.sz) = (l.flatMap e.cells).take (i * e.sz)) (hl : (l.length + 1) * e.sz ≤ R.length) :
    (splice (splice R (i * e.sz) (e.cells x)) ((i + 1) * e.sz) ((l.flatMap e.cells).drop (i * e.sz))).take ((l.length + 1) * e.sz) = (l.take i ++ x :: l.drop i).flatMap e.cells ∧
    (splice (splice R (i * e.sz) (e.cells x)) ((i + 1) * e.sz) ((l.flatMap e.cells).drop (i * e.sz))).length = R.length := by
  have hs := insert_sum e l i hi x
  have h1 : (i + 1) * e.sz = i * e.sz + (e.cells x).length := by rw [e.len, Nat.succ_mul]
  constructor
  · rw [h1, ← hs, splice_two _ _ _ _ (by omega), flat_insert e l i hi x, hR]
  · rw [splice_length, splice_length]
    · omega
    · rw [splice_length _ _ _ (by omega), h1]; omega
end
end Go.Proofs.Ytoccmpijfggmkaa
