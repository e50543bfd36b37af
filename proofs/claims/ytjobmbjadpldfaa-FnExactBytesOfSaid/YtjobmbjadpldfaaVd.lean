/-
  append of a text to bytes of the call's own.
-/
import Derived.Test.YtjobmbjadpldfaaVc
namespace Go.Proofs.Ytjobmbjadpldfaa
open Go.RowKit
set_option maxRecDepth 100000
set_option maxHeartbeats 1000000
set_option linter.unusedVariables false
set_option linter.unusedSimpArgs false

section
variable {P : Program} (w : World)
def byteVs (l : List UInt8) : List Value := l.map fun b => Value.int .u8 (b.toNat : Int)
theorem byteVs_flat (l : List UInt8) : l.flatMap byteE.cells = byteVs l := by
  induction l with
  | nil => rfl
  | cons b l ih => rw [List.flatMap_cons, ih]; rfl
theorem byteVs_len (l : List UInt8) : (byteVs l).length = l.length := by simp [byteVs]
theorem byteVs_one (l : List UInt8) : ∀ u ∈ byteVs l, u.oneCell' = true := by
  intro u hu
  obtain ⟨b, _, rfl⟩ := List.mem_map.1 hu
  rfl
theorem str_size (l : List UInt8) : (⟨l.toArray⟩ : ByteArray).size = l.length := by simp [ByteArray.size]
theorem firstCells_str (l : List UInt8) (size : Nat) : (Builtin.firstCells size l.length (.string ⟨l.toArray⟩)).run P w = .ok (byteVs l).toArray w := by
  have h : ((⟨l.toArray⟩ : ByteArray).extract 0 l.length) = ⟨l.toArray⟩ := by
    rw [← str_size l]
    exact ByteArray.extract_zero_size
  simp only [Builtin.firstCells, h, Sem.run_pure]
  congr 1
  apply Array.ext'
  simp [byteVs]

theorem run_append_str (base : Nat) (t u ty e : TypeId) (i : TypeInfo) (z : Value) (ht : P.underlying t = some (.slice e)) (hu : P.underlying u = some .string) (hi : P.info? e = some i) (hz : i.zero = some z)
    (hsize : i.size = 1) (hby : i.bytes = 1) (hzs : z.cells.size = 1) (v : Value) (l y : List UInt8) (hown : Ow byteE e w base v l)
    (hn : l.length ≤ 3000000) (hm : y.length ≤ 3000000) (hbase : base ≤ w.heap.size) :
    ∃ v' w', (Builtin.append_ #[t, u] ty #[v, .string ⟨y.toArray⟩]).run P w = .ok v' w' ∧ Ow byteE e w' base v' (l ++ y) ∧ w.grownBy w' v.ownBlock ∧
      (v'.ownBlock = v.ownBlock ∨ v'.ownBlock = some w.heap.size) := by
  have hfc := fun w => firstCells_str (P := P) w y i.size
  have hfc1 := firstCells_str (P := P) w y 1
  have hss := str_size y
  have hfl : (l ++ y).flatMap byteE.cells = byteVs l ++ byteVs y := by rw [List.flatMap_append, byteVs_flat, byteVs_flat]
  have grown : ∀ (old : Nat) (row : Option Nat), old < l.length + y.length →
      Ow byteE e (w.drew.alloc (.cells ((byteVs l).toArray ++ (byteVs y).toArray ++ Builtin.zeroCells z.cells (grownCap w (l.length + y.length) old e - (l.length + y.length))) e)) base
        (.slice (some ⟨w.heap.size, 0, none⟩) (l.length + y.length) (grownCap w (l.length + y.length) old e)) (l ++ y) ∧
      w.grownBy (w.drew.alloc (.cells ((byteVs l).toArray ++ (byteVs y).toArray ++ Builtin.zeroCells z.cells (grownCap w (l.length + y.length) old e - (l.length + y.length))) e)) row := by
    intro old row ho
    have hge := grownCap_ge w (l.length + y.length) old e
    have hcm : grownCap w (l.length + y.length) old e ≤ maxLen := grownCap_le_maxLen w (l.length + y.length) old e (by simp [maxLen]; omega)
    refine ⟨?_, ⟨rfl, rfl, rfl, by simp, fun k hk _ => by first | exact heap_alloc_old w.drew _ k hk | exact heap_alloc_old w.drew _ hk | exact World.heap_alloc_old w.drew _ k hk⟩⟩
    unfold Ow
    rw [hfl, List.length_append]
    refine ⟨?_, .inr ⟨w.heap.size, _, _, rfl, hbase, heap_alloc_new w.drew _, hge, hcm, ?_, ?_⟩⟩
    · rw [List.length_append, byteVs_len, byteVs_len]; exact (Nat.mul_one _).symm
    · simp only [Array.size_append, List.size_toArray, size_zeroCells, hzs, byteVs_len]
      show _ = _ * 1
      omega
    · simp only [Array.toList_append]
      rw [show (l.length + y.length) * byteE.sz = (byteVs l ++ byteVs y).length by rw [List.length_append, byteVs_len, byteVs_len]; exact Nat.mul_one _]
      exact List.take_left
  rcases hown.2 with ⟨rfl, h0⟩ | ⟨g, cap, cur, rfl, hbg, hg, hnc, hcm, hcs, htake⟩
  · obtain rfl : l = [] := List.eq_nil_of_length_eq_zero h0
    by_cases hy : y.length = 0
    · obtain rfl : y = [] := List.eq_nil_of_length_eq_zero hy
      refine ⟨.slice none 0 0, w, ?_, Ow.nil _ _ _ _, World.grownBy.refl w _, .inl rfl⟩
      have h0 : (⟨#[]⟩ : ByteArray).size = 0 := rfl
      simp [Builtin.append_, run_underlying ht, run_underlying hu, sizeOf, typeInfo, hi, Builtin.lenOf, Builtin.firstCells, h0]
    · have hr := run_append_nil_string (P := P) w t u ty e i z ht hu hi hz ⟨y.toArray⟩ (by omega) (by omega) (by rw [hby]; omega)
      have hgr := grown 0 none (by simp; omega)
      rw [hss] at hr
      have he : (byteVs ([] : List UInt8)).toArray ++ (byteVs y).toArray = y.toArray.map fun b => Value.int .u8 (b.toNat : Int) := by
        apply Array.ext'; simp [byteVs]
      simp only [he, List.length_nil, Nat.zero_add, List.nil_append] at hgr ⊢
      exact ⟨_, _, hr, hgr.1, hgr.2, .inr rfl⟩
  · by_cases hroom : l.length + y.length ≤ cap
    · have hcs' : cur.size = cap := hcs.trans (Nat.mul_one _)
      have hst := run_storeCells_at P g l.length e (byteVs y) 0 cur w hg (by rw [byteVs_len]; omega) (byteVs_one y)
      simp only [Nat.add_zero] at hst
      have hrun : (Builtin.append_ #[t, u] ty #[.slice (some ⟨g, 0, none⟩) l.length cap, .string ⟨y.toArray⟩]).run P w = .ok (.slice (some ⟨g, 0, none⟩) (l.length + y.length) cap) (w.setRow g (cur.toList.take l.length ++ byteVs y ++ cur.toList.drop (l.length + (byteVs y).length)).toArray) := by
        simp [Builtin.append_, run_underlying ht, run_underlying hu, sizeOf, typeInfo, hi, Builtin.lenOf, hss, hroom, hfc1, Addr.add_lit, hst, hsize]
      refine ⟨_, _, hrun, ?_, ⟨rfl, rfl, rfl, by simp, fun k _ hk => setRow_other w g k _ (fun e => hk (by simp [Value.ownBlock, e]))⟩, .inl rfl⟩
      have htk : cur.toList.take l.length = byteVs l := by
        have := htake
        rw [byteVs_flat] at this
        rw [← this]
        congr 1
        exact (Nat.mul_one _).symm
      unfold Ow
      rw [hfl, List.length_append]
      refine ⟨?_, .inr ⟨g, cap, _, rfl, hbg, setRow_heap w g cur _ e _ hg, hroom, hcm, ?_, ?_⟩⟩
      · rw [List.length_append, byteVs_len, byteVs_len]; exact (Nat.mul_one _).symm
      · simp only [List.size_toArray, List.length_append, List.length_take, List.length_drop, Array.length_toList, byteVs_len]
        show _ = _ * 1
        omega
      · rw [htk, show (l.length + y.length) * byteE.sz = (byteVs l ++ byteVs y).length by rw [List.length_append, byteVs_len, byteVs_len]; exact Nat.mul_one _]
        exact List.take_left
    · have holds : ∀ j u, (byteVs l)[j]? = some u → w.cell? ((⟨g, 0, none⟩ : Addr).add j) = some u := by
        have := World.ownsRow.cells hown (g := g) rfl
        rw [byteVs_flat] at this
        exact this
      have hfo := run_firstCells_some (P := P) w.drew i.size l.length ⟨g, 0, none⟩ l.length cap (byteVs l) (by rw [byteVs_len, hsize]; omega) (by simpa using holds)
      have hf2 := hfc w.drew
      have h63' : ¬ (9223372036854775807 < ((l.length : Int) + (y.length : Int))) := by omega
      have h48 := growslice_fits (need := l.length + y.length) (old := cap) (bytes := i.bytes) (by omega) (by rw [hby]; omega)
      have h48' : ¬ (281474976710656 < Builtin.nextslicecap (l.length + y.length) cap * i.bytes) := by omega
      have hrun : (Builtin.append_ #[t, u] ty #[.slice (some ⟨g, 0, none⟩) l.length cap, .string ⟨y.toArray⟩]).run P w = .ok (.slice (some ⟨w.heap.size, 0, none⟩) (l.length + y.length) (grownCap w (l.length + y.length) cap e)) (w.drew.alloc (.cells ((byteVs l).toArray ++ (byteVs y).toArray ++ Builtin.zeroCells z.cells (grownCap w (l.length + y.length) cap e - (l.length + y.length))) e)) := by
        simp [Builtin.append_, run_underlying ht, run_underlying hu, sizeOf, typeInfo, zeroValue, hi, hz, Builtin.lenOf, hss, hroom, h63', h48', Question.forced, hf2, hfo, newRow, grownCap]
        try (congr 2; apply Array.ext'; simp [List.append_assoc])
      have hgr := grown cap (Value.ownBlock (.slice (some ⟨g, 0, none⟩) l.length cap)) (by omega)
      exact ⟨_, _, hrun, hgr.1, hgr.2, .inr rfl⟩
end

/-- at the operation -/
theorem wpList_push_str {P : Program} {ops : Array Oper} {rest : List Oper} {o : Oper} {a : Act} {Q : Exit → Act → World → Prop} {w : World} (hgd : o.guard = none) (s x : Operand) {t u : TypeId}
    (ho : o.op = .call { callee := .builtin .append, args := #[s, x], argTypes := #[t, u] })
    {base : Nat} {E : TypeId} {i : TypeInfo} {z : Value} (ht : P.underlying t = some (.slice E)) (hu : P.underlying u = some .string) (hi : P.info? E = some i) (hz : i.zero = some z)
    (hsize : i.size = 1) (hby : i.bytes = 1) (hzs : z.cells.size = 1)
    {v : Value} {l y : List UInt8} (hs : a.eval s = v) (hown : Ow byteE E w base v l) (hx : a.eval x = strV y)
    (hn : l.length ≤ 3000000) (hm : y.length ≤ 3000000) (hbase : base ≤ w.heap.size)
    (h : ∀ v' w', Ow byteE E w' base v' (l ++ y) → w.grownBy w' v.ownBlock → (v'.ownBlock = v.ownBlock ∨ v'.ownBlock = some w.heap.size) → wpList P ops Q rest (a.put o.dst v') w') : wpList P ops Q (o :: rest) a w :=
  wpList_plain hgd fun K hK => by
    obtain ⟨v', w', hrun, h2, h3, h4⟩ := run_append_str (P := P) w base t u o.type E i z ht hu hi hz hsize hby hzs v l y hown hn hm hbase
    unfold Oper.wp execOp
    simp only [ho, resolve, invoke, builtin, Sem.run_bind, Sem.run_pure, Result.andThen_ok, List.map_toArray, List.map_cons, List.map_nil, hs, hx, hrun]
    exact hK _ _ (h v' w' h2 h3 h4)
end Go.Proofs.Ytjobmbjadpldfaa
