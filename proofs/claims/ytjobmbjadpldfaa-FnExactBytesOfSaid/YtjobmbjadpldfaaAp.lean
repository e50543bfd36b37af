/-
  append of a whole slice that reads as a list, nil or not, onto a slice of the call's own.
-/
import Derived.Test.YtjobmbjadpldfaaBx
import Derived.Maps.AppendAt
import Derived.RegionTactic
import Derived.OwnWalk
namespace Go.Proofs.Ytjobmbjadpldfaa
open Go.RowKit
set_option maxRecDepth 100000

section
variable {P : Program} (w : World)

theorem run_append_nothing (base : Nat) (t ty e : TypeId) (i : TypeInfo) (size : Nat) (ht : P.underlying t = some (.slice e)) (hi : P.info? e = some i)
    (v : Value) (n : Nat) (xs : List Value) (hown : w.ownsRow base e size v n xs) (c : Nat) : (Builtin.append_ #[t, t] ty #[v, .slice none 0 c]).run P w = .ok v w := by
  rcases hown.2 with ⟨rfl, rfl⟩ | ⟨g, cap, cur, rfl, _, _, hnc, _⟩
  · simp [Builtin.append_, run_underlying ht, sizeOf, typeInfo, hi, Builtin.lenOf, Builtin.firstCells]
  · simp [Builtin.append_, run_underlying ht, sizeOf, typeInfo, hi, Builtin.lenOf, Builtin.firstCells, hnc, storeCells]

theorem rd_news {α : Type} {e : Enc α} (hsz : 0 < e.sz) {w : World} {B : Nat} {A : Option Addr} {m c : Nat} {ys : List α} (hr : Rd e w B (.slice A m c) ys) : m = ys.length ∧ (0 < m → ∃ ad, A = some ad ∧ ∀ j u, (ys.flatMap e.cells)[j]? = some u → w.cell? (ad.add j) = some u) := by
  obtain ⟨A', c', hv, _, hA⟩ := hr
  simp only [Value.slice.injEq] at hv
  obtain ⟨rfl, rfl, rfl⟩ := hv
  refine ⟨rfl, fun hm => ?_⟩
  obtain ⟨b, o, rfl, hb, hc⟩ := hA hm
  refine ⟨⟨b, o, none⟩, rfl, fun j u hu => ?_⟩
  have hlt := (List.getElem?_eq_some_iff.1 hu).1
  rw [e.flat_length] at hlt
  have hk : j / e.sz < ys.length := Nat.div_lt_of_lt_mul (by rw [Nat.mul_comm]; exact hlt)
  have hj : j % e.sz < e.sz := Nat.mod_lt _ hsz
  have hij : j / e.sz * e.sz + j % e.sz = j := by rw [Nat.mul_comm]; exact Nat.div_add_mod _ _
  have h1 := e.flat_get hj ys (j / e.sz) hk
  rw [hij] at h1
  have h2 := hc (j / e.sz) hk (j % e.sz) u (by rw [← h1]; exact hu)
  have ea : (⟨b, o, none⟩ : Addr).add j = ⟨b, o + j / e.sz * e.sz + j % e.sz, none⟩ := by
    rw [Nat.add_assoc, hij]
    unfold Addr.add
    split <;> simp_all
  rw [ea]
  exact h2

theorem run_append_rd {α : Type} (e : Enc α) (hsz : 0 < e.sz) (base : Nat) (t ty E : TypeId) (i : TypeInfo) (z : Value) (bytes : Nat) (ht : P.underlying t = some (.slice E)) (hi : P.info? E = some i) (hz : i.zero = some z)
    (hsize : i.size = e.sz) (hby : i.bytes = bytes) (hzs : z.cells.size = e.sz)
    (v : Value) (l : List α) (hown : Ow e E w base v l)
    (B : Nat) (A : Option Addr) (m c : Nat) (ys : List α) (hr : Rd e w B (.slice A m c) ys)
    (hn : l.length ≤ 3000000) (hm : ys.length ≤ 3000000) (hbytes : bytes ≤ 10000) (hbase : base ≤ w.heap.size) :
    ∃ v' w', (Builtin.append_ #[t, t] ty #[v, .slice A m c]).run P w = .ok v' w' ∧ Ow e E w' base v' (l ++ ys) ∧ w.grownBy w' v.ownBlock ∧
      (v'.ownBlock = v.ownBlock ∨ v'.ownBlock = some w.heap.size) := by
  obtain ⟨rfl, hA⟩ := rd_news hsz hr
  have h0 : ∀ ad : Addr, A = some ad → ∀ j u, (ys.flatMap e.cells)[j]? = some u → w.cell? (ad.add j) = some u := by
    intro ad hAd j u hu
    rcases Nat.eq_zero_or_pos ys.length with hz0 | hpos
    · have : ys = [] := List.eq_nil_of_length_eq_zero hz0
      subst this
      simp at hu
    · obtain ⟨ad', hA', hc⟩ := hA hpos
      rw [hA'] at hAd
      injection hAd with hAd
      subst hAd
      exact hc j u hu
  rcases A with _ | ad
  · have hm0 : ys = [] := by
      rcases Nat.eq_zero_or_pos ys.length with h1 | h1
      · exact List.eq_nil_of_length_eq_zero h1
      · obtain ⟨_, h2, _⟩ := hA h1
        cases h2
    subst hm0
    exact ⟨v, w, run_append_nothing w base t ty E i e.sz ht hi v l.length (l.flatMap e.cells) hown c, by simpa using hown, World.grownBy.refl w _, .inl rfl⟩
  · have h1 : ∀ u ∈ ys.flatMap e.cells, u.oneCell' = true := by
      intro u hu
      obtain ⟨y, _, hy⟩ := List.mem_flatMap.1 hu
      exact e.one y u hy
    have hb2 : (l.length + ys.length) * bytes ≤ 6000000 * 10000 := Nat.mul_le_mul (by omega) hbytes
    obtain ⟨v', w', hrun, h2, h3, _, h5⟩ := run_append_own_at (P := P) w base t ty E i z e.sz bytes ht hi hz hsize hby hzs hsz v l.length (l.flatMap e.cells) hown ad ys.length c (ys.flatMap e.cells) (e.flat_length ys) (h0 ad rfl) h1 (by simp [maxLen]; omega) (by omega) hbase
    refine ⟨v', w', hrun, ?_, h3, h5⟩
    unfold Ow
    rw [List.length_append, List.flatMap_append]
    exact h2

theorem wp_append_rd {α : Type} {o : Oper} {a : Act} {K : Act → World → Prop} {Q : Exit → Act → World → Prop} (e : Enc α) (hsz : 0 < e.sz) (s x : Operand) (t : TypeId)
    (ho : o.op = .call { callee := .builtin .append, args := #[s, x], argTypes := #[t, t] })
    (base : Nat) (E : TypeId) (i : TypeInfo) (z : Value) (bytes : Nat) (ht : P.underlying t = some (.slice E)) (hi : P.info? E = some i) (hz : i.zero = some z)
    (hsize : i.size = e.sz) (hby : i.bytes = bytes) (hzs : z.cells.size = e.sz)
    (v : Value) (l : List α) (hs : a.eval s = v) (hown : Ow e E w base v l)
    (B : Nat) (A : Option Addr) (m c : Nat) (ys : List α) (hx : a.eval x = .slice A m c) (hr : Rd e w B (.slice A m c) ys)
    (hn : l.length ≤ 3000000) (hm : ys.length ≤ 3000000) (hbytes : bytes ≤ 10000) (hbase : base ≤ w.heap.size)
    (h : ∀ v' w', Ow e E w' base v' (l ++ ys) → w.grownBy w' v.ownBlock → (v'.ownBlock = v.ownBlock ∨ v'.ownBlock = some w.heap.size) → K (a.put o.dst v') w') : o.wp P a w K Q := by
  obtain ⟨v', w', hrun, h2, h3, h4⟩ := run_append_rd (P := P) w e hsz base t o.type E i z bytes ht hi hz hsize hby hzs v l hown B A m c ys hr hn hm hbytes hbase
  unfold Oper.wp execOp
  simp only [ho, resolve, invoke, builtin, Sem.run_bind, Sem.run_pure, Result.andThen_ok, List.map_toArray, List.map_cons, List.map_nil, hs, hx, hrun]
  exact h v' w' h2 h3 h4

/-- all of a slice is appended to one of the call's own -/
theorem wpList_push_all {α : Type} {ops : Array Oper} {rest : List Oper} {o : Oper} {a : Act} {Q : Exit → Act → World → Prop} (e : Enc α) (hsz : 0 < e.sz) (hgd : o.guard = none) (s x : Operand) {t : TypeId}
    (ho : o.op = .call { callee := .builtin .append, args := #[s, x], argTypes := #[t, t] })
    {base : Nat} {E : TypeId} {i : TypeInfo} {z : Value} {bytes : Nat} (ht : P.underlying t = some (.slice E)) (hi : P.info? E = some i) (hz : i.zero = some z)
    (hsize : i.size = e.sz) (hby : i.bytes = bytes) (hzs : z.cells.size = e.sz)
    {v : Value} {l : List α} (hs : a.eval s = v) (hown : Ow e E w base v l)
    {B : Nat} {A : Option Addr} {m c : Nat} {ys : List α} (hx : a.eval x = .slice A m c) (hr : Rd e w B (.slice A m c) ys)
    (hn : l.length ≤ 3000000) (hm : ys.length ≤ 3000000) (hbytes : bytes ≤ 10000) (hbase : base ≤ w.heap.size)
    (h : ∀ v' w', Ow e E w' base v' (l ++ ys) → w.grownBy w' v.ownBlock → (v'.ownBlock = v.ownBlock ∨ v'.ownBlock = some w.heap.size) → wpList P ops Q rest (a.put o.dst v') w') : wpList P ops Q (o :: rest) a w :=
  wpList_plain hgd fun _ hK => wp_append_rd w e hsz s x t ho base E i z bytes ht hi hz hsize hby hzs v l hs hown B A m c ys hx hr hn hm hbytes hbase fun v' w' h2 h3 h4 => hK _ _ (h v' w' h2 h3 h4)

/-- the same at a step of a region that draws its order -/
theorem step_push_all {α : Type} {ops : Array Oper} {o : Oper} {a : Act} {K : Act → World → Prop} {Q : Exit → Act → World → Prop} {EE : Prop} (e : Enc α) (hsz : 0 < e.sz) (hgd : o.guard = none) (s x : Operand) {t : TypeId}
    (ho : o.op = .call { callee := .builtin .append, args := #[s, x], argTypes := #[t, t] })
    {base : Nat} {E : TypeId} {i : TypeInfo} {z : Value} {bytes : Nat} (ht : P.underlying t = some (.slice E)) (hi : P.info? E = some i) (hz : i.zero = some z)
    (hsize : i.size = e.sz) (hby : i.bytes = bytes) (hzs : z.cells.size = e.sz)
    {v : Value} {l : List α} (hs : a.eval s = v) (hown : Ow e E w base v l)
    {B : Nat} {A : Option Addr} {m c : Nat} {ys : List α} (hx : a.eval x = .slice A m c) (hr : Rd e w B (.slice A m c) ys)
    (hn : l.length ≤ 3000000) (hm : ys.length ≤ 3000000) (hbytes : bytes ≤ 10000) (hbase : base ≤ w.heap.size)
    (h : ∀ v' w', Ow e E w' base v' (l ++ ys) → w.grownBy w' v.ownBlock → (v'.ownBlock = v.ownBlock ∨ v'.ownBlock = some w.heap.size) → K (a.put o.dst v') w') :
    if Region.wanted o (yielded ops a.tmps) = true then Oper.wp P o a w K Q else EE := by
  have hw : Region.wanted o (yielded ops a.tmps) = true := by simp [Region.wanted, hgd]
  rw [if_pos hw]
  exact wp_append_rd w e hsz s x t ho base E i z bytes ht hi hz hsize hby hzs v l hs hown B A m c ys hx hr hn hm hbytes hbase h
end

/-- one element that was just laid -/
theorem Rd.one {α : Type} (e : Enc α) (w : World) (T : TypeId) (x : α) {g : Nat} (hg : g = w.heap.size) {cs : Array Value} (hcs : cs = (e.cells x).toArray) (c : Nat) (hc : 1 ≤ c) {B : Nat} (hB : g < B) : Rd e (w.alloc (.cells cs T)) B (.slice (some ⟨g, 0, none⟩) 1 c) [x] := by
  refine ⟨_, c, rfl, by simpa using hc, fun _ => ⟨g, 0, rfl, hB, fun k hk j u hu => ?_⟩⟩
  have hk0 : k = 0 := by simpa using hk
  subst hk0
  simp only [List.getElem_cons_zero] at hu
  have := news_new w cs T hg j u (by rw [hcs]; simpa using hu)
  have ea : (⟨g, 0, none⟩ : Addr).add j = ⟨g, 0 + 0 * e.sz + j, none⟩ := by
    unfold Addr.add
    split <;> simp_all
  rw [ea] at this
  exact this

/-- a slice of no element that is not nil -/
theorem Ow.empty {α : Type} (e : Enc α) (E : TypeId) (w : World) {g : Nat} (hg : g = w.heap.size) : Ow e E (w.alloc (.cells #[] E)) g (.slice (some ⟨g, 0, none⟩) 0 0) [] := by
  subst hg
  exact World.ownsRow_lit (base := w.heap.size) (e := E) (size := e.sz) w #[] 0 (Nat.le_refl _) (by simp [maxLen]) (by simp)
end Go.Proofs.Ytjobmbjadpldfaa
