/-
  Data that hold slices: how they lie in memory (Dt), lists of them (RdL), and what a call owns of them (Hw, Ows, OwL), with the blocks that it takes.
-/
import Derived.Test.YtjobmbjadpldfaaAp
import Derived.Test.YtjobmbjadpldfaaRead
namespace Go.Proofs.Ytjobmbjadpldfaa
open Go.RowKit
set_option maxRecDepth 100000

/-- the head of a slice -/
structure Sl where
  a : Option Addr
  n : Nat
  c : Nat
abbrev Sl.v (s : Sl) : Value := .slice s.a s.n s.c

/-- nothing but the blocks of F has changed; what is new lies behind -/
structure Chg (F : List Nat) (w w' : World) : Prop where
  os : w'.os = w.os
  tape : w'.tape = w.tape
  output : w'.output = w.output
  size : w.heap.size ≤ w'.heap.size
  block : ∀ b, b < w.heap.size → b ∉ F → w'.heap[b]? = w.heap[b]?
theorem Chg.refl (F : List Nat) (w : World) : Chg F w w := ⟨rfl, rfl, rfl, Nat.le_refl _, fun _ _ _ => rfl⟩
theorem Chg.trans {F : List Nat} {a b c : World} (h : Chg F a b) (k : Chg F b c) : Chg F a c :=
  ⟨k.os.trans h.os, k.tape.trans h.tape, k.output.trans h.output, Nat.le_trans h.size k.size, fun i hi hn => (k.block i (Nat.lt_of_lt_of_le hi h.size) hn).trans (h.block i hi hn)⟩
theorem Chg.mono {F G : List Nat} {a b : World} (h : Chg F a b) (hs : ∀ x ∈ F, x ∈ G) : Chg G a b := ⟨h.os, h.tape, h.output, h.size, fun i hi hn => h.block i hi (fun hx => hn (hs i hx))⟩
theorem Chg.of_below {a b : World} (F : List Nat) (h : Below a.heap.size a b) : Chg F a b := ⟨h.os, h.tape, h.output, h.size, fun i hi _ => h.block i hi⟩
theorem Chg.below {F : List Nat} {a b : World} (h : Chg F a b) {base : Nat} (hb : base ≤ a.heap.size) (hF : ∀ x ∈ F, base ≤ x) : Below base a b :=
  ⟨h.os, h.tape, h.output, h.size, fun i hi => h.block i (by omega) (fun hx => by have := hF i hx; omega)⟩
theorem Chg.setCell (w : World) (b o : Nat) (u : Value) : Chg [b] w (w.setCell ⟨b, o, none⟩ u) :=
  ⟨rfl, rfl, rfl, by simp [World.setCell], fun i _ hn => Below.heap_setCell w ⟨b, o, none⟩ u i (by simpa using hn)⟩
theorem Chg.grown {F : List Nat} {a b : World} {row : Option Nat} (h : a.grownBy b row) (hr : ∀ g, row = some g → g ∈ F) : Chg F a b :=
  ⟨h.os, h.tape, h.output, h.size, fun i hi hn => h.block i hi (fun e => hn (hr i e.symm))⟩
theorem Chg.cell {F : List Nat} {w w' : World} (h : Chg F w w') {p : Addr} (hp : p.block < w.heap.size) (hn : p.block ∉ F) : w'.cell? p = w.cell? p := World.cell?_of_block (h.block _ hp hn)
theorem Chg.frozen {F : List Nat} {w w' : World} (h : Chg F w w') {p : Addr} (hp : p.block < w.heap.size) (hn : p.block ∉ F) : w'.frozen? p = w.frozen? p := World.frozen?_of_block (h.block _ hp hn)

section
variable {α : Type} {e : Enc α} {w w' : World} {B B' : Nat} {v : Value} {l : List α} {F G : List Nat}

/-- the blocks that a slice takes -/
def blocks (v : Value) (n : Nat) : List Nat := if n = 0 then [] else v.ownBlock.toList
theorem blocks_nodup (v : Value) (n : Nat) : (blocks v n).Nodup := by
  unfold blocks
  split
  · exact List.nodup_nil
  · cases v.ownBlock <;> simp
/-- v reads as l, and what it reads may be written -/
def Hw (e : Enc α) (w : World) (F : List Nat) (v : Value) (l : List α) : Prop := Rd e w w.heap.size v l ∧ F = blocks v l.length ∧ ∀ g ∈ F, ∀ j, w.frozen? ⟨g, j, none⟩ = false

theorem Rd.block_lt {A : Option Addr} {n c : Nat} (h : Rd e w B (.slice A n c) l) : ∀ b ∈ blocks (.slice A n c) l.length, b < B := by
  intro b hb
  obtain ⟨A', c', hv, _, hA⟩ := h
  simp only [Value.slice.injEq] at hv
  obtain ⟨rfl, rfl, rfl⟩ := hv
  unfold blocks at hb
  split at hb
  · cases hb
  · obtain ⟨b', o', rfl, hlt, _⟩ := hA (by omega)
    simp [Value.ownBlock] at hb
    omega
theorem Rd.keepF (h : Rd e w B v l) (hB : B ≤ B') (hk : ∀ b ∈ blocks v l.length, ∀ o, w'.cell? ⟨b, o, none⟩ = w.cell? ⟨b, o, none⟩) : Rd e w' B' v l := by
  obtain ⟨A, c, rfl, hcap, hA⟩ := h
  refine ⟨A, c, rfl, hcap, fun hl => ?_⟩
  obtain ⟨b, o, rfl, hlt, hc⟩ := hA hl
  refine ⟨b, o, rfl, by omega, fun k hk' j u hu => ?_⟩
  rw [hk b (by unfold blocks; rw [if_neg (by omega)]; simp [Value.ownBlock])]
  exact hc k hk' j u hu
theorem Rd.to_lt (h : Rd e w B v l) (hB : ∀ b ∈ blocks v l.length, b < B') : Rd e w B' v l := by
  obtain ⟨A, c, rfl, hcap, hA⟩ := h
  refine ⟨A, c, rfl, hcap, fun hl => ?_⟩
  obtain ⟨b, o, rfl, hlt, hc⟩ := hA hl
  exact ⟨b, o, rfl, hB b (by unfold blocks; rw [if_neg (by omega)]; simp [Value.ownBlock]), hc⟩
theorem Hw.lt (h : Hw e w F v l) : ∀ b ∈ F, b < w.heap.size := by
  obtain ⟨hr, rfl, _⟩ := h
  obtain ⟨A, c, rfl, _⟩ := id hr
  exact hr.block_lt
theorem Hw.nodup (h : Hw e w F v l) : F.Nodup := by
  obtain ⟨_, rfl, _⟩ := h
  exact blocks_nodup _ _
theorem Hw.keep (h : Hw e w F v l) (hs : w.heap.size ≤ w'.heap.size) (hk : ∀ b ∈ F, w'.heap[b]? = w.heap[b]?) : Hw e w' F v l := by
  obtain ⟨hr, rfl, hf⟩ := h
  refine ⟨hr.keepF hs (fun b hb o => World.cell?_of_block (hk b hb)), rfl, fun g hg j => ?_⟩
  rw [World.frozen?_of_block (w := w) (hk g hg)]
  exact hf g hg j
theorem Hw.chg (h : Hw e w F v l) (hc : Chg G w w') (hd : ∀ b ∈ F, b ∉ G) : Hw e w' F v l := h.keep hc.size fun b hb => hc.block b (h.lt b hb) (hd b hb)
theorem Hw.below (h : Hw e w F v l) (hb : Below w.heap.size w w') : Hw e w' F v l := h.keep hb.size fun b hF => hb.block b (h.lt b hF)
theorem Hw.rd (h : Hw e w F v l) : Rd e w w.heap.size v l := h.1
theorem Hw.of_ow {E : TypeId} {base : Nat} (h : Ow e E w base v l) : Hw e w (blocks v l.length) v l ∧ ∀ b ∈ blocks v l.length, base ≤ b := by
  have hr := Rd.of_own h
  rcases h.form with ⟨rfl, rfl⟩ | ⟨g, cap, rfl, h1, h2, _, _, hf, _⟩
  · exact ⟨⟨hr, rfl, fun g hg => by simp [blocks] at hg⟩, fun b hb => by simp [blocks] at hb⟩
  · have hb : ∀ b ∈ blocks (.slice (some ⟨g, 0, none⟩) l.length cap) l.length, b = g := by
      intro b hb
      unfold blocks at hb
      split at hb
      · cases hb
      · simpa [Value.ownBlock] using hb
    exact ⟨⟨hr, rfl, fun b hb' j => by rw [hb b hb']; exact hf j⟩, fun b hb' => by rw [hb b hb']; exact h1⟩
theorem Hw.nil (e : Enc α) (w : World) (A : Option Addr) (c : Nat) : Hw e w [] (.slice A 0 c) [] :=
  ⟨⟨A, c, rfl, Nat.zero_le _, fun h => absurd h (by simp)⟩, by simp [blocks], fun _ h => by cases h⟩
/-- where the slice lies, and what it holds -/
theorem Hw.at_ {A : Option Addr} {n c : Nat} (h : Hw e w F (.slice A n c) l) (hp : 0 < l.length) : ∃ b o, A = some ⟨b, o, none⟩ ∧ F = [b] ∧ b < w.heap.size ∧ (∀ j, w.frozen? ⟨b, j, none⟩ = false) := by
  obtain ⟨hr, hF, hf⟩ := h
  obtain ⟨A', c', hv, _, hA⟩ := id hr
  simp only [Value.slice.injEq] at hv
  obtain ⟨rfl, rfl, rfl⟩ := hv
  obtain ⟨b, o, rfl, hlt, _⟩ := hA hp
  have hFb : F = [b] := by
    rw [hF]
    unfold blocks
    rw [if_neg (by omega)]
    rfl
  exact ⟨b, o, rfl, hFb, hlt, fun j => hf b (by rw [hFb]; simp) j⟩
end

theorem wSeq_chg : ∀ (us : List Value) (w : World) (b i : Nat), Chg [b] w (wSeq w b i us)
  | [], w, b, _ => Chg.refl [b] w
  | u :: us, w, b, i => (Chg.setCell w b i u).trans (wSeq_chg us _ b (i + 1))
theorem wSeq_size : ∀ (us : List Value) (w : World) (b i : Nat), (wSeq w b i us).heap.size = w.heap.size
  | [], _, _, _ => rfl
  | u :: us, w, b, i => by
    rw [wSeq, wSeq_size us]
    simp [World.setCell]
theorem setCell_cell (w : World) (b o i : Nat) (u u0 : Value) (h0 : w.cell? ⟨b, o, none⟩ = some u0) (hi : ∃ x, w.cell? ⟨b, i, none⟩ = some x) :
    (w.setCell ⟨b, i, none⟩ u).cell? ⟨b, o, none⟩ = some (if o = i then u else u0) := by
  by_cases h : o = i
  · subst h
    rw [if_pos rfl]
    obtain ⟨x, hx⟩ := hi
    simp [go_sem, hx]
  · rw [if_neg h]
    have := h0
    simp [go_sem, this]
/-- cells of one block after some, one behind the other, were written -/
theorem wSeq_cell : ∀ (us : List Value) (w : World) (b i o : Nat) (u0 : Value), (∀ j, j < us.length → ∃ x, w.cell? ⟨b, i + j, none⟩ = some x) → w.cell? ⟨b, o, none⟩ = some u0 →
    (wSeq w b i us).cell? ⟨b, o, none⟩ = some (if h : i ≤ o ∧ o < i + us.length then us[o - i]'(by omega) else u0)
  | [], w, b, i, o, u0, _, h0 => by
    rw [wSeq, h0, dif_neg (by simp)]
  | u :: us, w, b, i, o, u0, hx, h0 => by
    have h1 := setCell_cell w b o i u u0 h0 (by simpa using hx 0 (by simp))
    have h2 := wSeq_cell us (w.setCell ⟨b, i, none⟩ u) b (i + 1) o _ (fun j hj => by
      obtain ⟨x, hx'⟩ := hx (j + 1) (by simpa using hj)
      exact ⟨_, setCell_cell w b (i + 1 + j) i u x (by rw [show i + 1 + j = i + (j + 1) from by omega]; exact hx') (by simpa using hx 0 (by simp))⟩) h1
    rw [wSeq, h2]
    congr 1
    by_cases ho : o = i
    · subst ho
      rw [dif_neg (by omega), if_pos rfl, dif_pos (by simp)]
      simp
    · by_cases hin : i + 1 ≤ o ∧ o < i + 1 + us.length
      · rw [dif_pos hin, dif_pos (by simp only [List.length_cons]; omega)]
        have : o - i = (o - (i + 1)) + 1 := by omega
        simp only [this, List.getElem_cons_succ]
      · rw [dif_neg hin, if_neg ho, dif_neg (by simp only [List.length_cons]; omega)]
theorem setCell_frozen (w : World) (a : Addr) (u : Value) (p : Addr) : (w.setCell a u).frozen? p = w.frozen? p := by simp [go_sem]
theorem wSeq_frozen : ∀ (us : List Value) (w : World) (b i : Nat) (p : Addr), (wSeq w b i us).frozen? p = w.frozen? p
  | [], _, _, _, _ => rfl
  | u :: us, w, b, i, p => by rw [wSeq, wSeq_frozen us, setCell_frozen]

/-- a part of one element's cells is written -/
theorem Rd.part {α : Type} {e : Enc α} {w : World} {B b o n c : Nat} {l : List α} (h : Rd e w B (.slice (some ⟨b, o, none⟩) n c) l) (k : Nat) (hk : k < l.length) (y : α) (off : Nat) (us : List Value) (hoff : off + us.length ≤ e.sz)
    (hin : ∀ j (hj : j < us.length), (e.cells y)[off + j]? = some us[j]) (hout : ∀ j, j < e.sz → (j < off ∨ off + us.length ≤ j) → (e.cells y)[j]? = (e.cells l[k])[j]?) :
    Rd e (wSeq w b (o + k * e.sz + off) us) B (.slice (some ⟨b, o, none⟩) n c) (l.set k y) := by
  obtain ⟨A', c', hv, hcap, hA⟩ := h
  simp only [Value.slice.injEq] at hv
  obtain ⟨rfl, rfl, rfl⟩ := hv
  refine ⟨_, c, by rw [List.length_set], by rw [List.length_set]; exact hcap, fun _ => ?_⟩
  obtain ⟨b', o', he, hlt, hc⟩ := hA (by omega)
  simp only [Option.some.injEq, Addr.mk.injEq, and_true] at he
  obtain ⟨rfl, rfl⟩ := he
  refine ⟨b, o, rfl, hlt, fun i hi0 j u hu => ?_⟩
  have hi : i < l.length := by rw [List.length_set] at hi0; exact hi0
  have hj : j < e.sz := by
    have := (List.getElem?_eq_some_iff.1 hu).1
    rw [e.len] at this
    exact this
  have hex : ∀ j', j' < us.length → ∃ x, w.cell? ⟨b, o + k * e.sz + off + j', none⟩ = some x := fun j' hj' => by
    have hlt' : off + j' < (e.cells l[k]).length := by rw [e.len]; omega
    exact ⟨_, by rw [Nat.add_assoc]; exact hc k hk (off + j') _ (List.getElem?_eq_getElem hlt')⟩
  by_cases hik : i = k
  · subst hik
    rw [List.getElem_set_self] at hu
    have hl0 : j < (e.cells l[i]).length := by rw [e.len]; exact hj
    have h0 := hc i hi j _ (List.getElem?_eq_getElem hl0)
    have h1 := wSeq_cell us w b (o + i * e.sz + off) (o + i * e.sz + j) _ hex h0
    rw [h1]
    by_cases hr : off ≤ j ∧ j < off + us.length
    · rw [dif_pos (by omega)]
      have h2 := hin (j - off) (by omega)
      rw [show off + (j - off) = j from by omega, hu] at h2
      have h3 : o + i * e.sz + j - (o + i * e.sz + off) = j - off := by omega
      simp only [h3]
      exact h2.symm
    · rw [dif_neg (by omega)]
      have h2 := hout j hj (by omega)
      rw [hu, List.getElem?_eq_getElem hl0] at h2
      exact h2.symm
  · rw [List.getElem_set_ne (by omega)] at hu
    have h0 := hc i hi j u hu
    have h1 := wSeq_cell us w b (o + k * e.sz + off) (o + i * e.sz + j) _ hex h0
    rw [h1, dif_neg]
    intro hh
    rcases Nat.lt_or_gt_of_ne hik with h | h
    · have : (i + 1) * e.sz ≤ k * e.sz := Nat.mul_le_mul_right _ h
      rw [Nat.succ_mul] at this
      omega
    · have : (k + 1) * e.sz ≤ i * e.sz := Nat.mul_le_mul_right _ h
      rw [Nat.succ_mul] at this
      omega
/-- another datum with the same cells -/
theorem Rd.same {α : Type} {e : Enc α} {w : World} {B : Nat} {v : Value} {l : List α} (h : Rd e w B v l) (k : Nat) (hk : k < l.length) (y : α) (hy : e.cells y = e.cells l[k]) : Rd e w B v (l.set k y) := by
  obtain ⟨A, c, rfl, hcap, hA⟩ := h
  refine ⟨A, c, by rw [List.length_set], by rw [List.length_set]; exact hcap, fun hl => ?_⟩
  rw [List.length_set] at hl
  obtain ⟨b, o, hb, hlt, hc⟩ := hA hl
  refine ⟨b, o, hb, hlt, fun i hi0 j u hu => ?_⟩
  have hi : i < l.length := by rw [List.length_set] at hi0; exact hi0
  refine hc i hi j u ?_
  by_cases hik : k = i
  · subst hik
    rw [List.getElem_set_self, hy] at hu
    exact hu
  · rw [List.getElem_set_ne hik] at hu
    exact hu

/-- a kind of data: how the own cells lie, what the slices in them read, what of it is owned -/
structure Dt (α : Type) where
  S : Type
  enc : Enc (α × S)
  rd : World → Nat → α → S → Prop
  ow : World → List Nat → α → S → Prop
  rd_keep : ∀ {w w' : World} {B B' : Nat} {x : α} {s : S}, rd w B x s → B ≤ B' → (∀ p : Addr, p.block < B → w'.cell? p = w.cell? p) → rd w' B' x s
  ow_keep : ∀ {w w' : World} {F : List Nat} {x : α} {s : S}, ow w F x s → w.heap.size ≤ w'.heap.size → (∀ b ∈ F, w'.heap[b]? = w.heap[b]?) → ow w' F x s
  ow_lt : ∀ {w : World} {F : List Nat} {x : α} {s : S}, ow w F x s → ∀ b ∈ F, b < w.heap.size
  ow_rd : ∀ {w : World} {F : List Nat} {x : α} {s : S}, ow w F x s → rd w w.heap.size x s
  ow_nodup : ∀ {w : World} {F : List Nat} {x : α} {s : S}, ow w F x s → F.Nodup

section
variable {α : Type} {d : Dt α} {w w' : World} {B B' : Nat} {v : Value} {l : List α} {F G : List Nat}

/-- v is a slice that reads as l, below block B -/
def RdL (d : Dt α) (w : World) (B : Nat) (v : Value) (l : List α) : Prop := ∃ rs : List (α × d.S), rs.map (·.1) = l ∧ Rd d.enc w B v rs ∧ ∀ r ∈ rs, d.rd w B r.1 r.2
theorem RdL.keep (h : RdL d w B v l) (hB : B ≤ B') (hk : ∀ p : Addr, p.block < B → w'.cell? p = w.cell? p) : RdL d w' B' v l := by
  obtain ⟨rs, hm, hr, ha⟩ := h
  exact ⟨rs, hm, (hr.keep hk).more hB, fun r hx => d.rd_keep (ha r hx) hB hk⟩
theorem RdL.below (h : RdL d w B v l) (hb : Below B w w') : RdL d w' B v l := h.keep (Nat.le_refl _) fun _ hp => hb.cell hp
theorem RdL.more (h : RdL d w B v l) (hB : B ≤ B') : RdL d w B' v l := h.keep hB fun _ _ => rfl
theorem RdL.form (h : RdL d w B v l) : ∃ A c, v = .slice A l.length c ∧ l.length ≤ c := by
  obtain ⟨rs, rfl, ⟨A, c, hv, hc, _⟩, _⟩ := h
  exact ⟨A, c, by rw [List.length_map]; exact hv, by rw [List.length_map]; exact hc⟩
theorem RdL.at_ {A : Option Addr} {n c : Nat} (h : RdL d w B (.slice A n c) l) (k : Nat) (hk : k < l.length) : ∃ b o s, A = some ⟨b, o, none⟩ ∧ b < B ∧
    (∀ j u, (d.enc.cells (l[k], s))[j]? = some u → w.cell? ⟨b, o + k * d.enc.sz + j, none⟩ = some u) ∧ d.rd w B l[k] s := by
  obtain ⟨rs, rfl, ⟨A', c', hv, _, hA⟩, ha⟩ := h
  simp only [Value.slice.injEq] at hv
  obtain ⟨rfl, _, _⟩ := hv
  rw [List.length_map] at hk
  obtain ⟨b, o, hA', hb, hc⟩ := hA (by omega)
  have e : (rs.map (·.1))[k]'(by rw [List.length_map]; exact hk) = rs[k].1 := by rw [List.getElem_map]
  refine ⟨b, o, rs[k].2, hA', hb, fun j u hu => ?_, ?_⟩
  · rw [e] at hu
    exact hc k hk j u hu
  · rw [e]
    exact ha _ (List.getElem_mem hk)

/-- each of the raw elements is owned, by the blocks of F -/
inductive Ows (d : Dt α) (w : World) : List Nat → List (α × d.S) → Prop
  | nil : Ows d w [] []
  | cons {F G : List Nat} {r : α × d.S} {rs : List (α × d.S)} : d.ow w F r.1 r.2 → Ows d w G rs → Ows d w (F ++ G) (r :: rs)
theorem Ows.keep {rs : List (α × d.S)} (h : Ows d w F rs) (hs : w.heap.size ≤ w'.heap.size) (hk : ∀ b ∈ F, w'.heap[b]? = w.heap[b]?) : Ows d w' F rs := by
  induction h with
  | nil => exact .nil
  | cons h1 _ ih => exact .cons (d.ow_keep h1 hs fun b hb => hk b (List.mem_append_left _ hb)) (ih fun b hb => hk b (List.mem_append_right _ hb))
theorem Ows.lt {rs : List (α × d.S)} (h : Ows d w F rs) : ∀ b ∈ F, b < w.heap.size := by
  induction h with
  | nil => intro b hb; cases hb
  | cons h1 _ ih =>
    intro b hb
    rcases List.mem_append.1 hb with hb | hb
    · exact d.ow_lt h1 b hb
    · exact ih b hb
theorem Ows.rd {rs : List (α × d.S)} (h : Ows d w F rs) : ∀ r ∈ rs, d.rd w w.heap.size r.1 r.2 := by
  induction h with
  | nil => intro r hr; cases hr
  | cons h1 _ ih =>
    intro r hr
    rcases List.mem_cons.1 hr with rfl | hr
    · exact d.ow_rd h1
    · exact ih r hr
theorem Ows.append {rs ts : List (α × d.S)} (h : Ows d w F rs) (k : Ows d w G ts) : Ows d w (F ++ G) (rs ++ ts) := by
  induction h with
  | nil => exact k
  | cons h1 _ ih =>
    rw [List.append_assoc]
    exact .cons h1 ih
theorem Ows.one {r : α × d.S} (h : d.ow w F r.1 r.2) : Ows d w F [r] := by
  have := Ows.cons h (Ows.nil (d := d) (w := w))
  rwa [List.append_nil] at this
theorem Ows.split {rs : List (α × d.S)} (h : Ows d w F rs) (k : Nat) (hk : k ≤ rs.length) : ∃ F1 F2, F = F1 ++ F2 ∧ Ows d w F1 (rs.take k) ∧ Ows d w F2 (rs.drop k) := by
  induction h generalizing k with
  | nil => exact ⟨[], [], rfl, by simpa using Ows.nil, by simpa using Ows.nil⟩
  | @cons F G r rs h1 h2 ih =>
    cases k with
    | zero => exact ⟨[], F ++ G, rfl, by simpa using Ows.nil, by simpa using Ows.cons h1 h2⟩
    | succ k =>
      obtain ⟨F1, F2, rfl, h3, h4⟩ := ih k (by simpa using hk)
      exact ⟨F ++ F1, F2, by rw [List.append_assoc], by simpa using Ows.cons h1 h3, by simpa using h4⟩
theorem Ows.head {r : α × d.S} {rs : List (α × d.S)} (h : Ows d w F (r :: rs)) : ∃ F1 F2, F = F1 ++ F2 ∧ d.ow w F1 r.1 r.2 ∧ Ows d w F2 rs := by
  cases h with
  | cons h1 h2 => exact ⟨_, _, rfl, h1, h2⟩

/-- v is a slice of the call's own, with all that it leads to, in the blocks F -/
def OwL (d : Dt α) (w : World) (F : List Nat) (v : Value) (l : List α) : Prop :=
  ∃ (rs : List (α × d.S)) (H G : List Nat), rs.map (·.1) = l ∧ Hw d.enc w H v rs ∧ Ows d w G rs ∧ F = H ++ G ∧ F.Nodup
theorem OwL.keep (h : OwL d w F v l) (hs : w.heap.size ≤ w'.heap.size) (hk : ∀ b ∈ F, w'.heap[b]? = w.heap[b]?) : OwL d w' F v l := by
  obtain ⟨rs, H, G, hm, hh, ho, rfl, hn⟩ := h
  exact ⟨rs, H, G, hm, hh.keep hs fun b hb => hk b (List.mem_append_left _ hb), ho.keep hs fun b hb => hk b (List.mem_append_right _ hb), rfl, hn⟩
theorem OwL.lt (h : OwL d w F v l) : ∀ b ∈ F, b < w.heap.size := by
  obtain ⟨rs, H, G, hm, hh, ho, rfl, hn⟩ := h
  intro b hb
  rcases List.mem_append.1 hb with hb | hb
  · exact hh.lt b hb
  · exact ho.lt b hb
theorem OwL.nodup (h : OwL d w F v l) : F.Nodup := by
  obtain ⟨rs, H, G, hm, hh, ho, rfl, hn⟩ := h
  exact hn
theorem OwL.rd (h : OwL d w F v l) : RdL d w w.heap.size v l := by
  obtain ⟨rs, H, G, hm, hh, ho, rfl, hn⟩ := h
  exact ⟨rs, hm, hh.rd, ho.rd⟩
theorem OwL.chg (h : OwL d w F v l) (hc : Chg G w w') (hd : ∀ b ∈ F, b ∉ G) : OwL d w' F v l := h.keep hc.size fun b hb => hc.block b (h.lt b hb) (hd b hb)
theorem OwL.below (h : OwL d w F v l) (hb : Below w.heap.size w w') : OwL d w' F v l := h.keep hb.size fun b hF => hb.block b (h.lt b hF)
theorem OwL.nil (d : Dt α) (w : World) (A : Option Addr) (c : Nat) : OwL d w [] (.slice A 0 c) [] := ⟨[], [], [], rfl, Hw.nil _ _ _ _, .nil, rfl, List.nodup_nil⟩
theorem OwL.form (h : OwL d w F v l) : ∃ A c, v = .slice A l.length c ∧ l.length ≤ c := h.rd.form

/-- lists of them are data again -/
@[reducible] def Dt.list (d : Dt α) : Dt (List α) where
  S := Sl
  enc := { cells := fun p => [p.2.v], sz := 1, len := fun _ => rfl, one := fun p u hu => by simp at hu; subst hu; rfl }
  rd w B l s := RdL d w B s.v l
  ow w F l s := OwL d w F s.v l
  rd_keep h hB hk := h.keep hB hk
  ow_keep h hs hk := h.keep hs hk
  ow_lt h := h.lt
  ow_rd h := h.rd
  ow_nodup h := h.nodup
/-- lists of flat data -/
@[reducible] def Dt.flats (e : Enc α) : Dt (List α) where
  S := Sl
  enc := { cells := fun p => [p.2.v], sz := 1, len := fun _ => rfl, one := fun p u hu => by simp at hu; subst hu; rfl }
  rd w B l s := Rd e w B s.v l
  ow w F l s := Hw e w F s.v l
  rd_keep h hB hk := (h.keep hk).more hB
  ow_keep h hs hk := h.keep hs hk
  ow_lt h := h.lt
  ow_rd h := h.rd
  ow_nodup h := h.nodup
/-- data with no slice in it -/
@[reducible] def Dt.flat {β : Type} (cells : β × Unit → List Value) (sz : Nat) (len : ∀ x, (cells x).length = sz) (one : ∀ x, ∀ u ∈ cells x, u.oneCell' = true) : Dt β where
  S := Unit
  enc := { cells := cells, sz := sz, len := len, one := one }
  rd _ _ _ _ := True
  ow _ F _ _ := F = []
  rd_keep _ _ _ := trivial
  ow_keep h _ _ := h
  ow_lt h := by subst h; intro b hb; cases hb
  ow_rd _ := trivial
  ow_nodup h := by subst h; exact List.nodup_nil
/-- data with one datum of another kind in it -/
@[reducible] def Dt.via {β : Type} (d : Dt α) (f : β → α) (cells : β × d.S → List Value) (sz : Nat) (len : ∀ x, (cells x).length = sz) (one : ∀ x, ∀ u ∈ cells x, u.oneCell' = true) : Dt β where
  S := d.S
  enc := { cells := cells, sz := sz, len := len, one := one }
  rd w B x s := d.rd w B (f x) s
  ow w F x s := d.ow w F (f x) s
  rd_keep h hB hk := d.rd_keep h hB hk
  ow_keep h hs hk := d.ow_keep h hs hk
  ow_lt h := d.ow_lt h
  ow_rd h := d.ow_rd h
  ow_nodup h := d.ow_nodup h
/-- data with two -/
@[reducible] def Dt.two {β γ : Type} (d : Dt α) (d' : Dt γ) (f : β → α) (g : β → γ) (cells : β × (d.S × d'.S) → List Value) (sz : Nat) (len : ∀ x, (cells x).length = sz) (one : ∀ x, ∀ u ∈ cells x, u.oneCell' = true) : Dt β where
  S := d.S × d'.S
  enc := { cells := cells, sz := sz, len := len, one := one }
  rd w B x s := d.rd w B (f x) s.1 ∧ d'.rd w B (g x) s.2
  ow w F x s := ∃ F1 F2, F = F1 ++ F2 ∧ F.Nodup ∧ d.ow w F1 (f x) s.1 ∧ d'.ow w F2 (g x) s.2
  rd_keep h hB hk := ⟨d.rd_keep h.1 hB hk, d'.rd_keep h.2 hB hk⟩
  ow_keep := fun ⟨F1, F2, hF, hn, h1, h2⟩ hs hk => ⟨F1, F2, hF, hn, d.ow_keep h1 hs fun b hb => hk b (by rw [hF]; exact List.mem_append_left _ hb), d'.ow_keep h2 hs fun b hb => hk b (by rw [hF]; exact List.mem_append_right _ hb)⟩
  ow_lt := fun ⟨F1, F2, hF, hn, h1, h2⟩ b hb => by
    rw [hF] at hb
    rcases List.mem_append.1 hb with hb | hb
    · exact d.ow_lt h1 b hb
    · exact d'.ow_lt h2 b hb
  ow_rd := fun ⟨F1, F2, hF, hn, h1, h2⟩ => ⟨d.ow_rd h1, d'.ow_rd h2⟩
  ow_nodup := fun ⟨F1, F2, hF, hn, h1, h2⟩ => hn

theorem Dt.ow_chg (d : Dt α) {x : α} {s : d.S} (h : d.ow w F x s) (hc : Chg G w w') (hd : ∀ b ∈ F, b ∉ G) : d.ow w' F x s := d.ow_keep h hc.size fun b hb => hc.block b (d.ow_lt h b hb) (hd b hb)
theorem Dt.ow_below (d : Dt α) {x : α} {s : d.S} (h : d.ow w F x s) (hb : Below w.heap.size w w') : d.ow w' F x s := d.ow_keep h hb.size fun b hF => hb.block b (d.ow_lt h b hF)
theorem Dt.rd_below (d : Dt α) {x : α} {s : d.S} (h : d.rd w B x s) (hb : Below B w w') : d.rd w' B x s := d.rd_keep h (Nat.le_refl _) fun _ hp => hb.cell hp
theorem Dt.rd_more (d : Dt α) {x : α} {s : d.S} (h : d.rd w B x s) (hB : B ≤ B') : d.rd w B' x s := d.rd_keep h hB fun _ _ => rfl

/-- what hands out a datum of the call's own -/
def OwnPost (d : Dt α) (val : α → d.S → Value) (x : α) (w : World) (e : Ending) (w' : World) : Prop :=
  ∃ s F, e = .returned (val x s) ∧ d.ow w' F x s ∧ (∀ b ∈ F, w.heap.size ≤ b) ∧ Below w.heap.size w w'
end

section
variable {α : Type} {d : Dt α} {w w' : World} {v : Value} {l : List α} {F G : List Nat}
theorem Dt.ow_set (d : Dt α) {x : α} {s : d.S} (h : d.ow w F x s) {a : Addr} (ha : a.block ∉ F) (u : Value) : d.ow (w.setCell a u) F x s :=
  d.ow_keep h (by simp [World.setCell]) fun b hb => Below.heap_setCell w a u b (fun e => ha (by rw [← e]; exact hb))
theorem OwL.set (h : OwL d w F v l) {a : Addr} (ha : a.block ∉ F) (u : Value) : OwL d (w.setCell a u) F v l :=
  h.keep (by simp [World.setCell]) fun b hb => Below.heap_setCell w a u b (fun e => ha (by rw [← e]; exact hb))
theorem Hw.set {e : Enc α} (h : Hw e w F v l) {a : Addr} (ha : a.block ∉ F) (u : Value) : Hw e (w.setCell a u) F v l :=
  h.keep (by simp [World.setCell]) fun b hb => Below.heap_setCell w a u b (fun e => ha (by rw [← e]; exact hb))
theorem Ows.bel {rs : List (α × d.S)} (h : Ows d w F rs) (hb : Below w.heap.size w w') : Ows d w' F rs := h.keep hb.size fun b hF => hb.block b (h.lt b hF)
theorem Ows.chg {rs : List (α × d.S)} (h : Ows d w F rs) (hc : Chg G w w') (hd : ∀ b ∈ F, b ∉ G) : Ows d w' F rs := h.keep hc.size fun b hb => hc.block b (h.lt b hb) (hd b hb)
end

theorem blocks_sub (v : Value) (n : Nat) : ∀ b ∈ blocks v n, v.ownBlock = some b := by
  intro b hb
  unfold blocks at hb
  split at hb
  · cases hb
  · cases h : v.ownBlock with
    | none => rw [h] at hb; cases hb
    | some g =>
      rw [h] at hb
      simp at hb
      rw [hb]

section
variable {α : Type} {d : Dt α} {E : TypeId} {w w1 w' : World} {base : Nat} {v : Value} {rs : List (α × d.S)}
/-- a slice of data that the call builds: its own row, and what the elements own -/
def Bld (d : Dt α) (E : TypeId) (w : World) (base : Nat) (v : Value) (rs : List (α × d.S)) : Prop :=
  ∃ G, Ow d.enc E w base v rs ∧ Ows d w G rs ∧ G.Nodup ∧ ∀ b ∈ G, base ≤ b ∧ v.ownBlock ≠ some b
theorem Bld.nil (d : Dt α) (E : TypeId) (w : World) (base : Nat) : Bld d E w base (.slice none 0 0) [] := ⟨[], Ow.nil _ _ _ _, .nil, List.nodup_nil, fun _ h => by cases h⟩
theorem Bld.of_empty {v : Value} (h : Ow d.enc E w base v []) : Bld d E w base v [] := ⟨[], h, .nil, List.nodup_nil, fun _ h => by cases h⟩
theorem Bld.below (h : Bld d E w base v rs) (hb : Below w.heap.size w w') : Bld d E w' base v rs := by
  obtain ⟨G, h1, h2, h3, h4⟩ := h
  exact ⟨G, h1.below hb, h2.bel hb, h3, h4⟩
theorem Bld.ow (h : Bld d E w base v rs) : Ow d.enc E w base v rs := by
  obtain ⟨G, h1, _⟩ := h
  exact h1
theorem Bld.rd (h : Bld d E w base v rs) : RdL d w w.heap.size v (rs.map (·.1)) := by
  obtain ⟨G, h1, h2, _⟩ := h
  exact ⟨rs, rfl, Rd.of_own h1, h2.rd⟩
/-- some elements of the call's own come behind the others; the row may have been laid anew -/
theorem Bld.push {v3 : Value} {w3 : World} {ts : List (α × d.S)} {F : List Nat} (h : Bld d E w base v rs) (hb : Below w.heap.size w w1) (ht : Ows d w1 F ts) (hF : ∀ b ∈ F, w.heap.size ≤ b) (hn : F.Nodup) (hbase : base ≤ w.heap.size)
    (ho : Ow d.enc E w3 base v3 (rs ++ ts)) (hg : w1.grownBy w3 v.ownBlock) (hv : v3.ownBlock = v.ownBlock ∨ ∃ g, v3.ownBlock = some g ∧ w1.heap.size ≤ g) : Bld d E w3 base v3 (rs ++ ts) := by
  obtain ⟨G, h1, h2, h3, h4⟩ := h
  have hG : ∀ b ∈ G, b < w.heap.size := h2.lt
  have hFl : ∀ b ∈ F, b < w1.heap.size := ht.lt
  have hvF : ∀ b ∈ F, v.ownBlock ≠ some b := fun b hb he => by
    rcases h1.form with ⟨rfl, _⟩ | ⟨g, cap, rfl, _, hlt, _⟩
    · simp [Value.ownBlock] at he
    · have : g = b := by simpa [Value.ownBlock] using he
      have := hF b hb
      omega
  have hs := hb.size
  refine ⟨G ++ F, ho, ?_, ?_, ?_⟩
  · refine Ows.append ((h2.bel hb).keep hg.size fun b hbG => hg.block b (by have := hG b hbG; omega) ?_) (ht.keep hg.size fun b hbF => hg.block b (hFl b hbF) ?_)
    · exact fun e => (h4 b hbG).2 e.symm
    · exact fun e => hvF b hbF e.symm
  · rw [List.nodup_append]
    refine ⟨h3, hn, fun a ha b hb' e => ?_⟩
    have := hG a ha
    have := hF b hb'
    omega
  · intro b hbm
    rcases List.mem_append.1 hbm with hbm | hbm
    · refine ⟨(h4 b hbm).1, ?_⟩
      rcases hv with hv | ⟨g, hv, hlt⟩
      · rw [hv]; exact (h4 b hbm).2
      · rw [hv]
        intro e
        have := hG b hbm
        injection e with e
        omega
    · refine ⟨by have := hF b hbm; omega, ?_⟩
      rcases hv with hv | ⟨g, hv, hlt⟩
      · rw [hv]; exact hvF b hbm
      · rw [hv]
        intro e
        have := hFl b hbm
        injection e with e
        omega
theorem Bld.owl (h : Bld d E w base v rs) {l : List α} (hl : rs.map (·.1) = l) : ∃ F, OwL d w F v l ∧ ∀ b ∈ F, base ≤ b := by
  obtain ⟨G, h1, h2, h3, h4⟩ := h
  obtain ⟨h5, h6⟩ := Hw.of_ow h1
  refine ⟨_, ⟨rs, _, G, hl, h5, h2, rfl, ?_⟩, ?_⟩
  · rw [List.nodup_append]
    refine ⟨blocks_nodup _ _, h3, fun a ha b hb e => ?_⟩
    subst e
    exact (h4 a hb).2 (blocks_sub _ _ _ ha)
  · intro b hb
    rcases List.mem_append.1 hb with hb | hb
    · exact h6 b hb
    · exact (h4 b hb).1
/-- one element of a slice that make has made is laid -/
theorem Bld.lay {g : Nat} {rs : List (α × d.S)} {w2 : World} {F G : List Nat} {r : α × d.S} (h1 : Ows d w G rs) (h3 : G.Nodup) (h4 : ∀ b ∈ G, g < b) (hb : Below w.heap.size w w1) (hr : d.ow w1 F r.1 r.2) (hF : ∀ b ∈ F, w.heap.size ≤ b) (hg : g < w.heap.size)
    (hgr : w1.grownBy w2 (some g)) : Ows d w2 (G ++ F) (rs ++ [r]) ∧ (G ++ F).Nodup ∧ ∀ b ∈ G ++ F, g < b := by
  have hG : ∀ b ∈ G, b < w.heap.size := h1.lt
  have hs := hb.size
  refine ⟨Ows.append ((h1.bel hb).keep hgr.size fun b hbG => hgr.block b (by have := hG b hbG; omega) ?_) ((Ows.one hr).keep hgr.size fun b hbF => hgr.block b (d.ow_lt hr b hbF) ?_), ?_, ?_⟩
  · intro e
    have := h4 b hbG
    injection e with e
    omega
  · intro e
    have := hF b hbF
    injection e with e
    omega
  · rw [List.nodup_append]
    refine ⟨h3, d.ow_nodup hr, fun a ha b hb' e => ?_⟩
    have := hG a ha
    have := hF b hb'
    omega
  · intro b hbm
    rcases List.mem_append.1 hbm with hbm | hbm
    · exact h4 b hbm
    · have := hF b hbm
      omega
end

/-- two owned things whose blocks lie apart -/
theorem apart_of {F G : List Nat} {a b c d : Nat} (h : ∀ x ∈ F, a ≤ x ∧ x < b) (k : ∀ x ∈ G, c ≤ x ∧ x < d) (hne : b ≤ c ∨ d ≤ a) : ∀ x ∈ F, x ∉ G := by
  intro x hx hy
  have := h x hx
  have := k x hy
  omega
theorem in_of {F : List Nat} {a b : Nat} (h : ∀ x ∈ F, a ≤ x) (k : ∀ x ∈ F, x < b) : ∀ x ∈ F, a ≤ x ∧ x < b := fun x hx => ⟨h x hx, k x hx⟩

abbrev slV {α : Type} (_ : α) (s : Sl) : Value := .slice s.a s.n s.c

section
variable {α : Type} {d : Dt α} {w w' : World} {b o n c j : Nat} {rs : List (α × d.S)} {G1 Fx G2 : List Nat} {x y : α} {s : d.S}
/-- a list under marking, with the eye on its element j -/
structure Foc (d : Dt α) (w : World) (b o n c : Nat) (rs : List (α × d.S)) (j : Nat) (G1 Fx G2 : List Nat) (x : α) (s : d.S) : Prop where
  rd : Rd d.enc w w.heap.size (.slice (some ⟨b, o, none⟩) n c) (rs.set j (x, s))
  free : ∀ i, w.frozen? ⟨b, i, none⟩ = false
  left : Ows d w G1 (rs.take j)
  here : d.ow w Fx x s
  right : Ows d w G2 (rs.drop (j + 1))
  lt : j < rs.length
  nodup : ([b] ++ (G1 ++ (Fx ++ G2))).Nodup
  blk : b < w.heap.size
theorem Foc.apart (h : Foc d w b o n c rs j G1 Fx G2 x s) : (b ∉ G1 ∧ b ∉ Fx ∧ b ∉ G2) ∧ (∀ a ∈ G1, a ∉ Fx) ∧ (∀ a ∈ G2, a ∉ Fx) := by
  have h1 := h.nodup
  simp only [List.cons_append, List.nil_append, List.nodup_cons, List.mem_append, not_or, List.nodup_append] at h1
  obtain ⟨⟨a1, a2, a3⟩, _, ⟨_, _, a4⟩, a5⟩ := h1
  exact ⟨⟨a1, a2, a3⟩, fun a ha hx => a5 a ha a (.inl hx) rfl, fun a ha hx => a4 a hx a ha rfl⟩
theorem Foc.cells (h : Foc d w b o n c rs j G1 Fx G2 x s) : ∀ i u, (d.enc.cells (x, s))[i]? = some u → w.cell? ⟨b, o + j * d.enc.sz + i, none⟩ = some u := by
  intro i u hu
  obtain ⟨A', c', hv, _, hA⟩ := h.rd
  simp only [Value.slice.injEq] at hv
  obtain ⟨rfl, _, _⟩ := hv
  have hl : j < (rs.set j (x, s)).length := by rw [List.length_set]; exact h.lt
  obtain ⟨b', o', he, _, hc⟩ := hA (by omega)
  simp only [Option.some.injEq, Addr.mk.injEq, and_true] at he
  obtain ⟨rfl, rfl⟩ := he
  exact hc j hl i u (by rw [List.getElem_set_self]; exact hu)
/-- a part of the element's own cells is written -/
theorem Foc.put (h : Foc d w b o n c rs j G1 Fx G2 x s) (y : α) (off : Nat) (us : List Value) (hoff : off + us.length ≤ d.enc.sz)
    (hin : ∀ i (hi : i < us.length), (d.enc.cells (y, s))[off + i]? = some us[i]) (hout : ∀ i, i < d.enc.sz → (i < off ∨ off + us.length ≤ i) → (d.enc.cells (y, s))[i]? = (d.enc.cells (x, s))[i]?)
    (hy : ∀ W, d.ow W Fx x s → d.ow W Fx y s) : Foc d (wSeq w b (o + j * d.enc.sz + off) us) b o n c rs j G1 Fx G2 y s ∧ Chg [b] w (wSeq w b (o + j * d.enc.sz + off) us) := by
  have hc := wSeq_chg us w b (o + j * d.enc.sz + off)
  obtain ⟨⟨a1, a2, a3⟩, _, _⟩ := h.apart
  refine ⟨⟨?_, fun i => by rw [wSeq_frozen]; exact h.free i, h.left.chg hc ?_, hy _ (Dt.ow_chg d h.here hc ?_), h.right.chg hc ?_, h.lt, h.nodup, by rw [wSeq_size]; exact h.blk⟩, hc⟩
  · have hl : j < (rs.set j (x, s)).length := by rw [List.length_set]; exact h.lt
    have := h.rd.part j hl (y, s) off us hoff hin (by rw [List.getElem_set_self]; exact hout)
    rw [List.set_set] at this
    rw [wSeq_size]
    exact this
  all_goals
    intro x hx hb
    simp only [List.mem_singleton] at hb
    subst hb
    first | exact a1 hx | exact a2 hx | exact a3 hx
/-- what the element leads to is written -/
theorem Foc.sub (h : Foc d w b o n c rs j G1 Fx G2 x s) (hc : Chg Fx w w') (hy : d.ow w' Fx y s) (hcells : d.enc.cells (y, s) = d.enc.cells (x, s)) : Foc d w' b o n c rs j G1 Fx G2 y s := by
  obtain ⟨⟨a1, a2, a3⟩, a4, a5⟩ := h.apart
  refine ⟨?_, fun i => by rw [hc.frozen (p := ⟨b, i, none⟩) h.blk a2]; exact h.free i, h.left.chg hc a4, hy, h.right.chg hc a5, h.lt, h.nodup, Nat.lt_of_lt_of_le h.blk hc.size⟩
  have hl : j < (rs.set j (x, s)).length := by rw [List.length_set]; exact h.lt
  have h1 := h.rd.keepF (w' := w') hc.size (fun b' hb' i => by
    have := blocks_sub _ _ _ hb'
    have : b = b' := by simpa [Value.ownBlock] using this
    subst this
    exact hc.cell (p := ⟨b, i, none⟩) h.blk a2)
  have h2 := h1.same j hl (y, s) (by rw [List.getElem_set_self]; exact hcells)
  rwa [List.set_set] at h2
theorem Foc.start {F1 F2 : List Nat} (hr : Rd d.enc w w.heap.size (.slice (some ⟨b, o, none⟩) n c) rs) (hf : ∀ i, w.frozen? ⟨b, i, none⟩ = false) (h1 : Ows d w F1 (rs.take j)) (h2 : Ows d w F2 (rs.drop j)) (hj : j < rs.length) (hn : ([b] ++ (F1 ++ F2)).Nodup) (hb : b < w.heap.size) :
    ∃ Fx G2, F2 = Fx ++ G2 ∧ Foc d w b o n c rs j F1 Fx G2 rs[j].1 rs[j].2 := by
  rw [← List.getElem_cons_drop hj] at h2
  obtain ⟨Fx, G2, rfl, h3, h4⟩ := h2.head
  refine ⟨Fx, G2, rfl, ⟨?_, hf, h1, h3, h4, hj, hn, hb⟩⟩
  have : rs.set j (rs[j].1, rs[j].2) = rs := List.set_getElem_self hj
  rw [this]
  exact hr
theorem Foc.done (h : Foc d w b o n c rs j G1 Fx G2 x s) : Rd d.enc w w.heap.size (.slice (some ⟨b, o, none⟩) n c) (rs.set j (x, s)) ∧ Ows d w (G1 ++ Fx) ((rs.set j (x, s)).take (j + 1)) ∧ Ows d w G2 ((rs.set j (x, s)).drop (j + 1)) ∧ ([b] ++ ((G1 ++ Fx) ++ G2)).Nodup := by
  refine ⟨h.rd, ?_, ?_, ?_⟩
  · have hl : j < (rs.set j (x, s)).length := by rw [List.length_set]; exact h.lt
    rw [List.take_succ_eq_append_getElem hl, List.getElem_set_self, List.take_set_of_le (Nat.le_refl j)]
    exact h.left.append (Ows.one h.here)
  · rw [List.drop_set_of_lt (by omega)]
    exact h.right
  · have := h.nodup
    simp only [List.append_assoc] at this ⊢
    exact this
end

theorem OwL.foc {α : Type} {d : Dt α} {w : World} {F : List Nat} {A : Option Addr} {n c : Nat} {l : List α} (h : OwL d w F (.slice A n c) l) {j : Nat} (hj : j < l.length) :
    ∃ (b o : Nat) (rs : List (α × d.S)) (s : d.S) (G1 Fx G2 : List Nat), A = some ⟨b, o, none⟩ ∧ F = [b] ++ (G1 ++ (Fx ++ G2)) ∧ rs.map (·.1) = l ∧ Foc d w b o n c rs j G1 Fx G2 l[j] s := by
  obtain ⟨rs, H, G, hm, hh, ho, rfl, hn⟩ := h
  subst hm
  rw [List.length_map] at hj
  obtain ⟨b, o, rfl, rfl, hb, hf⟩ := hh.at_ (by omega)
  obtain ⟨F1, F2, rfl, h1, h2⟩ := ho.split j (Nat.le_of_lt hj)
  obtain ⟨Fx, G2, rfl, h3⟩ := Foc.start hh.rd hf h1 h2 hj hn hb
  refine ⟨b, o, rs, rs[j].2, F1, Fx, G2, rfl, rfl, rfl, ?_⟩
  rw [List.getElem_map]
  exact h3
theorem Foc.owl {α : Type} {d : Dt α} {w : World} {b o n c j : Nat} {rs : List (α × d.S)} {G1 Fx G2 : List Nat} {x : α} {s : d.S} {l : List α} (h : Foc d w b o n c rs j G1 Fx G2 x s) (hm : rs.map (·.1) = l) :
    OwL d w ([b] ++ (G1 ++ (Fx ++ G2))) (.slice (some ⟨b, o, none⟩) n c) (l.set j x) := by
  refine ⟨rs.set j (x, s), [b], G1 ++ (Fx ++ G2), by rw [List.map_set, hm], ⟨h.rd, ?_, ?_⟩, ?_, rfl, h.nodup⟩
  · unfold blocks
    rw [if_neg (by rw [List.length_set]; have := h.lt; omega)]
    rfl
  · intro g hg i
    have : g = b := by simpa using hg
    subst this
    exact h.free i
  · have e : rs.set j (x, s) = rs.take j ++ (x, s) :: rs.drop (j + 1) := by rw [List.set_eq_take_append_cons_drop, if_pos h.lt]
    rw [e]
    exact h.left.append (.cons h.here h.right)
theorem mem_box {b x : Nat} {G : List Nat} (h : x ∈ [b]) : x ∈ [b] ++ G := List.mem_append_left _ h
theorem mem_here {b x : Nat} {G1 Fx G2 : List Nat} (h : x ∈ Fx) : x ∈ [b] ++ (G1 ++ (Fx ++ G2)) := List.mem_append_right _ (List.mem_append_right _ (List.mem_append_left _ h))
theorem nodup_apart {F G : List Nat} (h : (F ++ G).Nodup) : (∀ x ∈ F, x ∉ G) ∧ (∀ x ∈ G, x ∉ F) := by
  rw [List.nodup_append] at h
  exact ⟨fun x hx hy => h.2.2 x hx x hy rfl, fun x hx hy => h.2.2 x hy x hx rfl⟩
theorem mix_snoc {α : Type} (rs : List α) (z : α) (k n : Nat) {y : α} (h : rs.length = k) (hlt : k < n) : (rs ++ List.replicate (n - k) z).set k y = (rs ++ [y]) ++ List.replicate (n - (k + 1)) z := by
  rw [List.set_append_right _ _ (by omega), h, Nat.sub_self, show n - k = (n - (k + 1)) + 1 from by omega, List.replicate_succ, List.set_cons_zero, List.append_assoc, List.singleton_append]

/-- what a marking leaves: all that is owned holds its mark -/
def MkPost {α : Type} (d : Dt α) (F : List Nat) (y : α) (s : d.S) (r : Int) (w : World) (en : Ending) (w' : World) : Prop := en = .returned (.int .i64 r) ∧ d.ow w' F y s ∧ Chg F w w'

/-- all lengths in a list of data together -/
def cntL {α : Type} (cnt : α → Nat) (l : List α) : Nat := l.length + (l.map cnt).sum
theorem cntL_mem {α : Type} {cnt : α → Nat} : ∀ {l : List α} {x : α}, x ∈ l → cnt x + 1 ≤ cntL cnt l
  | y :: l, x, h => by
    unfold cntL
    simp only [List.length_cons, List.map_cons, List.sum_cons]
    rcases List.mem_cons.1 h with rfl | h
    · omega
    · have := cntL_mem (cnt := cnt) h
      unfold cntL at this
      omega
theorem cntL_len {α : Type} (cnt : α → Nat) (l : List α) : l.length ≤ cntL cnt l := Nat.le_add_right _ _
theorem sum_take_succ {α : Type} (f : α → Nat) (l : List α) (k : Nat) (h : k < l.length) : ((l.take (k + 1)).map f).sum = ((l.take k).map f).sum + f l[k] := by
  rw [take_snoc l k h, List.map_append, List.sum_append]
  simp
theorem sum_take_le {α : Type} (f : α → Nat) (l : List α) (k : Nat) : ((l.take k).map f).sum ≤ (l.map f).sum := by
  conv => rhs; rw [← List.take_append_drop k l, List.map_append, List.sum_append]
  omega
theorem cntL_zero {α : Type} {cnt : α → Nat} (h : ∀ x, cnt x = 0) : ∀ l : List α, cntL cnt l = l.length
  | [] => rfl
  | x :: l => by
    have := cntL_zero h l
    unfold cntL at *
    simp only [List.length_cons, List.map_cons, List.sum_cons, h x] at *
    omega
/-- lengths are what a machine holds, and each element is right -/
def wfL {α : Type} (wf : α → Prop) (l : List α) : Prop := l.length ≤ 9223372036854775807 ∧ ∀ x ∈ l, wf x
/-- how many marks a list takes -/
def numL {α : Type} (num : α → Nat) (l : List α) : Nat := (l.map num).sum
theorem numL_le {α : Type} {num cnt : α → Nat} {K : Nat} (h : ∀ x, num x ≤ K * (cnt x + 1)) : ∀ l : List α, numL num l ≤ K * cntL cnt l
  | [] => by simp [numL]
  | x :: l => by
    have h1 := numL_le h l
    have h2 := h x
    unfold numL cntL at *
    simp only [List.length_cons, List.map_cons, List.sum_cons]
    rw [Nat.mul_add] at h1 h2 ⊢
    rw [Nat.mul_succ, Nat.mul_add]
    omega
theorem numL_take_le {α : Type} (num : α → Nat) (l : List α) (k : Nat) : numL num (l.take k) ≤ numL num l := sum_take_le num l k
/-- the marks from k on -/
def mkL {α : Type} (mk : Int → α → α) (num : α → Nat) : Int → List α → List α
  | _, [] => []
  | k, x :: l => mk k x :: mkL mk num (k + num x) l
section
variable {α : Type} (mk : Int → α → α) (num : α → Nat)
theorem mkL_length : ∀ (k : Int) (l : List α), (mkL mk num k l).length = l.length
  | _, [] => rfl
  | k, x :: l => by simp [mkL, mkL_length _ l]
theorem mkL_snoc : ∀ (k : Int) (l : List α) (x : α), mkL mk num k (l ++ [x]) = mkL mk num k l ++ [mk (k + numL num l) x]
  | k, [], x => by simp [mkL, numL]
  | k, y :: l, x => by
    simp only [mkL, List.cons_append]
    rw [mkL_snoc _ l x]
    have e : k + (num y : Int) + (numL num l : Nat) = k + (numL num (y :: l) : Nat) := by
      simp only [numL, List.map_cons, List.sum_cons]
      push_cast
      omega
    rw [e]
theorem mkL_get (k : Int) (l : List α) (j : Nat) (h : j < l.length) (h' : j < (mkL mk num k l).length) : (mkL mk num k l)[j] = mk (k + numL num (l.take j)) l[j] := by
  induction l generalizing k j with
  | nil => exact absurd h (by simp)
  | cons y l ih =>
    cases j with
    | zero => simp [mkL, numL]
    | succ j =>
      simp only [mkL, List.getElem_cons_succ, List.take_succ_cons]
      rw [ih (k + num y) j (by simpa using h)]
      congr 1
      simp only [numL, List.map_cons, List.sum_cons]
      push_cast
      omega
theorem mkL_set (k : Int) (l : List α) (j : Nat) (h : j < l.length) : (mkL mk num k (l.take j) ++ l.drop j).set j (mk (k + numL num (l.take j)) l[j]) = mkL mk num k (l.take (j + 1)) ++ l.drop (j + 1) := by
  have hl : (mkL mk num k (l.take j)).length = j := by rw [mkL_length, List.length_take, Nat.min_eq_left (Nat.le_of_lt h)]
  rw [List.set_append_right _ _ (by omega), hl, Nat.sub_self, take_snoc l j h, mkL_snoc, List.append_assoc, ← List.getElem_cons_drop h, List.set_cons_zero, List.singleton_append]
theorem mkL_here (k : Int) (l : List α) (j : Nat) (h : j < l.length) {h' : j < (mkL mk num k (l.take j) ++ l.drop j).length} : (mkL mk num k (l.take j) ++ l.drop j)[j] = l[j] := by
  have hl : (mkL mk num k (l.take j)).length = j := by rw [mkL_length, List.length_take, Nat.min_eq_left (Nat.le_of_lt h)]
  rw [List.getElem_append_right (by omega)]
  simp [hl]
end
end Go.Proofs.Ytjobmbjadpldfaa
