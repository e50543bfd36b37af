/-
  Data that hold slices: how they lie in memory (Dt), lists of them (RdL), and what a call owns of them (Hw, Ows, OwL), with the blocks that it takes. copyPlan of the program, l06Copy of the reference: a plan whose edges lie in memory of its own. PlanFault of the reference. Data of the type Entry: how it lies in memory, and the walks of the laws' helpers on it. Written by program (deep.py). Data of the type Edge: how it lies in memory, and the walks of the laws' helpers on it. Written by program (deep.py). Data of the type Task: how it lies in memory, and the walks of the laws' helpers on it. Wr
-/
import Derived.Test.YtonlnjdempbfoaaZParts0
import Derived.Deep.RegionWith
import Derived.IntWalk
section
namespace Go.Proofs.Ytonlnjdempbfoaa
open Go.RowKit
set_option maxRecDepth 100000
/-- the head of a slice -/
structure Sl where
 a : Option Addr
 n : Nat
 c : Nat
abbrev Sl.v (s : Sl) : Value := .slice s.a s.n s.c
/-- nothing but the blocks of F has changed; what is new lies behind -/
structure Chg (F : List Nat) (w w' : World) : Prop where
 os : w'.os = w.os
 tape : w'.tape = w.tape
 output : w'.output = w.output
 size : w.heap.size ≤ w'.heap.size
 block : ∀ b, b < w.heap.size → b ∉ F → w'.heap[b]? = w.heap[b]?
theorem Chg.refl (F : List Nat) (w : World) : Chg F w w := ⟨rfl, rfl, rfl, Nat.le_refl _, fun _ _ _ => rfl⟩
theorem Chg.trans {F : List Nat} {a b c : World} (h : Chg F a b) (k : Chg F b c) : Chg F a c :=
 ⟨k.os.trans h.os, k.tape.trans h.tape, k.output.trans h.output, Nat.le_trans h.size k.size, fun i hi hn => (k.block i (Nat.lt_of_lt_of_le hi h.size) hn).trans (h.block i hi hn)⟩
theorem Chg.mono {F G : List Nat} {a b : World} (h : Chg F a b) (hs : ∀ x ∈ F, x ∈ G) : Chg G a b := ⟨h.os, h.tape, h.output, h.size, fun i hi hn => h.block i hi (fun hx => hn (hs i hx))⟩
theorem Chg.of_below {a b : World} (F : List Nat) (h : Below a.heap.size a b) : Chg F a b := ⟨h.os, h.tape, h.output, h.size, fun i hi _ => h.block i hi⟩
theorem Chg.below {F : List Nat} {a b : World} (h : Chg F a b) {base : Nat} (hb : base ≤ a.heap.size) (hF : ∀ x ∈ F, base ≤ x) : Below base a b :=
 ⟨h.os, h.tape, h.output, h.size, fun i hi => h.block i (by omega) (fun hx => by have := hF i hx; omega)⟩
theorem Chg.setCell (w : World) (b o : Nat) (u : Value) : Chg [b] w (w.setCell ⟨b, o, none⟩ u) :=
 ⟨rfl, rfl, rfl, by simp [World.setCell], fun i _ hn => Below.heap_setCell w ⟨b, o, none⟩ u i (by simpa using hn)⟩
theorem Chg.grown {F : List Nat} {a b : World} {row : Option Nat} (h : a.grownBy b row) (hr : ∀ g, row = some g → g ∈ F) : Chg F a b :=
 ⟨h.os, h.tape, h.output, h.size, fun i hi hn => h.block i hi (fun e => hn (hr i e.symm))⟩
theorem Chg.cell {F : List Nat} {w w' : World} (h : Chg F w w') {p : Addr} (hp : p.block < w.heap.size) (hn : p.block ∉ F) : w'.cell? p = w.cell? p := World.cell?_of_block (h.block _ hp hn)
theorem Chg.frozen {F : List Nat} {w w' : World} (h : Chg F w w') {p : Addr} (hp : p.block < w.heap.size) (hn : p.block ∉ F) : w'.frozen? p = w.frozen? p := World.frozen?_of_block (h.block _ hp hn)
section
variable {α : Type} {e : Enc α} {w w' : World} {B B' : Nat} {v : Value} {l : List α} {F G : List Nat}
/-- the blocks that a slice takes -/
def blocks (v : Value) (n : Nat) : List Nat := if n = 0 then [] else v.ownBlock.toList
theorem blocks_nodup (v : Value) (n : Nat) : (blocks v n).Nodup := by
 unfold blocks
 split
 ·exact List.nodup_nil
 ·cases v.ownBlock <;> simp
/-- v reads as l, and what it reads may be written -/
def Hw (e : Enc α) (w : World) (F : List Nat) (v : Value) (l : List α) : Prop := Rd e w w.heap.size v l ∧ F = blocks v l.length ∧ ∀ g ∈ F, ∀ j, w.frozen? ⟨g, j, none⟩ = false
theorem Rd.block_lt {A : Option Addr} {n c : Nat} (h : Rd e w B (.slice A n c) l) : ∀ b ∈ blocks (.slice A n c) l.length, b < B := by
 intro b hb
 obtain ⟨A', c', hv, _, hA⟩ := h
 simp only [Value.slice.injEq] at hv
 obtain ⟨rfl, rfl, rfl⟩ := hv
 unfold blocks at hb
 split at hb
 ·cases hb
 ·obtain ⟨b', o', rfl, hlt, _⟩ := hA (by omega)
  simp [Value.ownBlock] at hb
  omega
theorem Rd.keepF (h : Rd e w B v l) (hB : B ≤ B') (hk : ∀ b ∈ blocks v l.length, ∀ o, w'.cell? ⟨b, o, none⟩ = w.cell? ⟨b, o, none⟩) : Rd e w' B' v l := by
 obtain ⟨A, c, rfl, hcap, hA⟩ := h
 refine ⟨A, c, rfl, hcap, fun hl => ?_⟩
 obtain ⟨b, o, rfl, hlt, hc⟩ := hA hl
 refine ⟨b, o, rfl, by omega, fun k hk' j u hu => ?_⟩
 rw [hk b (by unfold blocks; rw [if_neg (by omega)]; simp [Value.ownBlock])]
 exact hc k hk' j u hu
theorem Hw.lt (h : Hw e w F v l) : ∀ b ∈ F, b < w.heap.size := by
 obtain ⟨hr, rfl, _⟩ := h
 obtain ⟨A, c, rfl, _⟩ := id hr
 exact hr.block_lt
theorem Hw.nodup (h : Hw e w F v l) : F.Nodup := by
 obtain ⟨_, rfl, _⟩ := h
 exact blocks_nodup _ _
theorem Hw.keep (h : Hw e w F v l) (hs : w.heap.size ≤ w'.heap.size) (hk : ∀ b ∈ F, w'.heap[b]? = w.heap[b]?) : Hw e w' F v l := by
 obtain ⟨hr, rfl, hf⟩ := h
 refine ⟨hr.keepF hs (fun b hb o => World.cell?_of_block (hk b hb)), rfl, fun g hg j => ?_⟩
 rw [World.frozen?_of_block (w := w) (hk g hg)]
 exact hf g hg j
theorem Hw.chg (h : Hw e w F v l) (hc : Chg G w w') (hd : ∀ b ∈ F, b ∉ G) : Hw e w' F v l := h.keep hc.size fun b hb => hc.block b (h.lt b hb) (hd b hb)
theorem Hw.below (h : Hw e w F v l) (hb : Below w.heap.size w w') : Hw e w' F v l := h.keep hb.size fun b hF => hb.block b (h.lt b hF)
theorem Hw.rd (h : Hw e w F v l) : Rd e w w.heap.size v l := h.1
theorem Hw.of_ow {E : TypeId} {base : Nat} (h : Ow e E w base v l) : Hw e w (blocks v l.length) v l ∧ ∀ b ∈ blocks v l.length, base ≤ b := by
 have hr := Rd.of_own h
 rcases h.form with ⟨rfl, rfl⟩ | ⟨g, cap, rfl, h1, h2, _, _, hf, _⟩
 ·exact ⟨⟨hr, rfl, fun g hg => by simp [blocks] at hg⟩, fun b hb => by simp [blocks] at hb⟩
 ·have hb : ∀ b ∈ blocks (.slice (some ⟨g, 0, none⟩) l.length cap) l.length, b = g := by
   intro b hb
   unfold blocks at hb
   split at hb
   ·cases hb
   ·simpa [Value.ownBlock] using hb
  exact ⟨⟨hr, rfl, fun b hb' j => by rw [hb b hb']; exact hf j⟩, fun b hb' => by rw [hb b hb']; exact h1⟩
theorem Hw.nil (e : Enc α) (w : World) (A : Option Addr) (c : Nat) : Hw e w [] (.slice A 0 c) [] :=
 ⟨⟨A, c, rfl, Nat.zero_le _, fun h => absurd h (by simp)⟩, by simp [blocks], fun _ h => by cases h⟩
/-- where the slice lies, and what it holds -/
theorem Hw.at_ {A : Option Addr} {n c : Nat} (h : Hw e w F (.slice A n c) l) (hp : 0 < l.length) : ∃ b o, A = some ⟨b, o, none⟩ ∧ F = [b] ∧ b < w.heap.size ∧ (∀ j, w.frozen? ⟨b, j, none⟩ = false) := by
 obtain ⟨hr, hF, hf⟩ := h
 obtain ⟨A', c', hv, _, hA⟩ := id hr
 simp only [Value.slice.injEq] at hv
 obtain ⟨rfl, rfl, rfl⟩ := hv
 obtain ⟨b, o, rfl, hlt, _⟩ := hA hp
 have hFb : F = [b] := by
  rw [hF]
  unfold blocks
  rw [if_neg (by omega)]
  rfl
 exact ⟨b, o, rfl, hFb, hlt, fun j => hf b (by rw [hFb]; simp) j⟩
end
theorem wSeq_chg : ∀ (us : List Value) (w : World) (b i : Nat), Chg [b] w (wSeq w b i us)
 | [], w, b, _ => Chg.refl [b] w
 | u :: us, w, b, i => (Chg.setCell w b i u).trans (wSeq_chg us _ b (i + 1))
theorem wSeq_size : ∀ (us : List Value) (w : World) (b i : Nat), (wSeq w b i us).heap.size = w.heap.size
 | [], _, _, _ => rfl
 | u :: us, w, b, i => by
  rw [wSeq, wSeq_size us]
  simp [World.setCell]
theorem setCell_cell (w : World) (b o i : Nat) (u u0 : Value) (h0 : w.cell? ⟨b, o, none⟩ = some u0) (hi : ∃ x, w.cell? ⟨b, i, none⟩ = some x) :
  (w.setCell ⟨b, i, none⟩ u).cell? ⟨b, o, none⟩ = some (if o = i then u else u0) := by
 by_cases h : o = i
 ·subst h
  rw [if_pos rfl]
  obtain ⟨x, hx⟩ := hi
  simp [go_sem, hx]
 ·rw [if_neg h]
  have := h0
  simp [go_sem, this]
/-- cells of one block after some, one behind the other, were written -/
theorem wSeq_cell : ∀ (us : List Value) (w : World) (b i o : Nat) (u0 : Value), (∀ j, j < us.length → ∃ x, w.cell? ⟨b, i + j, none⟩ = some x) → w.cell? ⟨b, o, none⟩ = some u0 →
  (wSeq w b i us).cell? ⟨b, o, none⟩ = some (if h : i ≤ o ∧ o < i + us.length then us[o - i]'(by omega) else u0)
 | [], w, b, i, o, u0, _, h0 => by
  rw [wSeq, h0, dif_neg (by simp)]
 | u :: us, w, b, i, o, u0, hx, h0 => by
  have h1 := setCell_cell w b o i u u0 h0 (by simpa using hx 0 (by simp))
  have h2 := wSeq_cell us (w.setCell ⟨b, i, none⟩ u) b (i + 1) o _ (fun j hj => by
   obtain ⟨x, hx'⟩ := hx (j + 1) (by simpa using hj)
   exact ⟨_, setCell_cell w b (i + 1 + j) i u x (by rw [show i + 1 + j = i + (j + 1) from by omega]; exact hx') (by simpa using hx 0 (by simp))⟩) h1
  rw [wSeq, h2]
  congr 1
  by_cases ho : o = i
  ·subst ho
   rw [dif_neg (by omega), if_pos rfl, dif_pos (by simp)]
   simp
  ·by_cases hin : i + 1 ≤ o ∧ o < i + 1 + us.length
   ·rw [dif_pos hin, dif_pos (by simp only [List.length_cons]; omega)]
    have : o - i = (o - (i + 1)) + 1 := by omega
    simp only [this, List.getElem_cons_succ]
   ·rw [dif_neg hin, if_neg ho, dif_neg (by simp only [List.length_cons]; omega)]
theorem setCell_frozen (w : World) (a : Addr) (u : Value) (p : Addr) : (w.setCell a u).frozen? p = w.frozen? p := by simp [go_sem]
theorem wSeq_frozen : ∀ (us : List Value) (w : World) (b i : Nat) (p : Addr), (wSeq w b i us).frozen? p = w.frozen? p
 | [], _, _, _, _ => rfl
 | u :: us, w, b, i, p => by rw [wSeq, wSeq_frozen us, setCell_frozen]
/-- a part of one element's cells is written -/
theorem Rd.part {α : Type} {e : Enc α} {w : World} {B b o n c : Nat} {l : List α} (h : Rd e w B (.slice (some ⟨b, o, none⟩) n c) l) (k : Nat) (hk : k < l.length) (y : α) (off : Nat) (us : List Value) (hoff : off + us.length ≤ e.sz)
  (hin : ∀ j (hj : j < us.length), (e.cells y)[off + j]? = some us[j]) (hout : ∀ j, j < e.sz → (j < off ∨ off + us.length ≤ j) → (e.cells y)[j]? = (e.cells l[k])[j]?) :
  Rd e (wSeq w b (o + k * e.sz + off) us) B (.slice (some ⟨b, o, none⟩) n c) (l.set k y) := by
 obtain ⟨A', c', hv, hcap, hA⟩ := h
 simp only [Value.slice.injEq] at hv
 obtain ⟨rfl, rfl, rfl⟩ := hv
 refine ⟨_, c, by rw [List.length_set], by rw [List.length_set]; exact hcap, fun _ => ?_⟩
 obtain ⟨b', o', he, hlt, hc⟩ := hA (by omega)
 simp only [Option.some.injEq, Addr.mk.injEq, and_true] at he
 obtain ⟨rfl, rfl⟩ := he
 refine ⟨b, o, rfl, hlt, fun i hi0 j u hu => ?_⟩
 have hi : i < l.length := by rw [List.length_set] at hi0; exact hi0
 have hj : j < e.sz := by
  have := (List.getElem?_eq_some_iff.1 hu).1
  rw [e.len] at this
  exact this
 have hex : ∀ j', j' < us.length → ∃ x, w.cell? ⟨b, o + k * e.sz + off + j', none⟩ = some x := fun j' hj' => by
  have hlt' : off + j' < (e.cells l[k]).length := by rw [e.len]; omega
  exact ⟨_, by rw [Nat.add_assoc]; exact hc k hk (off + j') _ (List.getElem?_eq_getElem hlt')⟩
 by_cases hik : i = k
 ·subst hik
  rw [List.getElem_set_self] at hu
  have hl0 : j < (e.cells l[i]).length := by rw [e.len]; exact hj
  have h0 := hc i hi j _ (List.getElem?_eq_getElem hl0)
  have h1 := wSeq_cell us w b (o + i * e.sz + off) (o + i * e.sz + j) _ hex h0
  rw [h1]
  by_cases hr : off ≤ j ∧ j < off + us.length
  ·rw [dif_pos (by omega)]
   have h2 := hin (j - off) (by omega)
   rw [show off + (j - off) = j from by omega, hu] at h2
   have h3 : o + i * e.sz + j - (o + i * e.sz + off) = j - off := by omega
   simp only [h3]
   exact h2.symm
  ·rw [dif_neg (by omega)]
   have h2 := hout j hj (by omega)
   rw [hu, List.getElem?_eq_getElem hl0] at h2
   exact h2.symm
 ·rw [List.getElem_set_ne (by omega)] at hu
  have h0 := hc i hi j u hu
  have h1 := wSeq_cell us w b (o + k * e.sz + off) (o + i * e.sz + j) _ hex h0
  rw [h1, dif_neg]
  intro hh
  rcases Nat.lt_or_gt_of_ne hik with h | h
  ·have : (i + 1) * e.sz ≤ k * e.sz := Nat.mul_le_mul_right _ h
   rw [Nat.succ_mul] at this
   omega
  ·have : (k + 1) * e.sz ≤ i * e.sz := Nat.mul_le_mul_right _ h
   rw [Nat.succ_mul] at this
   omega
/-- another datum with the same cells -/
theorem Rd.same {α : Type} {e : Enc α} {w : World} {B : Nat} {v : Value} {l : List α} (h : Rd e w B v l) (k : Nat) (hk : k < l.length) (y : α) (hy : e.cells y = e.cells l[k]) : Rd e w B v (l.set k y) := by
 obtain ⟨A, c, rfl, hcap, hA⟩ := h
 refine ⟨A, c, by rw [List.length_set], by rw [List.length_set]; exact hcap, fun hl => ?_⟩
 rw [List.length_set] at hl
 obtain ⟨b, o, hb, hlt, hc⟩ := hA hl
 refine ⟨b, o, hb, hlt, fun i hi0 j u hu => ?_⟩
 have hi : i < l.length := by rw [List.length_set] at hi0; exact hi0
 refine hc i hi j u ?_
 by_cases hik : k = i
 ·subst hik
  rw [List.getElem_set_self, hy] at hu
  exact hu
 ·rw [List.getElem_set_ne hik] at hu
  exact hu
/-- a kind of data: how the own cells lie, what the slices in them read, what of it is owned -/
structure Dt (α : Type) where
 S : Type
 enc : Enc (α × S)
 rd : World → Nat → α → S → Prop
 ow : World → List Nat → α → S → Prop
 rd_keep : ∀ {w w' : World} {B B' : Nat} {x : α} {s : S}, rd w B x s → B ≤ B' → (∀ p : Addr, p.block < B → w'.cell? p = w.cell? p) → rd w' B' x s
 ow_keep : ∀ {w w' : World} {F : List Nat} {x : α} {s : S}, ow w F x s → w.heap.size ≤ w'.heap.size → (∀ b ∈ F, w'.heap[b]? = w.heap[b]?) → ow w' F x s
 ow_lt : ∀ {w : World} {F : List Nat} {x : α} {s : S}, ow w F x s → ∀ b ∈ F, b < w.heap.size
 ow_rd : ∀ {w : World} {F : List Nat} {x : α} {s : S}, ow w F x s → rd w w.heap.size x s
 ow_nodup : ∀ {w : World} {F : List Nat} {x : α} {s : S}, ow w F x s → F.Nodup
section
variable {α : Type} {d : Dt α} {w w' : World} {B B' : Nat} {v : Value} {l : List α} {F G : List Nat}
/-- v is a slice that reads as l, below block B -/
def RdL (d : Dt α) (w : World) (B : Nat) (v : Value) (l : List α) : Prop := ∃ rs : List (α × d.S), rs.map (·.1) = l ∧ Rd d.enc w B v rs ∧ ∀ r ∈ rs, d.rd w B r.1 r.2
theorem RdL.keep (h : RdL d w B v l) (hB : B ≤ B') (hk : ∀ p : Addr, p.block < B → w'.cell? p = w.cell? p) : RdL d w' B' v l := by
 obtain ⟨rs, hm, hr, ha⟩ := h
 exact ⟨rs, hm, (hr.keep hk).more hB, fun r hx => d.rd_keep (ha r hx) hB hk⟩
theorem RdL.below (h : RdL d w B v l) (hb : Below B w w') : RdL d w' B v l := h.keep (Nat.le_refl _) fun _ hp => hb.cell hp
theorem RdL.more (h : RdL d w B v l) (hB : B ≤ B') : RdL d w B' v l := h.keep hB fun _ _ => rfl
theorem RdL.form (h : RdL d w B v l) : ∃ A c, v = .slice A l.length c ∧ l.length ≤ c := by
 obtain ⟨rs, rfl, ⟨A, c, hv, hc, _⟩, _⟩ := h
 exact ⟨A, c, by rw [List.length_map]; exact hv, by rw [List.length_map]; exact hc⟩
theorem RdL.at_ {A : Option Addr} {n c : Nat} (h : RdL d w B (.slice A n c) l) (k : Nat) (hk : k < l.length) : ∃ b o s, A = some ⟨b, o, none⟩ ∧ b < B ∧
  (∀ j u, (d.enc.cells (l[k], s))[j]? = some u → w.cell? ⟨b, o + k * d.enc.sz + j, none⟩ = some u) ∧ d.rd w B l[k] s := by
 obtain ⟨rs, rfl, ⟨A', c', hv, _, hA⟩, ha⟩ := h
 simp only [Value.slice.injEq] at hv
 obtain ⟨rfl, _, _⟩ := hv
 rw [List.length_map] at hk
 obtain ⟨b, o, hA', hb, hc⟩ := hA (by omega)
 have e : (rs.map (·.1))[k]'(by rw [List.length_map]; exact hk) = rs[k].1 := by rw [List.getElem_map]
 refine ⟨b, o, rs[k].2, hA', hb, fun j u hu => ?_, ?_⟩
 ·rw [e] at hu
  exact hc k hk j u hu
 ·rw [e]
  exact ha _ (List.getElem_mem hk)
/-- each of the raw elements is owned, by the blocks of F -/
inductive Ows (d : Dt α) (w : World) : List Nat → List (α × d.S) → Prop
 | nil : Ows d w [] []
 | cons {F G : List Nat} {r : α × d.S} {rs : List (α × d.S)} : d.ow w F r.1 r.2 → Ows d w G rs → Ows d w (F ++ G) (r :: rs)
theorem Ows.keep {rs : List (α × d.S)} (h : Ows d w F rs) (hs : w.heap.size ≤ w'.heap.size) (hk : ∀ b ∈ F, w'.heap[b]? = w.heap[b]?) : Ows d w' F rs := by
 induction h with
 | nil => exact .nil
 | cons h1 _ ih => exact .cons (d.ow_keep h1 hs fun b hb => hk b (List.mem_append_left _ hb)) (ih fun b hb => hk b (List.mem_append_right _ hb))
theorem Ows.lt {rs : List (α × d.S)} (h : Ows d w F rs) : ∀ b ∈ F, b < w.heap.size := by
 induction h with
 | nil => intro b hb; cases hb
 | cons h1 _ ih =>
  intro b hb
  rcases List.mem_append.1 hb with hb | hb
  ·exact d.ow_lt h1 b hb
  ·exact ih b hb
theorem Ows.rd {rs : List (α × d.S)} (h : Ows d w F rs) : ∀ r ∈ rs, d.rd w w.heap.size r.1 r.2 := by
 induction h with
 | nil => intro r hr; cases hr
 | cons h1 _ ih =>
  intro r hr
  rcases List.mem_cons.1 hr with rfl | hr
  ·exact d.ow_rd h1
  ·exact ih r hr
theorem Ows.append {rs ts : List (α × d.S)} (h : Ows d w F rs) (k : Ows d w G ts) : Ows d w (F ++ G) (rs ++ ts) := by
 induction h with
 | nil => exact k
 | cons h1 _ ih =>
  rw [List.append_assoc]
  exact .cons h1 ih
theorem Ows.one {r : α × d.S} (h : d.ow w F r.1 r.2) : Ows d w F [r] := by
 have := Ows.cons h (Ows.nil (d := d) (w := w))
 rwa [List.append_nil] at this
theorem Ows.split {rs : List (α × d.S)} (h : Ows d w F rs) (k : Nat) (hk : k ≤ rs.length) : ∃ F1 F2, F = F1 ++ F2 ∧ Ows d w F1 (rs.take k) ∧ Ows d w F2 (rs.drop k) := by
 induction h generalizing k with
 | nil => exact ⟨[], [], rfl, by simpa using Ows.nil, by simpa using Ows.nil⟩
 | @cons F G r rs h1 h2 ih =>
  cases k with
  | zero => exact ⟨[], F ++ G, rfl, by simpa using Ows.nil, by simpa using Ows.cons h1 h2⟩
  | succ k =>
   obtain ⟨F1, F2, rfl, h3, h4⟩ := ih k (by simpa using hk)
   exact ⟨F ++ F1, F2, by rw [List.append_assoc], by simpa using Ows.cons h1 h3, by simpa using h4⟩
theorem Ows.head {r : α × d.S} {rs : List (α × d.S)} (h : Ows d w F (r :: rs)) : ∃ F1 F2, F = F1 ++ F2 ∧ d.ow w F1 r.1 r.2 ∧ Ows d w F2 rs := by
 cases h with
 | cons h1 h2 => exact ⟨_, _, rfl, h1, h2⟩
/-- v is a slice of the call's own, with all that it leads to, in the blocks F -/
def OwL (d : Dt α) (w : World) (F : List Nat) (v : Value) (l : List α) : Prop :=
 ∃ (rs : List (α × d.S)) (H G : List Nat), rs.map (·.1) = l ∧ Hw d.enc w H v rs ∧ Ows d w G rs ∧ F = H ++ G ∧ F.Nodup
theorem OwL.keep (h : OwL d w F v l) (hs : w.heap.size ≤ w'.heap.size) (hk : ∀ b ∈ F, w'.heap[b]? = w.heap[b]?) : OwL d w' F v l := by
 obtain ⟨rs, H, G, hm, hh, ho, rfl, hn⟩ := h
 exact ⟨rs, H, G, hm, hh.keep hs fun b hb => hk b (List.mem_append_left _ hb), ho.keep hs fun b hb => hk b (List.mem_append_right _ hb), rfl, hn⟩
theorem OwL.lt (h : OwL d w F v l) : ∀ b ∈ F, b < w.heap.size := by
 obtain ⟨rs, H, G, hm, hh, ho, rfl, hn⟩ := h
 intro b hb
 rcases List.mem_append.1 hb with hb | hb
 ·exact hh.lt b hb
 ·exact ho.lt b hb
theorem OwL.nodup (h : OwL d w F v l) : F.Nodup := by
 obtain ⟨rs, H, G, hm, hh, ho, rfl, hn⟩ := h
 exact hn
theorem OwL.rd (h : OwL d w F v l) : RdL d w w.heap.size v l := by
 obtain ⟨rs, H, G, hm, hh, ho, rfl, hn⟩ := h
 exact ⟨rs, hm, hh.rd, ho.rd⟩
theorem OwL.chg (h : OwL d w F v l) (hc : Chg G w w') (hd : ∀ b ∈ F, b ∉ G) : OwL d w' F v l := h.keep hc.size fun b hb => hc.block b (h.lt b hb) (hd b hb)
theorem OwL.below (h : OwL d w F v l) (hb : Below w.heap.size w w') : OwL d w' F v l := h.keep hb.size fun b hF => hb.block b (h.lt b hF)
theorem OwL.nil (d : Dt α) (w : World) (A : Option Addr) (c : Nat) : OwL d w [] (.slice A 0 c) [] := ⟨[], [], [], rfl, Hw.nil _ _ _ _, .nil, rfl, List.nodup_nil⟩
theorem OwL.form (h : OwL d w F v l) : ∃ A c, v = .slice A l.length c ∧ l.length ≤ c := h.rd.form
/-- lists of them are data again -/
@[reducible] def Dt.list (d : Dt α) : Dt (List α) where
 S := Sl
 enc := { cells := fun p => [p.2.v], sz := 1, len := fun _ => rfl, one := fun p u hu => by simp at hu; subst hu; rfl }
 rd w B l s := RdL d w B s.v l
 ow w F l s := OwL d w F s.v l
 rd_keep h hB hk := h.keep hB hk
 ow_keep h hs hk := h.keep hs hk
 ow_lt h := h.lt
 ow_rd h := h.rd
 ow_nodup h := h.nodup
/-- lists of flat data -/
@[reducible] def Dt.flats (e : Enc α) : Dt (List α) where
 S := Sl
 enc := { cells := fun p => [p.2.v], sz := 1, len := fun _ => rfl, one := fun p u hu => by simp at hu; subst hu; rfl }
 rd w B l s := Rd e w B s.v l
 ow w F l s := Hw e w F s.v l
 rd_keep h hB hk := (h.keep hk).more hB
 ow_keep h hs hk := h.keep hs hk
 ow_lt h := h.lt
 ow_rd h := h.rd
 ow_nodup h := h.nodup
/-- data with no slice in it -/
@[reducible] def Dt.flat {β : Type} (cells : β × Unit → List Value) (sz : Nat) (len : ∀ x, (cells x).length = sz) (one : ∀ x, ∀ u ∈ cells x, u.oneCell' = true) : Dt β where
 S := Unit
 enc := { cells := cells, sz := sz, len := len, one := one }
 rd _ _ _ _ := True
 ow _ F _ _ := F = []
 rd_keep _ _ _ := trivial
 ow_keep h _ _ := h
 ow_lt h := by subst h; intro b hb; cases hb
 ow_rd _ := trivial
 ow_nodup h := by subst h; exact List.nodup_nil
/-- data with one datum of another kind in it -/
@[reducible] def Dt.via {β : Type} (d : Dt α) (f : β → α) (cells : β × d.S → List Value) (sz : Nat) (len : ∀ x, (cells x).length = sz) (one : ∀ x, ∀ u ∈ cells x, u.oneCell' = true) : Dt β where
 S := d.S
 enc := { cells := cells, sz := sz, len := len, one := one }
 rd w B x s := d.rd w B (f x) s
 ow w F x s := d.ow w F (f x) s
 rd_keep h hB hk := d.rd_keep h hB hk
 ow_keep h hs hk := d.ow_keep h hs hk
 ow_lt h := d.ow_lt h
 ow_rd h := d.ow_rd h
 ow_nodup h := d.ow_nodup h
/-- data with two -/
@[reducible] def Dt.two {β γ : Type} (d : Dt α) (d' : Dt γ) (f : β → α) (g : β → γ) (cells : β × (d.S × d'.S) → List Value) (sz : Nat) (len : ∀ x, (cells x).length = sz) (one : ∀ x, ∀ u ∈ cells x, u.oneCell' = true) : Dt β where
 S := d.S × d'.S
 enc := { cells := cells, sz := sz, len := len, one := one }
 rd w B x s := d.rd w B (f x) s.1 ∧ d'.rd w B (g x) s.2
 ow w F x s := ∃ F1 F2, F = F1 ++ F2 ∧ F.Nodup ∧ d.ow w F1 (f x) s.1 ∧ d'.ow w F2 (g x) s.2
 rd_keep h hB hk := ⟨d.rd_keep h.1 hB hk, d'.rd_keep h.2 hB hk⟩
 ow_keep := fun ⟨F1, F2, hF, hn, h1, h2⟩ hs hk => ⟨F1, F2, hF, hn, d.ow_keep h1 hs fun b hb => hk b (by rw [hF]; exact List.mem_append_left _ hb), d'.ow_keep h2 hs fun b hb => hk b (by rw [hF]; exact List.mem_append_right _ hb)⟩
 ow_lt := fun ⟨F1, F2, hF, hn, h1, h2⟩ b hb => by
  rw [hF] at hb
  rcases List.mem_append.1 hb with hb | hb
  ·exact d.ow_lt h1 b hb
  ·exact d'.ow_lt h2 b hb
 ow_rd := fun ⟨F1, F2, hF, hn, h1, h2⟩ => ⟨d.ow_rd h1, d'.ow_rd h2⟩
 ow_nodup := fun ⟨F1, F2, hF, hn, h1, h2⟩ => hn
theorem Dt.ow_chg (d : Dt α) {x : α} {s : d.S} (h : d.ow w F x s) (hc : Chg G w w') (hd : ∀ b ∈ F, b ∉ G) : d.ow w' F x s := d.ow_keep h hc.size fun b hb => hc.block b (d.ow_lt h b hb) (hd b hb)
theorem Dt.ow_below (d : Dt α) {x : α} {s : d.S} (h : d.ow w F x s) (hb : Below w.heap.size w w') : d.ow w' F x s := d.ow_keep h hb.size fun b hF => hb.block b (d.ow_lt h b hF)
theorem Dt.rd_below (d : Dt α) {x : α} {s : d.S} (h : d.rd w B x s) (hb : Below B w w') : d.rd w' B x s := d.rd_keep h (Nat.le_refl _) fun _ hp => hb.cell hp
theorem Dt.rd_more (d : Dt α) {x : α} {s : d.S} (h : d.rd w B x s) (hB : B ≤ B') : d.rd w B' x s := d.rd_keep h hB fun _ _ => rfl
/-- what hands out a datum of the call's own -/
def OwnPost (d : Dt α) (val : α → d.S → Value) (x : α) (w : World) (e : Ending) (w' : World) : Prop :=
 ∃ s F, e = .returned (val x s) ∧ d.ow w' F x s ∧ (∀ b ∈ F, w.heap.size ≤ b) ∧ Below w.heap.size w w'
end
section
variable {α : Type} {d : Dt α} {w w' : World} {v : Value} {l : List α} {F G : List Nat}
theorem Dt.ow_set (d : Dt α) {x : α} {s : d.S} (h : d.ow w F x s) {a : Addr} (ha : a.block ∉ F) (u : Value) : d.ow (w.setCell a u) F x s :=
 d.ow_keep h (by simp [World.setCell]) fun b hb => Below.heap_setCell w a u b (fun e => ha (by rw [← e]; exact hb))
theorem OwL.set (h : OwL d w F v l) {a : Addr} (ha : a.block ∉ F) (u : Value) : OwL d (w.setCell a u) F v l :=
 h.keep (by simp [World.setCell]) fun b hb => Below.heap_setCell w a u b (fun e => ha (by rw [← e]; exact hb))
theorem Hw.set {e : Enc α} (h : Hw e w F v l) {a : Addr} (ha : a.block ∉ F) (u : Value) : Hw e (w.setCell a u) F v l :=
 h.keep (by simp [World.setCell]) fun b hb => Below.heap_setCell w a u b (fun e => ha (by rw [← e]; exact hb))
theorem Ows.bel {rs : List (α × d.S)} (h : Ows d w F rs) (hb : Below w.heap.size w w') : Ows d w' F rs := h.keep hb.size fun b hF => hb.block b (h.lt b hF)
theorem Ows.chg {rs : List (α × d.S)} (h : Ows d w F rs) (hc : Chg G w w') (hd : ∀ b ∈ F, b ∉ G) : Ows d w' F rs := h.keep hc.size fun b hb => hc.block b (h.lt b hb) (hd b hb)
end
theorem blocks_sub (v : Value) (n : Nat) : ∀ b ∈ blocks v n, v.ownBlock = some b := by
 intro b hb
 unfold blocks at hb
 split at hb
 ·cases hb
 ·cases h : v.ownBlock with
  | none => rw [h] at hb; cases hb
  | some g =>
   rw [h] at hb
   simp at hb
   rw [hb]
section
variable {α : Type} {d : Dt α} {E : TypeId} {w w1 w' : World} {base : Nat} {v : Value} {rs : List (α × d.S)}
/-- a slice of data that the call builds: its own row, and what the elements own -/
def Bld (d : Dt α) (E : TypeId) (w : World) (base : Nat) (v : Value) (rs : List (α × d.S)) : Prop :=
 ∃ G, Ow d.enc E w base v rs ∧ Ows d w G rs ∧ G.Nodup ∧ ∀ b ∈ G, base ≤ b ∧ v.ownBlock ≠ some b
theorem Bld.nil (d : Dt α) (E : TypeId) (w : World) (base : Nat) : Bld d E w base (.slice none 0 0) [] := ⟨[], Ow.nil _ _ _ _, .nil, List.nodup_nil, fun _ h => by cases h⟩
theorem Bld.of_empty {v : Value} (h : Ow d.enc E w base v []) : Bld d E w base v [] := ⟨[], h, .nil, List.nodup_nil, fun _ h => by cases h⟩
theorem Bld.below (h : Bld d E w base v rs) (hb : Below w.heap.size w w') : Bld d E w' base v rs := by
 obtain ⟨G, h1, h2, h3, h4⟩ := h
 exact ⟨G, h1.below hb, h2.bel hb, h3, h4⟩
theorem Bld.ow (h : Bld d E w base v rs) : Ow d.enc E w base v rs := by
 obtain ⟨G, h1, _⟩ := h
 exact h1
theorem Bld.rd (h : Bld d E w base v rs) : RdL d w w.heap.size v (rs.map (·.1)) := by
 obtain ⟨G, h1, h2, _⟩ := h
 exact ⟨rs, rfl, Rd.of_own h1, h2.rd⟩
/-- some elements of the call's own come behind the others; the row may have been laid anew -/
theorem Bld.push {v3 : Value} {w3 : World} {ts : List (α × d.S)} {F : List Nat} (h : Bld d E w base v rs) (hb : Below w.heap.size w w1) (ht : Ows d w1 F ts) (hF : ∀ b ∈ F, w.heap.size ≤ b) (hn : F.Nodup) (hbase : base ≤ w.heap.size)
  (ho : Ow d.enc E w3 base v3 (rs ++ ts)) (hg : w1.grownBy w3 v.ownBlock) (hv : v3.ownBlock = v.ownBlock ∨ ∃ g, v3.ownBlock = some g ∧ w1.heap.size ≤ g) : Bld d E w3 base v3 (rs ++ ts) := by
 obtain ⟨G, h1, h2, h3, h4⟩ := h
 have hG : ∀ b ∈ G, b < w.heap.size := h2.lt
 have hFl : ∀ b ∈ F, b < w1.heap.size := ht.lt
 have hvF : ∀ b ∈ F, v.ownBlock ≠ some b := fun b hb he => by
  rcases h1.form with ⟨rfl, _⟩ | ⟨g, cap, rfl, _, hlt, _⟩
  ·simp [Value.ownBlock] at he
  ·have : g = b := by simpa [Value.ownBlock] using he
   have := hF b hb
   omega
 have hs := hb.size
 refine ⟨G ++ F, ho, ?_, ?_, ?_⟩
 ·refine Ows.append ((h2.bel hb).keep hg.size fun b hbG => hg.block b (by have := hG b hbG; omega) ?_) (ht.keep hg.size fun b hbF => hg.block b (hFl b hbF) ?_)
  ·exact fun e => (h4 b hbG).2 e.symm
  ·exact fun e => hvF b hbF e.symm
 ·rw [List.nodup_append]
  refine ⟨h3, hn, fun a ha b hb' e => ?_⟩
  have := hG a ha
  have := hF b hb'
  omega
 ·intro b hbm
  rcases List.mem_append.1 hbm with hbm | hbm
  ·refine ⟨(h4 b hbm).1, ?_⟩
   rcases hv with hv | ⟨g, hv, hlt⟩
   ·rw [hv]; exact (h4 b hbm).2
   ·rw [hv]
    intro e
    have := hG b hbm
    injection e with e
    omega
  ·refine ⟨by have := hF b hbm; omega, ?_⟩
   rcases hv with hv | ⟨g, hv, hlt⟩
   ·rw [hv]; exact hvF b hbm
   ·rw [hv]
    intro e
    have := hFl b hbm
    injection e with e
    omega
theorem Bld.owl (h : Bld d E w base v rs) {l : List α} (hl : rs.map (·.1) = l) : ∃ F, OwL d w F v l ∧ ∀ b ∈ F, base ≤ b := by
 obtain ⟨G, h1, h2, h3, h4⟩ := h
 obtain ⟨h5, h6⟩ := Hw.of_ow h1
 refine ⟨_, ⟨rs, _, G, hl, h5, h2, rfl, ?_⟩, ?_⟩
 ·rw [List.nodup_append]
  refine ⟨blocks_nodup _ _, h3, fun a ha b hb e => ?_⟩
  subst e
  exact (h4 a hb).2 (blocks_sub _ _ _ ha)
 ·intro b hb
  rcases List.mem_append.1 hb with hb | hb
  ·exact h6 b hb
  ·exact (h4 b hb).1
end
abbrev slV {α : Type} (_ : α) (s : Sl) : Value := .slice s.a s.n s.c
section
variable {α : Type} {d : Dt α} {w w' : World} {b o n c j : Nat} {rs : List (α × d.S)} {G1 Fx G2 : List Nat} {x y : α} {s : d.S}
/-- a list under marking, with the eye on its element j -/
structure Foc (d : Dt α) (w : World) (b o n c : Nat) (rs : List (α × d.S)) (j : Nat) (G1 Fx G2 : List Nat) (x : α) (s : d.S) : Prop where
 rd : Rd d.enc w w.heap.size (.slice (some ⟨b, o, none⟩) n c) (rs.set j (x, s))
 free : ∀ i, w.frozen? ⟨b, i, none⟩ = false
 left : Ows d w G1 (rs.take j)
 here : d.ow w Fx x s
 right : Ows d w G2 (rs.drop (j + 1))
 lt : j < rs.length
 nodup : ([b] ++ (G1 ++ (Fx ++ G2))).Nodup
 blk : b < w.heap.size
theorem Foc.apart (h : Foc d w b o n c rs j G1 Fx G2 x s) : (b ∉ G1 ∧ b ∉ Fx ∧ b ∉ G2) ∧ (∀ a ∈ G1, a ∉ Fx) ∧ (∀ a ∈ G2, a ∉ Fx) := by
 have h1 := h.nodup
 simp only [List.cons_append, List.nil_append, List.nodup_cons, List.mem_append, not_or, List.nodup_append] at h1
 obtain ⟨⟨a1, a2, a3⟩, _, ⟨_, _, a4⟩, a5⟩ := h1
 exact ⟨⟨a1, a2, a3⟩, fun a ha hx => a5 a ha a (.inl hx) rfl, fun a ha hx => a4 a hx a ha rfl⟩
theorem Foc.cells (h : Foc d w b o n c rs j G1 Fx G2 x s) : ∀ i u, (d.enc.cells (x, s))[i]? = some u → w.cell? ⟨b, o + j * d.enc.sz + i, none⟩ = some u := by
 intro i u hu
 obtain ⟨A', c', hv, _, hA⟩ := h.rd
 simp only [Value.slice.injEq] at hv
 obtain ⟨rfl, _, _⟩ := hv
 have hl : j < (rs.set j (x, s)).length := by rw [List.length_set]; exact h.lt
 obtain ⟨b', o', he, _, hc⟩ := hA (by omega)
 simp only [Option.some.injEq, Addr.mk.injEq, and_true] at he
 obtain ⟨rfl, rfl⟩ := he
 exact hc j hl i u (by rw [List.getElem_set_self]; exact hu)
/-- a part of the element's own cells is written -/
theorem Foc.put (h : Foc d w b o n c rs j G1 Fx G2 x s) (y : α) (off : Nat) (us : List Value) (hoff : off + us.length ≤ d.enc.sz)
  (hin : ∀ i (hi : i < us.length), (d.enc.cells (y, s))[off + i]? = some us[i]) (hout : ∀ i, i < d.enc.sz → (i < off ∨ off + us.length ≤ i) → (d.enc.cells (y, s))[i]? = (d.enc.cells (x, s))[i]?)
  (hy : ∀ W, d.ow W Fx x s → d.ow W Fx y s) : Foc d (wSeq w b (o + j * d.enc.sz + off) us) b o n c rs j G1 Fx G2 y s ∧ Chg [b] w (wSeq w b (o + j * d.enc.sz + off) us) := by
 have hc := wSeq_chg us w b (o + j * d.enc.sz + off)
 obtain ⟨⟨a1, a2, a3⟩, _, _⟩ := h.apart
 refine ⟨⟨?_, fun i => by rw [wSeq_frozen]; exact h.free i, h.left.chg hc ?_, hy _ (Dt.ow_chg d h.here hc ?_), h.right.chg hc ?_, h.lt, h.nodup, by rw [wSeq_size]; exact h.blk⟩, hc⟩
 ·have hl : j < (rs.set j (x, s)).length := by rw [List.length_set]; exact h.lt
  have := h.rd.part j hl (y, s) off us hoff hin (by rw [List.getElem_set_self]; exact hout)
  rw [List.set_set] at this
  rw [wSeq_size]
  exact this
 all_goals
  intro x hx hb
  simp only [List.mem_singleton] at hb
  subst hb
  first | exact a1 hx | exact a2 hx | exact a3 hx
/-- what the element leads to is written -/
theorem Foc.sub (h : Foc d w b o n c rs j G1 Fx G2 x s) (hc : Chg Fx w w') (hy : d.ow w' Fx y s) (hcells : d.enc.cells (y, s) = d.enc.cells (x, s)) : Foc d w' b o n c rs j G1 Fx G2 y s := by
 obtain ⟨⟨a1, a2, a3⟩, a4, a5⟩ := h.apart
 refine ⟨?_, fun i => by rw [hc.frozen (p := ⟨b, i, none⟩) h.blk a2]; exact h.free i, h.left.chg hc a4, hy, h.right.chg hc a5, h.lt, h.nodup, Nat.lt_of_lt_of_le h.blk hc.size⟩
 have hl : j < (rs.set j (x, s)).length := by rw [List.length_set]; exact h.lt
 have h1 := h.rd.keepF (w' := w') hc.size (fun b' hb' i => by
  have := blocks_sub _ _ _ hb'
  have : b = b' := by simpa [Value.ownBlock] using this
  subst this
  exact hc.cell (p := ⟨b, i, none⟩) h.blk a2)
 have h2 := h1.same j hl (y, s) (by rw [List.getElem_set_self]; exact hcells)
 rwa [List.set_set] at h2
theorem Foc.start {F1 F2 : List Nat} (hr : Rd d.enc w w.heap.size (.slice (some ⟨b, o, none⟩) n c) rs) (hf : ∀ i, w.frozen? ⟨b, i, none⟩ = false) (h1 : Ows d w F1 (rs.take j)) (h2 : Ows d w F2 (rs.drop j)) (hj : j < rs.length) (hn : ([b] ++ (F1 ++ F2)).Nodup) (hb : b < w.heap.size) :
  ∃ Fx G2, F2 = Fx ++ G2 ∧ Foc d w b o n c rs j F1 Fx G2 rs[j].1 rs[j].2 := by
 rw [← List.getElem_cons_drop hj] at h2
 obtain ⟨Fx, G2, rfl, h3, h4⟩ := h2.head
 refine ⟨Fx, G2, rfl, ⟨?_, hf, h1, h3, h4, hj, hn, hb⟩⟩
 have : rs.set j (rs[j].1, rs[j].2) = rs := List.set_getElem_self hj
 rw [this]
 exact hr
theorem Foc.done (h : Foc d w b o n c rs j G1 Fx G2 x s) : Rd d.enc w w.heap.size (.slice (some ⟨b, o, none⟩) n c) (rs.set j (x, s)) ∧ Ows d w (G1 ++ Fx) ((rs.set j (x, s)).take (j + 1)) ∧ Ows d w G2 ((rs.set j (x, s)).drop (j + 1)) ∧ ([b] ++ ((G1 ++ Fx) ++ G2)).Nodup := by
 refine ⟨h.rd, ?_, ?_, ?_⟩
 ·have hl : j < (rs.set j (x, s)).length := by rw [List.length_set]; exact h.lt
  rw [List.take_succ_eq_append_getElem hl, List.getElem_set_self, List.take_set_of_le (Nat.le_refl j)]
  exact h.left.append (Ows.one h.here)
 ·rw [List.drop_set_of_lt (by omega)]
  exact h.right
 ·have := h.nodup
  simp only [List.append_assoc] at this ⊢
  exact this
end
theorem Foc.owl {α : Type} {d : Dt α} {w : World} {b o n c j : Nat} {rs : List (α × d.S)} {G1 Fx G2 : List Nat} {x : α} {s : d.S} {l : List α} (h : Foc d w b o n c rs j G1 Fx G2 x s) (hm : rs.map (·.1) = l) :
  OwL d w ([b] ++ (G1 ++ (Fx ++ G2))) (.slice (some ⟨b, o, none⟩) n c) (l.set j x) := by
 refine ⟨rs.set j (x, s), [b], G1 ++ (Fx ++ G2), by rw [List.map_set, hm], ⟨h.rd, ?_, ?_⟩, ?_, rfl, h.nodup⟩
 ·unfold blocks
  rw [if_neg (by rw [List.length_set]; have := h.lt; omega)]
  rfl
 ·intro g hg i
  have : g = b := by simpa using hg
  subst this
  exact h.free i
 ·have e : rs.set j (x, s) = rs.take j ++ (x, s) :: rs.drop (j + 1) := by rw [List.set_eq_take_append_cons_drop, if_pos h.lt]
  rw [e]
  exact h.left.append (.cons h.here h.right)
/-- all lengths in a list of data together -/
def cntL {α : Type} (cnt : α → Nat) (l : List α) : Nat := l.length + (l.map cnt).sum
theorem cntL_mem {α : Type} {cnt : α → Nat} : ∀ {l : List α} {x : α}, x ∈ l → cnt x + 1 ≤ cntL cnt l
 | y :: l, x, h => by
  unfold cntL
  simp only [List.length_cons, List.map_cons, List.sum_cons]
  rcases List.mem_cons.1 h with rfl | h
  ·omega
  ·have := cntL_mem (cnt := cnt) h
   unfold cntL at this
   omega
theorem cntL_len {α : Type} (cnt : α → Nat) (l : List α) : l.length ≤ cntL cnt l := Nat.le_add_right _ _
theorem sum_take_succ {α : Type} (f : α → Nat) (l : List α) (k : Nat) (h : k < l.length) : ((l.take (k + 1)).map f).sum = ((l.take k).map f).sum + f l[k] := by
 rw [take_snoc l k h, List.map_append, List.sum_append]
 simp
theorem sum_take_le {α : Type} (f : α → Nat) (l : List α) (k : Nat) : ((l.take k).map f).sum ≤ (l.map f).sum := by
 conv => rhs; rw [← List.take_append_drop k l, List.map_append, List.sum_append]
 omega
theorem cntL_zero {α : Type} {cnt : α → Nat} (h : ∀ x, cnt x = 0) : ∀ l : List α, cntL cnt l = l.length
 | [] => rfl
 | x :: l => by
  have := cntL_zero h l
  unfold cntL at *
  simp only [List.length_cons, List.map_cons, List.sum_cons, h x] at *
  omega
section
variable {α : Type} (mk : Int → α → α) (num : α → Nat)
end
end Go.Proofs.Ytonlnjdempbfoaa
end
section
namespace Go.Proofs.Ytonlnjdempbfoaa
open Go.RowKit
set_option maxRecDepth 100000
set_option maxHeartbeats 1000000
theorem implCopy_any (p : Plan) (ve : Value) (w : World) (hl : p.edges.length ≤ 2000000) (h : Rd edgeE w w.heap.size ve p.edges) :
  Calls Try.prog 40 #[planV p ve] w (ToPlanPost p w) := by
 obtain ⟨A, c, rfl, -⟩ := id h
 obtain ⟨i0, hi0, hz0, hz1, hz2⟩ := info_parts edge_info
 have hbx : ∀ W, Below w.heap.size w W → Rd edgeE W W.heap.size (.slice A p.edges.length c) p.edges := fun W hW => (h.below hW).more hW.size
 unfold planV
 go_enter Try.func40, Try.ntmps40
 go_wp2_with (at_builtin; refine wpList_push_all _ edgeE (by decide) rfl (.const (.slice none 0 0)) (.tmp 4) rfl Try.underlying33 hi0 hz0 hz1 hz2 rfl (v := .slice none 0 0) (l := []) rfl (Ow.nil edgeE 94 _ (w.heap.size + 2)) rfl (hbx _ (((Below.refl _ _).alloc (by simp <;> omega) _).alloc (by simp <;> omega) _)) (by simp) (by omega) (by decide) (by simp) ?_; intro v1 w1 o1 g1 _; rw [List.nil_append] at o1; obtain ⟨A1, c1, rfl, -⟩ := id (Rd.of_own o1); have hb1 := (Below.refl (w.heap.size + 2) _).grown g1 (by simp <;> omega) (fun k hk => by simp [Value.ownBlock] at hk <;> omega); clear g1; have q1 : ∀ b o, b < w.heap.size + 2 → w1.cell? ⟨b, o, none⟩ = _ := fun b o h => hb1.cell (p := ⟨b, o, none⟩) h; have q2 : ∀ b o, b < w.heap.size + 2 → w1.frozen? ⟨b, o, none⟩ = _ := fun b o h => hb1.frozen (p := ⟨b, o, none⟩) h; have hs := hb1.size; simp only [World.size_alloc] at hs)
 have hW : Below w.heap.size w w1 := Below.trans (((Below.refl _ _).alloc (by simp <;> omega) _).alloc (by simp <;> omega) _) (hb1.mono (by omega))
 refine bodyPost_ret (v := planV p (.slice A1 p.edges.length c1)) ?_ rfl ?_
 ·simp [planV, results, Try.results40, go_sem, q1]
 ·refine ⟨.slice A1 p.edges.length c1, rfl, ?_, ?_⟩
  ·refine Ow.more (base := w.heap.size + 2) ?_ (by omega)
   unfold Ow at o1 ⊢
   repeat (first | (with_reducible exact o1) | refine ownsRow_setCell_below ?_ (by simp <;> omega) _)
  ·repeat (first | (with_reducible exact hW) | refine Below.setCell ?_ (by simp <;> omega) _)
theorem specCopy_any (p : Plan) (ve : Value) (w : World) (hl : p.edges.length ≤ 2000000) (h : Rd edgeE w w.heap.size ve p.edges) :
  Calls Try.prog 35 #[planV p ve] w (ToPlanPost p w) := by
 obtain ⟨A, c, rfl, -⟩ := id h
 obtain ⟨i0, hi0, hz0, hz1, hz2⟩ := info_parts edge_info
 have hbx : ∀ W, Below w.heap.size w W → Rd edgeE W W.heap.size (.slice A p.edges.length c) p.edges := fun W hW => (h.below hW).more hW.size
 unfold planV
 go_enter Try.func35, Try.ntmps35
 go_wp2_with (at_builtin; refine wpList_push_all _ edgeE (by decide) rfl (.tmp 3) (.tmp 5) rfl Try.underlying33 hi0 hz0 hz1 hz2 rfl (v := .slice (some ⟨w.heap.size + 1 + 1, 0, none⟩) 0 0) (l := []) rfl ((Ow.empty edgeE 94 _ (by simp)).more (base' := w.heap.size + 2) (by omega)) rfl (hbx _ ((((Below.refl _ _).alloc (by simp <;> omega) _).alloc (by simp <;> omega) _).alloc (by simp <;> omega) _)) (by simp) (by omega) (by decide) (by simp) ?_; intro v1 w1 o1 g1 _; rw [List.nil_append] at o1; obtain ⟨A1, c1, rfl, -⟩ := id (Rd.of_own o1); have hb1 := ((Below.refl (w.heap.size + 2) _).alloc (by simp <;> omega) _).grown g1 (by simp <;> omega) (fun k hk => by simp [Value.ownBlock] at hk <;> omega); clear g1; have q1 : ∀ b o, b < w.heap.size + 2 → w1.cell? ⟨b, o, none⟩ = _ := fun b o h => hb1.cell (p := ⟨b, o, none⟩) h; have q2 : ∀ b o, b < w.heap.size + 2 → w1.frozen? ⟨b, o, none⟩ = _ := fun b o h => hb1.frozen (p := ⟨b, o, none⟩) h; have hs := hb1.size; simp only [World.size_alloc] at hs)
 have hW : Below w.heap.size w w1 := Below.trans (((Below.refl _ _).alloc (by simp <;> omega) _).alloc (by simp <;> omega) _) (hb1.mono (by omega))
 refine bodyPost_ret (v := planV p (.slice A1 p.edges.length c1)) ?_ rfl ?_
 ·simp [planV, results, Try.results35, go_sem, q1]
 ·refine ⟨.slice A1 p.edges.length c1, rfl, ?_, ?_⟩
  ·refine Ow.more (base := w.heap.size + 2) ?_ (by omega)
   unfold Ow at o1 ⊢
   repeat (first | (with_reducible exact o1) | refine ownsRow_setCell_below ?_ (by simp <;> omega) _)
  ·repeat (first | (with_reducible exact hW) | refine Below.setCell ?_ (by simp <;> omega) _)
end Go.Proofs.Ytonlnjdempbfoaa
end
section
namespace Go.Proofs.Ytonlnjdempbfoaa
open Go.RowKit
set_option maxRecDepth 100000
set_option maxHeartbeats 2000000
theorem l06Many_any (p : Plan) (ve : Value) (w : World) (hl : p.edges.length ≤ 2000000) (h : Rd edgeE w w.heap.size ve p.edges) :
  Calls Try.prog 84 #[planV p ve] w fun e w' => e = .returned (.bool (!manyOk p)) ∧ Below w.heap.size w w' := by
 obtain ⟨A, c, rfl, -⟩ := id h
 unfold planV
 cases h1 : inB p.tasks 1 12
 ·have H := Lib.hid (show (!manyOk p) = true by simp [manyOk, h1])
  go_enter Try.func84, Try.ntmps84
  go_wp2_with (go_at_call 30; refine (l01In_any _ _ _ _).mono ?_; rintro e w' ⟨rfl, rfl⟩)
  go_ret
  exact ⟨ret_bool H.out.symm, (Below.refl _ _).alloc (Nat.le_refl _) _⟩
 by_cases h2 : 30 < p.edges.length
 ·have H := Lib.hid (show (!manyOk p) = true by simp [manyOk, show ¬ p.edges.length ≤ 30 by omega])
  have h2' : decide ((30 : Int) < (p.edges.length : Int)) = true := by simp; omega
  have h2'' : (30 : Int) < (p.edges.length : Int) := by omega
  go_enter Try.func84, Try.ntmps84
  go_wp2_with (go_at_call 30; refine (l01In_any _ _ _ _).mono ?_; rintro e w' ⟨rfl, rfl⟩)
  go_ret
  exact ⟨ret_bool H.out.symm, (Below.refl _ _).alloc (Nat.le_refl _) _⟩
 have h2' : decide ((30 : Int) < (p.edges.length : Int)) = false := by simp; omega
 have h2'' : ¬ (30 : Int) < (p.edges.length : Int) := by omega
 cases h3 : inB p.prio 0 9
 ·have H := Lib.hid (show (!manyOk p) = true by simp [manyOk, h3])
  go_enter Try.func84, Try.ntmps84
  go_wp2_with (go_at_call 30; refine (l01In_any _ _ _ _).mono ?_; rintro e w' ⟨rfl, rfl⟩)
  go_ret
  exact ⟨ret_bool H.out.symm, (Below.refl _ _).alloc (Nat.le_refl _) _⟩
 cases h4 : inB p.most 1 5
 ·have H := Lib.hid (show (!manyOk p) = true by simp [manyOk, h4])
  go_enter Try.func84, Try.ntmps84
  go_wp2_with (go_at_call 30; refine (l01In_any _ _ _ _).mono ?_; rintro e w' ⟨rfl, rfl⟩)
  go_ret
  exact ⟨ret_bool H.out.symm, (Below.refl _ _).alloc (Nat.le_refl _) _⟩
 have H : Hid ((!inB p.wait 1 20) = !manyOk p) := by
  show (!inB p.wait 1 20) = !manyOk p
  simp [manyOk, h1, h3, h4, show p.edges.length ≤ 30 by omega]
 go_enter Try.func84, Try.ntmps84
 go_wp2_with (go_at_call 30; refine (l01In_any _ _ _ _).mono ?_; rintro e w' ⟨rfl, rfl⟩)
 go_ret
 exact ⟨ret_bool H.out, (Below.refl _ _).alloc (Nat.le_refl _) _⟩
theorem specPlanFault_any (p : Plan) (ve : Value) (w : World) (hl : p.edges.length ≤ 2000000) (h : Rd edgeE w w.heap.size ve p.edges) :
  Calls Try.prog 63 #[planV p ve] w fun e w' => e = .returned (.int .i64 (planFault p)) ∧ Below w.heap.size w w' := by
 obtain ⟨A, c, rfl, -⟩ := id h
 have hb0 := planBox_below 35 p (.slice A p.edges.length c) w
 cases hm : manyOk p
 ·have H := Lib.hid (planFault_many hm)
  unfold planV
  go_enter Try.func63, Try.ntmps63
  go_wp2_with fail
  refine (l06Many_any p (.slice A p.edges.length c) _ hl ((h.below hb0).more hb0.size)).mono ?_
  rintro e w1 ⟨rfl, hb1⟩
  rw [hm]
  go_wp2
  go_ret
  exact ⟨ret_int H.out.symm, bnext hb0 hb1⟩
 ·have Hm := Lib.hid hm
  obtain ⟨t1, t2⟩ := manyOk_tasks hm
  have hlen := manyOk_edges hm
  unfold planV
  go_enter Try.func63, Try.ntmps63
  go_wp2_with fail
  refine (l06Many_any p (.slice A p.edges.length c) _ hl ((h.below hb0).more hb0.size)).mono ?_
  rintro e w1 ⟨rfl, hb1⟩
  rw [hm]
  clear hm
  go_wp2
  go_loopw [3] (fun i wr => ∃ k : Nat, k ≤ p.edges.length ∧ i = .int .i64 k ∧ Hid (∀ j (hj : j < p.edges.length), j < k → edgeIn p.tasks p.edges[j] = true) ∧ Below (planBox 35 p (.slice A p.edges.length c) w).heap.size (planBox 35 p (.slice A p.edges.length c) w) wr) (fun i _ => p.edges.length - (intOf i).toNat)
  case atStart => exact ⟨0, Nat.zero_le _, rfl, fun j hj h0 => absurd h0 (by omega), hb1⟩
  case round =>
   obtain ⟨k, hk, rfl, hok, hb⟩ := hrel
   obtain ⟨x0, x1, x2, x3, x4, hs, hbw⟩ := planBox_cells hb
   by_cases hlt : k < p.edges.length
   ·obtain ⟨b, o, rfl, hbb, c0, c1⟩ := (h.below hbw).edge hlt
    have hltI : (k : Int) < (p.edges.length : Int) := by omega
    have hlc := later_cell wr
    have hs1 : w.heap.size < wr.heap.size := by omega
    have hbb1 : b < wr.heap.size := by omega
    have e1 : IntKind.i64.wrap (p.tasks - 1) = p.tasks - 1 := IntWalk.i64_in _ (by omega)
    have bad : edgeIn p.tasks p.edges[k] = false → Hid (planFault p = 2) := fun hf => planFault_edge Hm.out (fun hin => by
     rw [hin _ (List.getElem_mem hlt)] at hf; cases hf)
    cases g1 : inB p.edges[k].fr 0 (p.tasks - 1)
    ·have H := bad (by simp [edgeIn, g1])
     clear bad
     go_wp2
     refine wp_region_pure (by kernel_rfl) (by kernel_rfl) ?_
     repeat (go_big_quiet_step ((go_at_call 30; exact pure_same (fun u => l01In_any _ _ _ u.1))))
     refine wpQuiet_nil ?_
     rintro _ ⟨⟨w2, hb2⟩, rfl⟩
     clear hlc
     go_wp2
     go_ret
     exact ⟨ret_int H.out.symm, bnext hbw hb2⟩
    cases g2 : inB p.edges[k].to 0 (p.tasks - 1)
    ·have H := bad (by simp [edgeIn, g2])
     clear bad
     go_wp2
     refine wp_region_pure (by kernel_rfl) (by kernel_rfl) ?_
     repeat (go_big_quiet_step ((go_at_call 30; exact pure_same (fun u => l01In_any _ _ _ u.1))))
     refine wpQuiet_nil ?_
     rintro _ ⟨⟨w2, hb2⟩, rfl⟩
     clear hlc
     go_wp2
     go_ret
     exact ⟨ret_int H.out.symm, bnext hbw hb2⟩
    ·have S : Hid (∀ j (hj : j < p.edges.length), j < k + 1 → edgeIn p.tasks p.edges[j] = true) := by
      intro j hj hjk
      by_cases e : j = k
      ·subst e; simp [edgeIn, g1, g2]
      ·exact hok.out j hj (by omega)
     clear bad
     go_wp2
     refine wp_region_pure (by kernel_rfl) (by kernel_rfl) ?_
     repeat (go_big_quiet_step ((go_at_call 30; exact pure_same (fun u => l01In_any _ _ _ u.1))))
     refine wpQuiet_nil ?_
     rintro _ ⟨⟨w2, hb2⟩, rfl⟩
     clear hlc
     go_wp2
     exact ⟨⟨k + 1, by omega, by go_num, S, hb.trans (hb2.mono hb.size)⟩, by simp [intOf]; omega⟩
   ·have hin : Hid (edgesIn p) := fun e he => by
     obtain ⟨j, hj, rfl⟩ := List.getElem_of_mem he
     exact hok.out j hj (by omega)
    have hltI : ¬ (k : Int) < (p.edges.length : Int) := by omega
    have hs1 : w.heap.size < wr.heap.size := by omega
    clear hok hk hb1
    go_wp2
    clear hlt hltI
    go_loopw [4] (fun i wr => ∃ k : Nat, k ≤ p.edges.length ∧ i = .int .i64 k ∧ Hid ((p.edges.take k).Nodup) ∧ Below (planBox 35 p (.slice A p.edges.length c) w).heap.size (planBox 35 p (.slice A p.edges.length c) w) wr) (fun i _ => p.edges.length - (intOf i).toNat)
    case atStart => exact ⟨0, Nat.zero_le _, rfl, by show (p.edges.take 0).Nodup; simp, hb⟩
    case round =>
     clear hb x0 x1 x2 x3 x4 hs hbw hs1
     obtain ⟨k, hk, rfl, hok, hb⟩ := hrel
     obtain ⟨x0, x1, x2, x3, x4, hs, hbw⟩ := planBox_cells hb
     by_cases hlt : k < p.edges.length
     ·have hltI : (k : Int) < (p.edges.length : Int) := by omega
      obtain ⟨b, o, rfl, -, -, -⟩ := (h.below hbw).edge hlt
      obtain ⟨wo, rfl⟩ : ∃ wo : World, wo = wr := ⟨_, rfl⟩
      go_wp2
      go_loopw [5] (fun i wr => ∃ m : Nat, m ≤ k ∧ i = .int .i64 m ∧ Hid (∀ j (hj : j < p.edges.length), j < m → ¬ p.edges[k] = p.edges[j]) ∧ Below (planBox 35 p (.slice (some ⟨b, o, none⟩) p.edges.length c) w).heap.size (planBox 35 p (.slice (some ⟨b, o, none⟩) p.edges.length c) w) wr) (fun i _ => k - (intOf i).toNat)
      case atStart => exact ⟨0, Nat.zero_le _, rfl, fun j hj h0 => absurd h0 (by omega), hb⟩
      case round =>
       clear hb x0 x1 x2 x3 x4 hs hbw
       obtain ⟨m, hm, rfl, hno, hb⟩ := hrel
       obtain ⟨x0, x1, x2, x3, x4, hs, hbw⟩ := planBox_cells hb
       by_cases hmk : m < k
       ·have hmI : (m : Int) < (k : Int) := by omega
        have hml : m < p.edges.length := by omega
        have hmlI : (m : Int) < (p.edges.length : Int) := by omega
        obtain ⟨b1, o1, he1, -, c0, c1⟩ := (h.below hbw).edge hlt
        obtain ⟨b2, o2, he2, -, d0, d1⟩ := (h.below hbw).edge hml
        simp only [Option.some.injEq, Addr.mk.injEq, and_true] at he1 he2
        obtain ⟨rfl, rfl⟩ := he1
        obtain ⟨rfl, rfl⟩ := he2
        by_cases hx : p.edges[k] = p.edges[m]
        ·have H : Hid (planFault p = 3) := planFault_twice Hm.out hin.out (fun hnd => by
          have h1 : (p.edges.take (k + 1)).Nodup := hnd.sublist (List.take_sublist _ _)
          rw [take_snoc _ k hlt] at h1
          refine (nodup_snoc.1 h1).2 ?_
          rw [hx]
          have : (p.edges.take k)[m]'(by simp; omega) = p.edges[m] := List.getElem_take
          rw [← this]
          exact List.getElem_mem _)
         have e0 : p.edges[m].fr = p.edges[k].fr := by rw [hx]
         have e1 : p.edges[m].to = p.edges[k].to := by rw [hx]
         rw [e0] at d0
         rw [e1] at d1
         clear hx e0 e1
         go_wp2
         go_quiet (fail)
         go_wp2
         go_ret
         exact ⟨ret_int H.out.symm, bdrewN hbw _⟩
        ·have S : Hid (∀ j (hj : j < p.edges.length), j < m + 1 → ¬ p.edges[k] = p.edges[j]) := by
          intro j hj hjm
          by_cases e : j = m
          ·subst e; exact hx
          ·exact hno.out j hj (by omega)
         have hx' : ¬ (p.edges[k].fr = p.edges[m].fr ∧ p.edges[k].to = p.edges[m].to) := fun ⟨e0, e1⟩ => hx (by cases hlk : p.edges[k]; cases hlm : p.edges[m]; simp_all)
         clear hx
         by_cases e0 : p.edges[k].fr = p.edges[m].fr
         ·have e1 : ¬ p.edges[k].to = p.edges[m].to := fun e => hx' ⟨e0, e⟩
          have e1' : (p.edges[k].to == p.edges[m].to) = false := beq_eq_false_iff_ne.2 e1
          rw [← e0] at d0
          clear hx' e0
          go_wp2
          go_quiet (fail)
          go_wp2
          exact ⟨⟨m + 1, by omega, by go_num, S, bdrewN hb _⟩, by simp [intOf]; omega⟩
         ·have e0' : (p.edges[k].fr == p.edges[m].fr) = false := beq_eq_false_iff_ne.2 e0
          clear hx'
          go_wp2
          go_quiet (fail)
          go_wp2
          exact ⟨⟨m + 1, by omega, by go_num, S, bdrewN hb _⟩, by simp [intOf]; omega⟩
       ·have hmI : ¬ (m : Int) < (k : Int) := by omega
        have S : Hid ((p.edges.take (k + 1)).Nodup) := by
         show (p.edges.take (k + 1)).Nodup
         rw [take_snoc _ k hlt]
         refine nodup_snoc.2 ⟨hok.out, fun hmem => ?_⟩
         obtain ⟨j, hj, hje⟩ := List.getElem_of_mem hmem
         rw [List.getElem_take] at hje
         simp at hj
         exact hno.out j (by omega) (by omega) hje.symm
        go_wp2
        exact ⟨⟨k + 1, by omega, by go_num, S, hb⟩, by simp [intOf]; omega⟩
     ·have hltI : ¬ (k : Int) < (p.edges.length : Int) := by omega
      have hnd : Hid p.edges.Nodup := by
       have h1 := hok.out
       rw [List.take_of_length_le (by omega)] at h1
       exact h1
      clear hok hk
      go_wp2
      clear hlt hltI
      go_loopw [6] (fun i wr => ∃ k : Nat, (k : Int) ≤ p.tasks ∧ i = .int .i64 k ∧ Hid (∀ j, j < k → ¬ Pg.Reach (esOf p) j j) ∧ Below (planBox 35 p (.slice A p.edges.length c) w).heap.size (planBox 35 p (.slice A p.edges.length c) w) wr) (fun i _ => p.tasks.toNat - (intOf i).toNat)
      case atStart => exact ⟨0, by omega, rfl, fun j hj => absurd hj (by omega), hb⟩
      case round =>
       clear hb x0 x1 x2 x3 x4 hs hbw
       obtain ⟨k, hk, rfl, hok, hb⟩ := hrel
       obtain ⟨x0, x1, x2, x3, x4, hs, hbw⟩ := planBox_cells hb
       by_cases hlt : (k : Int) < p.tasks
       ·go_wp2_with fail
        refine (from_any p (.slice A p.edges.length c) k _ Hm.out hin.out hlt ((h.below hbw).more hbw.size)).mono ?_
        rintro e w2 ⟨v, O, rfl, o1, hb2, hOl, hiff⟩
        have hkO : k < O.length := by omega
        have hlen0 := Lib.hid hOl
        rcases o1.form with ⟨_, e0⟩ | ⟨g, cap, rfl, _, hgl, _, _, _, _⟩
        ·exfalso
         subst e0
         simp at hkO
        have ck := o1.bool hkO
        have hg : Hid (O.getD k false = O[k]) := by unfold Hid; rw [List.getD_eq_getElem?_getD, List.getElem?_eq_getElem hkO]; rfl
        have Hiff := Lib.hid hiff
        have hkOI : (k : Int) < (O.length : Int) := by omega
        clear hOl hiff
        cases hO : O[k]
        ·rw [hO] at ck
         have S : Hid (∀ j, j < k + 1 → ¬ Pg.Reach (esOf p) j j) := by
          intro j hj
          by_cases e : j = k
          ·subst e
           intro hr
           have := (Hiff.out j).2 hr
           rw [hg.out, hO] at this
           cases this
          ·exact hok.out j (by omega)
         clear hO
         go_wp2
         exact ⟨⟨k + 1, by omega, by go_num, S, hb.trans (hb2.mono hb.size)⟩, by simp [intOf]; omega⟩
        ·rw [hO] at ck
         have H : Hid (planFault p = 4) := planFault_cycle Hm.out hin.out hnd.out ⟨k, by omega, (Hiff.out k).1 (by rw [hg.out, hO])⟩
         clear hO
         go_wp2
         go_ret
         exact ⟨ret_int H.out.symm, bnext hbw hb2⟩
       ·have H : Hid (planFault p = 0) := planFault_zero.2 ⟨Hm.out, hin.out, hnd.out, fun ⟨t, ht, hr⟩ => hok.out t (by omega) hr⟩
        go_wp2
        go_ret
        exact ⟨ret_int H.out.symm, hbw⟩
end Go.Proofs.Ytonlnjdempbfoaa
end
section
namespace Go.Proofs.Ytonlnjdempbfoaa
open Go.RowKit
set_option maxRecDepth 100000
set_option maxHeartbeats 1000000
set_option linter.unusedVariables false
set_option linter.unusedSimpArgs false
structure Entry where
 prio : Int
 seq : Int
 run : Int
 task : Int
deriving DecidableEq, Inhabited
@[go_sem] abbrev entryW (x : Entry) (_s : Unit) : Value := .agg #[.int .i64 x.prio, .int .i64 x.seq, .int .i64 x.run, .int .i64 x.task]
abbrev entryD : Dt Entry := Dt.flat (fun q => [.int .i64 q.1.prio, .int .i64 q.1.seq, .int .i64 q.1.run, .int .i64 q.1.task]) 4 (fun _ => rfl) (fun q u hu => by simp at hu; rcases hu with rfl | rfl | rfl | rfl <;> rfl)
/-- all lengths in it together -/
def cntEntry (_ : Entry) : Nat := 0
theorem RdL.entry {w : World} {B : Nat} {A : Option Addr} {n c : Nat} {l : List (Entry)} (h : RdL entryD w B (.slice A n c) l) {k : Nat} (hk : k < l.length) :
  ∃ b o, ∃ _s : Unit, A = some ⟨b, o, none⟩ ∧ b < B ∧ entryD.rd w B l[k] _s ∧ w.cell? ⟨b, o + k * 4, none⟩ = some (.int .i64 l[k].prio) ∧ w.cell? ⟨b, o + k * 4 + 1, none⟩ = some (.int .i64 l[k].seq) ∧ w.cell? ⟨b, o + k * 4 + 2, none⟩ = some (.int .i64 l[k].run) ∧ w.cell? ⟨b, o + k * 4 + 3, none⟩ = some (.int .i64 l[k].task) := by
 obtain ⟨b, o, s, rfl, hb, hc, hr⟩ := h.at_ k hk
 exact ⟨b, o, s, rfl, hb, hr, hc 0 _ rfl, hc 1 _ rfl, hc 2 _ rfl, hc 3 _ rfl⟩
theorem Foc.entry {w : World} {b o n c j : Nat} {rs : List ((Entry) × Unit)} {G1 Fx G2 : List Nat} {x : Entry} {s : Unit} (h : Foc entryD w b o n c rs j G1 Fx G2 x s) :
  w.cell? ⟨b, o + j * 4, none⟩ = some (.int .i64 x.prio) ∧ w.cell? ⟨b, o + j * 4 + 1, none⟩ = some (.int .i64 x.seq) ∧ w.cell? ⟨b, o + j * 4 + 2, none⟩ = some (.int .i64 x.run) ∧ w.cell? ⟨b, o + j * 4 + 3, none⟩ = some (.int .i64 x.task) := ⟨h.cells 0 _ rfl, h.cells 1 _ rfl, h.cells 2 _ rfl, h.cells 3 _ rfl⟩
def cntEntryS (x : List Entry) : Nat := cntL cntEntry x
theorem RdL.entryS {w : World} {B : Nat} {A : Option Addr} {n c : Nat} {l : List (List Entry)} (h : RdL (Dt.list entryD) w B (.slice A n c) l) {k : Nat} (hk : k < l.length) :
  ∃ b o, ∃ s : Sl, A = some ⟨b, o, none⟩ ∧ b < B ∧ (Dt.list entryD).rd w B l[k] s ∧ w.cell? ⟨b, o + k, none⟩ = some (.slice s.a s.n s.c) := by
 obtain ⟨b, o, s, rfl, hb, hc, hr⟩ := h.at_ k hk
 exact ⟨b, o, s, rfl, hb, hr, (by have hh := hc 0 _ rfl; rw [show k * (Dt.list entryD).enc.sz = k from Nat.mul_one k] at hh; exact hh)⟩
theorem Foc.entryS {w : World} {b o n c j : Nat} {rs : List ((List Entry) × Sl)} {G1 Fx G2 : List Nat} {x : List Entry} {s : Sl} (h : Foc (Dt.list entryD) w b o n c rs j G1 Fx G2 x s) :
  w.cell? ⟨b, o + j, none⟩ = some (.slice s.a s.n s.c) := (by have hh := h.cells 0 _ rfl; rw [show j * (Dt.list entryD).enc.sz = j from Nat.mul_one j] at hh; exact hh)
theorem entryS_infoD : (Try.prog.info? 77).map (fun i => (i.zero, i.size, i.bytes)) = some (some (.slice none 0 0), 1, 24) := by kernel_rfl
end Go.Proofs.Ytonlnjdempbfoaa
end
section
namespace Go.Proofs.Ytonlnjdempbfoaa
open Go.RowKit
set_option maxRecDepth 100000
set_option maxHeartbeats 1000000
set_option linter.unusedVariables false
set_option linter.unusedSimpArgs false
abbrev edgeD : Dt Edge := Dt.flat (fun q => [.int .i64 q.1.fr, .int .i64 q.1.to]) 2 (fun _ => rfl) (fun q u hu => by simp at hu; rcases hu with rfl | rfl <;> rfl)
/-- all lengths in it together -/
def cntEdge (_ : Edge) : Nat := 0
theorem RdL.edge {w : World} {B : Nat} {A : Option Addr} {n c : Nat} {l : List (Edge)} (h : RdL edgeD w B (.slice A n c) l) {k : Nat} (hk : k < l.length) :
  ∃ b o, ∃ _s : Unit, A = some ⟨b, o, none⟩ ∧ b < B ∧ edgeD.rd w B l[k] _s ∧ w.cell? ⟨b, o + k * 2, none⟩ = some (.int .i64 l[k].fr) ∧ w.cell? ⟨b, o + k * 2 + 1, none⟩ = some (.int .i64 l[k].to) := by
 obtain ⟨b, o, s, rfl, hb, hc, hr⟩ := h.at_ k hk
 exact ⟨b, o, s, rfl, hb, hr, hc 0 _ rfl, hc 1 _ rfl⟩
theorem Foc.edge {w : World} {b o n c j : Nat} {rs : List ((Edge) × Unit)} {G1 Fx G2 : List Nat} {x : Edge} {s : Unit} (h : Foc edgeD w b o n c rs j G1 Fx G2 x s) :
  w.cell? ⟨b, o + j * 2, none⟩ = some (.int .i64 x.fr) ∧ w.cell? ⟨b, o + j * 2 + 1, none⟩ = some (.int .i64 x.to) := ⟨h.cells 0 _ rfl, h.cells 1 _ rfl⟩
end Go.Proofs.Ytonlnjdempbfoaa
end
section
namespace Go.Proofs.Ytonlnjdempbfoaa
open Go.RowKit
set_option maxRecDepth 100000
set_option maxHeartbeats 1000000
set_option linter.unusedVariables false
set_option linter.unusedSimpArgs false
structure Task where
 state : Int
 need : Int
 try_ : Int
 until_ : Int
deriving DecidableEq, Inhabited
abbrev taskD : Dt Task := Dt.flat (fun q => [.int .i64 q.1.state, .int .i64 q.1.need, .int .i64 q.1.try_, .int .i64 q.1.until_]) 4 (fun _ => rfl) (fun q u hu => by simp at hu; rcases hu with rfl | rfl | rfl | rfl <;> rfl)
/-- all lengths in it together -/
def cntTask (_ : Task) : Nat := 0
theorem RdL.task {w : World} {B : Nat} {A : Option Addr} {n c : Nat} {l : List (Task)} (h : RdL taskD w B (.slice A n c) l) {k : Nat} (hk : k < l.length) :
  ∃ b o, ∃ _s : Unit, A = some ⟨b, o, none⟩ ∧ b < B ∧ taskD.rd w B l[k] _s ∧ w.cell? ⟨b, o + k * 4, none⟩ = some (.int .i64 l[k].state) ∧ w.cell? ⟨b, o + k * 4 + 1, none⟩ = some (.int .i64 l[k].need) ∧ w.cell? ⟨b, o + k * 4 + 2, none⟩ = some (.int .i64 l[k].try_) ∧ w.cell? ⟨b, o + k * 4 + 3, none⟩ = some (.int .i64 l[k].until_) := by
 obtain ⟨b, o, s, rfl, hb, hc, hr⟩ := h.at_ k hk
 exact ⟨b, o, s, rfl, hb, hr, hc 0 _ rfl, hc 1 _ rfl, hc 2 _ rfl, hc 3 _ rfl⟩
theorem Foc.task {w : World} {b o n c j : Nat} {rs : List ((Task) × Unit)} {G1 Fx G2 : List Nat} {x : Task} {s : Unit} (h : Foc taskD w b o n c rs j G1 Fx G2 x s) :
  w.cell? ⟨b, o + j * 4, none⟩ = some (.int .i64 x.state) ∧ w.cell? ⟨b, o + j * 4 + 1, none⟩ = some (.int .i64 x.need) ∧ w.cell? ⟨b, o + j * 4 + 2, none⟩ = some (.int .i64 x.try_) ∧ w.cell? ⟨b, o + j * 4 + 3, none⟩ = some (.int .i64 x.until_) := ⟨h.cells 0 _ rfl, h.cells 1 _ rfl, h.cells 2 _ rfl, h.cells 3 _ rfl⟩
end Go.Proofs.Ytonlnjdempbfoaa
end
section
namespace Go.Proofs.Ytonlnjdempbfoaa
open Go.RowKit
set_option maxRecDepth 100000
/-- block b is a variable that holds the cells cs -/
structure DBox (b : Nat) (cs : List Value) (w : World) : Prop where
 cell : ∀ (j : Nat) (u : Value), cs[j]? = some u → w.cell? ⟨b, j, none⟩ = some u
 free : ∀ j, w.frozen? ⟨b, j, none⟩ = false
 lt : b < w.heap.size
theorem DBox.new (T : TypeId) (cs : List Value) (w : World) {b : Nat} (hb : b = w.heap.size) : DBox b cs (w.alloc (.cells cs.toArray T)) := by
 subst hb
 refine ⟨fun j u hu => ?_, fun j => by simp [go_sem], by simp⟩
 have := news_new w cs.toArray T rfl j u (by simpa using hu)
 have e : ((⟨w.heap.size, 0, none⟩ : Addr).add j) = ⟨w.heap.size, j, none⟩ := by
  unfold Addr.add
  split <;> simp_all
 rw [e] at this
 exact this
theorem DBox.keep {b : Nat} {cs : List Value} {w w' : World} (h : DBox b cs w) (hs : w.heap.size ≤ w'.heap.size) (hk : ∀ j, w'.cell? ⟨b, j, none⟩ = w.cell? ⟨b, j, none⟩) (hf : ∀ j, w'.frozen? ⟨b, j, none⟩ = w.frozen? ⟨b, j, none⟩) : DBox b cs w' :=
 ⟨fun j u hu => (hk j).trans (h.cell j u hu), fun j => (hf j).trans (h.free j), Nat.lt_of_lt_of_le h.lt hs⟩
theorem DBox.below {b : Nat} {cs : List Value} {w w' : World} (h : DBox b cs w) (hb : Below w.heap.size w w') : DBox b cs w' :=
 h.keep hb.size (fun j => hb.cell (p := ⟨b, j, none⟩) h.lt) (fun j => hb.frozen (p := ⟨b, j, none⟩) h.lt)
theorem DBox.chg {F : List Nat} {b : Nat} {cs : List Value} {w w' : World} (h : DBox b cs w) (hc : Chg F w w') (hn : b ∉ F) : DBox b cs w' :=
 h.keep hc.size (fun j => hc.cell (p := ⟨b, j, none⟩) h.lt hn) (fun j => hc.frozen (p := ⟨b, j, none⟩) h.lt hn)
theorem DBox.g1 {b : Nat} {w : World} {u0 : Value} (h : DBox b [u0] w) : w.cell? ⟨b, 0, none⟩ = some u0 ∧ b < w.heap.size :=
 ⟨h.cell 0 _ rfl, h.lt⟩
theorem DBox.g2 {b : Nat} {w : World} {u0 u1 : Value} (h : DBox b [u0, u1] w) : w.cell? ⟨b, 0, none⟩ = some u0 ∧ w.cell? ⟨b, 1, none⟩ = some u1 ∧ b < w.heap.size :=
 ⟨h.cell 0 _ rfl, h.cell 1 _ rfl, h.lt⟩
theorem DBox.g3 {b : Nat} {w : World} {u0 u1 u2 : Value} (h : DBox b [u0, u1, u2] w) : w.cell? ⟨b, 0, none⟩ = some u0 ∧ w.cell? ⟨b, 1, none⟩ = some u1 ∧ w.cell? ⟨b, 2, none⟩ = some u2 ∧ b < w.heap.size :=
 ⟨h.cell 0 _ rfl, h.cell 1 _ rfl, h.cell 2 _ rfl, h.lt⟩
theorem DBox.g4 {b : Nat} {w : World} {u0 u1 u2 u3 : Value} (h : DBox b [u0, u1, u2, u3] w) : w.cell? ⟨b, 0, none⟩ = some u0 ∧ w.cell? ⟨b, 1, none⟩ = some u1 ∧ w.cell? ⟨b, 2, none⟩ = some u2 ∧ w.cell? ⟨b, 3, none⟩ = some u3 ∧ b < w.heap.size :=
 ⟨h.cell 0 _ rfl, h.cell 1 _ rfl, h.cell 2 _ rfl, h.cell 3 _ rfl, h.lt⟩
theorem DBox.g5 {b : Nat} {w : World} {u0 u1 u2 u3 u4 : Value} (h : DBox b [u0, u1, u2, u3, u4] w) : w.cell? ⟨b, 0, none⟩ = some u0 ∧ w.cell? ⟨b, 1, none⟩ = some u1 ∧ w.cell? ⟨b, 2, none⟩ = some u2 ∧ w.cell? ⟨b, 3, none⟩ = some u3 ∧ w.cell? ⟨b, 4, none⟩ = some u4 ∧ b < w.heap.size :=
 ⟨h.cell 0 _ rfl, h.cell 1 _ rfl, h.cell 2 _ rfl, h.cell 3 _ rfl, h.cell 4 _ rfl, h.lt⟩
theorem DBox.g6 {b : Nat} {w : World} {u0 u1 u2 u3 u4 u5 : Value} (h : DBox b [u0, u1, u2, u3, u4, u5] w) : w.cell? ⟨b, 0, none⟩ = some u0 ∧ w.cell? ⟨b, 1, none⟩ = some u1 ∧ w.cell? ⟨b, 2, none⟩ = some u2 ∧ w.cell? ⟨b, 3, none⟩ = some u3 ∧ w.cell? ⟨b, 4, none⟩ = some u4 ∧ w.cell? ⟨b, 5, none⟩ = some u5 ∧ b < w.heap.size :=
 ⟨h.cell 0 _ rfl, h.cell 1 _ rfl, h.cell 2 _ rfl, h.cell 3 _ rfl, h.cell 4 _ rfl, h.cell 5 _ rfl, h.lt⟩
theorem DBox.g7 {b : Nat} {w : World} {u0 u1 u2 u3 u4 u5 u6 : Value} (h : DBox b [u0, u1, u2, u3, u4, u5, u6] w) : w.cell? ⟨b, 0, none⟩ = some u0 ∧ w.cell? ⟨b, 1, none⟩ = some u1 ∧ w.cell? ⟨b, 2, none⟩ = some u2 ∧ w.cell? ⟨b, 3, none⟩ = some u3 ∧ w.cell? ⟨b, 4, none⟩ = some u4 ∧ w.cell? ⟨b, 5, none⟩ = some u5 ∧ w.cell? ⟨b, 6, none⟩ = some u6 ∧ b < w.heap.size :=
 ⟨h.cell 0 _ rfl, h.cell 1 _ rfl, h.cell 2 _ rfl, h.cell 3 _ rfl, h.cell 4 _ rfl, h.cell 5 _ rfl, h.cell 6 _ rfl, h.lt⟩
theorem DBox.g8 {b : Nat} {w : World} {u0 u1 u2 u3 u4 u5 u6 u7 : Value} (h : DBox b [u0, u1, u2, u3, u4, u5, u6, u7] w) : w.cell? ⟨b, 0, none⟩ = some u0 ∧ w.cell? ⟨b, 1, none⟩ = some u1 ∧ w.cell? ⟨b, 2, none⟩ = some u2 ∧ w.cell? ⟨b, 3, none⟩ = some u3 ∧ w.cell? ⟨b, 4, none⟩ = some u4 ∧ w.cell? ⟨b, 5, none⟩ = some u5 ∧ w.cell? ⟨b, 6, none⟩ = some u6 ∧ w.cell? ⟨b, 7, none⟩ = some u7 ∧ b < w.heap.size :=
 ⟨h.cell 0 _ rfl, h.cell 1 _ rfl, h.cell 2 _ rfl, h.cell 3 _ rfl, h.cell 4 _ rfl, h.cell 5 _ rfl, h.cell 6 _ rfl, h.cell 7 _ rfl, h.lt⟩
theorem DBox.g9 {b : Nat} {w : World} {u0 u1 u2 u3 u4 u5 u6 u7 u8 : Value} (h : DBox b [u0, u1, u2, u3, u4, u5, u6, u7, u8] w) : w.cell? ⟨b, 0, none⟩ = some u0 ∧ w.cell? ⟨b, 1, none⟩ = some u1 ∧ w.cell? ⟨b, 2, none⟩ = some u2 ∧ w.cell? ⟨b, 3, none⟩ = some u3 ∧ w.cell? ⟨b, 4, none⟩ = some u4 ∧ w.cell? ⟨b, 5, none⟩ = some u5 ∧ w.cell? ⟨b, 6, none⟩ = some u6 ∧ w.cell? ⟨b, 7, none⟩ = some u7 ∧ w.cell? ⟨b, 8, none⟩ = some u8 ∧ b < w.heap.size :=
 ⟨h.cell 0 _ rfl, h.cell 1 _ rfl, h.cell 2 _ rfl, h.cell 3 _ rfl, h.cell 4 _ rfl, h.cell 5 _ rfl, h.cell 6 _ rfl, h.cell 7 _ rfl, h.cell 8 _ rfl, h.lt⟩
theorem DBox.g11 {b : Nat} {w : World} {u0 u1 u2 u3 u4 u5 u6 u7 u8 u9 u10 : Value} (h : DBox b [u0, u1, u2, u3, u4, u5, u6, u7, u8, u9, u10] w) : w.cell? ⟨b, 0, none⟩ = some u0 ∧ w.cell? ⟨b, 1, none⟩ = some u1 ∧ w.cell? ⟨b, 2, none⟩ = some u2 ∧ w.cell? ⟨b, 3, none⟩ = some u3 ∧ w.cell? ⟨b, 4, none⟩ = some u4 ∧ w.cell? ⟨b, 5, none⟩ = some u5 ∧ w.cell? ⟨b, 6, none⟩ = some u6 ∧ w.cell? ⟨b, 7, none⟩ = some u7 ∧ w.cell? ⟨b, 8, none⟩ = some u8 ∧ w.cell? ⟨b, 9, none⟩ = some u9 ∧ w.cell? ⟨b, 10, none⟩ = some u10 ∧ b < w.heap.size :=
 ⟨h.cell 0 _ rfl, h.cell 1 _ rfl, h.cell 2 _ rfl, h.cell 3 _ rfl, h.cell 4 _ rfl, h.cell 5 _ rfl, h.cell 6 _ rfl, h.cell 7 _ rfl, h.cell 8 _ rfl, h.cell 9 _ rfl, h.cell 10 _ rfl, h.lt⟩
/-- four cells of a block that is not one's own are written -/
theorem Dt.set4 {α : Type} (d : Dt α) {w : World} {F : List Nat} {x : α} {s : d.S} {b o0 o1 o2 o3 : Nat} {u0 u1 u2 u3 : Value} (h : d.ow w F x s) (hb : b ∉ F) :
  d.ow ((((w.setCell ⟨b, o0, none⟩ u0).setCell ⟨b, o1, none⟩ u1).setCell ⟨b, o2, none⟩ u2).setCell ⟨b, o3, none⟩ u3) F x s :=
 d.ow_set (d.ow_set (d.ow_set (d.ow_set h (a := ⟨b, o0, none⟩) hb u0) (a := ⟨b, o1, none⟩) hb u1) (a := ⟨b, o2, none⟩) hb u2) (a := ⟨b, o3, none⟩) hb u3
end Go.Proofs.Ytonlnjdempbfoaa
end
section
namespace Go.Proofs.Ytonlnjdempbfoaa
open Go.RowKit
set_option maxRecDepth 100000
set_option maxHeartbeats 2000000
/-- what t waits for, in order -/
def beforeL (es : List (Nat × Nat)) (T t : Nat) : List Nat := (List.range T).filter fun s => decide ((s, t) ∈ es)
/-- what waits for t, in order -/
def behindL (es : List (Nat × Nat)) (T t : Nat) : List Nat := (List.range T).filter fun s => decide ((t, s) ∈ es)
/-- x if q is in l -/
def onceL (l : List (Nat × Nat)) (q : Nat × Nat) (x : Nat) : List Nat := if q ∈ l then [x] else []
theorem beforeL_succ (es : List (Nat × Nat)) (k t : Nat) : beforeL es (k + 1) t = beforeL es k t ++ onceL es (k, t) k := by
 unfold beforeL onceL
 rw [List.range_succ, List.filter_append]
 by_cases h : (k, t) ∈ es <;> simp [h]
theorem behindL_succ (es : List (Nat × Nat)) (k t : Nat) : behindL es (k + 1) t = behindL es k t ++ onceL es (t, k) k := by
 unfold behindL onceL
 rw [List.range_succ, List.filter_append]
 by_cases h : (t, k) ∈ es <;> simp [h]
theorem beforeL_len (es : List (Nat × Nat)) (T t : Nat) : (beforeL es T t).length ≤ T := by
 have := List.length_filter_le (fun s => decide ((s, t) ∈ es)) (List.range T)
 simpa [beforeL] using this
theorem behindL_len (es : List (Nat × Nat)) (T t : Nat) : (behindL es T t).length ≤ T := by
 have := List.length_filter_le (fun s => decide ((t, s) ∈ es)) (List.range T)
 simpa [behindL] using this
theorem onceL_len (l : List (Nat × Nat)) (q : Nat × Nat) (x : Nat) : (onceL l q x).length ≤ 1 := by
 unfold onceL
 split <;> simp
theorem onceL_yes {l l' : List (Nat × Nat)} {q : Nat × Nat} {x : Nat} (h : l' = l ++ [q]) (hq : q ∉ l) : onceL l' q x = onceL l q x ++ [x] := by
 subst h
 simp [onceL, hq]
theorem onceL_no {l l' : List (Nat × Nat)} {q e : Nat × Nat} {x : Nat} (h : l' = l ++ [e]) (hq : e ≠ q) : onceL l' q x = onceL l q x := by
 subst h
 simp [onceL, Ne.symm hq]
theorem esL_new {p : Plan} (he : edgesIn p) (hn : p.edges.Nodup) {j : Nat} (hj : j < p.edges.length) : (p.edges[j].fr.toNat, p.edges[j].to.toNat) ∉ esL (p.edges.take j) := by
 intro hm
 simp only [esL, List.mem_map] at hm
 obtain ⟨e, hel, hee⟩ := hm
 obtain ⟨i, hi, rfl⟩ := List.getElem_of_mem hel
 have hi2 : i < j := by
  rw [List.length_take] at hi
  omega
 rw [List.getElem_take] at hee
 have h1 := edgesIn_get he (k := i) (by omega)
 have h2 := edgesIn_get he hj
 simp only [Prod.mk.injEq] at hee
 have e1 : p.edges[i].fr = p.edges[j].fr := by omega
 have e2 : p.edges[i].to = p.edges[j].to := by omega
 have : p.edges[i] = p.edges[j] := by
  cases hx : p.edges[i]; cases hy : p.edges[j]
  rw [hx, hy] at e1 e2
  simp only at e1 e2
  rw [e1, e2]
 exact List.pairwise_iff_getElem.1 hn i j (by omega) hj hi2 this
theorem specBefore_any (p : Plan) (ve : Value) (t : Nat) (w : World) (hm : manyOk p = true) (he : edgesIn p) (hn : p.edges.Nodup) (h : Rd edgeE w w.heap.size ve p.edges) :
  Calls Try.prog 86 #[planV p ve, .int .i64 (t : Int)] w fun e w' => ∃ v, e = .returned v ∧ Ow natE 3 w' w.heap.size v (beforeL (esOf p) p.tasks.toNat t) ∧ Below w.heap.size w w' := by
 obtain ⟨A, c, rfl, -⟩ := id h
 obtain ⟨t1, t2⟩ := manyOk_tasks hm
 have hlen := manyOk_edges hm
 obtain ⟨T, hT⟩ := Int.eq_ofNat_of_zero_le (show 0 ≤ p.tasks by omega)
 have HT := Lib.hid hT
 have HTn := Lib.hid (show p.tasks.toNat = T by omega)
 have hT12 : T ≤ 12 := by omega
 clear hT
 obtain ⟨j0, hj0, jz0, jz1, jz2⟩ := info_parts int_info
 unfold planV
 go_enter Try.func86, Try.ntmps86
 go_wp2
 go_loopw [5, 6] (fun vl i wr => ∃ k : Nat, k ≤ T ∧ i = .int .i64 k ∧ Ow natE 3 wr (w.heap.size + 1) vl (beforeL (esOf p) k t) ∧ BoxAt w.heap.size p (.slice A p.edges.length c) wr ∧ Below w.heap.size w wr) (fun _ i _ => T - (intOf i).toNat)
 case atStart =>
  have D := BoxAt.new 35 p (.slice A p.edges.length c) w
  refine ⟨0, Nat.zero_le _, rfl, ?_, D.below ((Below.refl _ _).alloc (Nat.le_refl _) _), ?_⟩
  ·exact (Ow.empty natE 3 (planBox 35 p (.slice A p.edges.length c) w) (g := w.heap.size + 1) (by rw [planBox_size]))
  ·repeat (first | exact Below.refl _ _ | refine Below.alloc ?_ (by simp <;> omega) _)
 case round =>
  obtain ⟨k, hk, rfl, ho, D, hb⟩ := hrel
  obtain ⟨x0, x1, x2, x3, x4, xs⟩ := D.cells
  by_cases hlt : k < T
  ·have hltI : (k : Int) < p.tasks := by rw [HT.out]; omega
   obtain ⟨wo, rfl⟩ : ∃ wo : World, wo = wr := ⟨_, rfl⟩
   go_wp2
   clear x0 x1 x2 x3 x4 xs
   go_loopw [5, 7] (fun vl i wr => ∃ j : Nat, j ≤ p.edges.length ∧ i = .int .i64 j ∧ Ow natE 3 wr (w.heap.size + 1) vl (beforeL (esOf p) k t ++ onceL (esL (p.edges.take j)) (k, t) k) ∧ BoxAt w.heap.size p (.slice A p.edges.length c) wr ∧ Below w.heap.size w wr) (fun _ i _ => p.edges.length - (intOf i).toNat)
   case atStart => exact ⟨0, Nat.zero_le _, rfl, by simpa [onceL, esL] using ho, D, hb⟩
   case round =>
    clear ho D hb
    obtain ⟨j, hj, rfl, ho, D, hb⟩ := hrel
    obtain ⟨x0, x1, x2, x3, x4, xs⟩ := D.cells
    by_cases hjt : j < p.edges.length
    ·have hjI : (j : Int) < (p.edges.length : Int) := by omega
     obtain ⟨b, o, rfl, hbb, c0, c1⟩ := (h.below hb).edge hjt
     obtain ⟨f1, f2, f3, f4⟩ := edgesIn_get he hjt
     have htk := Lib.hid (show esL (p.edges.take (j + 1)) = esL (p.edges.take j) ++ [(p.edges[j].fr.toNat, p.edges[j].to.toNat)] by unfold esL; rw [take_snoc _ j hjt, List.map_append]; rfl)
     have hnew := Lib.hid (esL_new he hn hjt)
     generalize p.edges[j].fr = fx at *
     generalize p.edges[j].to = tx at *
     obtain ⟨a, rfl⟩ := Int.eq_ofNat_of_zero_le f1
     obtain ⟨d, rfl⟩ := Int.eq_ofNat_of_zero_le f3
     simp only [Int.toNat_natCast] at htk hnew
     by_cases hxy : a = k ∧ d = t
     ·obtain ⟨e1, e2⟩ := hxy
      subst e1
      subst e2
      have S := Lib.hid (onceL_yes (l := esL (p.edges.take j)) (l' := esL (p.edges.take (j + 1))) (q := (a, d)) (x := a) htk.out hnew.out)
      have Hl := Lib.hid (show (beforeL (esOf p) a d ++ onceL (esL (p.edges.take j)) (a, d) a).length ≤ 3000000 by
       have h1 := beforeL_len (esOf p) a d
       have h2 := onceL_len (esL (p.edges.take j)) (a, d) a
       rw [List.length_append]
       omega)
      have hab : ((a : Int) == (a : Int)) = true := by simp
      have hab2 : ((d : Int) == (d : Int)) = true := by simp
      have ha : Hid (∀ w : World, Below w.heap.size w (w.alloc (.cells #[.int .i64 (a : Int)] 3))) := fun w => (Below.refl _ _).alloc (Nat.le_refl _) _
      go_wp2_with (at_builtin; refine wpList_push_all _ natE (by decide) rfl (.tmp 40) (.tmp 42) rfl Try.underlying26 hj0 jz0 jz1 jz2 rfl (l := beforeL (esOf p) a d ++ onceL (esL (p.edges.take j)) (a, d) a) rfl (ho.below (ha.out wr)) rfl (Rd.one natE _ _ a rfl rfl 1 (Nat.le_refl _) (Nat.lt_succ_self _)) Hl.out (by simp) (by decide) (by simp; omega) ?_; intro v5 w5 o5 g5 _)
      have D5 := (D.below (ha.out wr)).far g5 (fun e => by have := ho.within _ e.symm; omega)
      have hb' := bnext hb (ha.out wr)
      have W5 := hb'.grown g5 hb'.size (fun g hg => by have := ho.within _ hg; omega)
      refine ⟨⟨j + 1, by omega, by go_num, ?_, D5, W5⟩, by simp [intOf]; omega⟩
      rw [S.out, ← List.append_assoc]
      exact o5
     ·have S := Lib.hid (onceL_no (l := esL (p.edges.take j)) (l' := esL (p.edges.take (j + 1))) (q := (k, t)) (e := (a, d)) (x := k) htk.out (fun e => hxy (by simp only [Prod.mk.injEq] at e; omega)))
      have hout : ∀ w', Below wr.heap.size wr w' → (∃ j_1 : Nat, j_1 ≤ p.edges.length ∧ Value.int .i64 ((j : Int) + 1) = Value.int .i64 (j_1 : Int) ∧ Ow natE 3 w' (w.heap.size + 1) u5 (beforeL (esOf p) k t ++ onceL (esL (p.edges.take j_1)) (k, t) k) ∧ BoxAt w.heap.size p (.slice (some ⟨b, o, none⟩) p.edges.length c) w' ∧ Below w.heap.size w w') := fun w' hw' => ⟨j + 1, by omega, by go_num, by rw [S.out]; exact ho.below hw', D.below hw', bnext hb hw'⟩
      have Hout := Lib.hid hout
      clear hout
      by_cases hfa : a = k
      ·have hab : ((a : Int) == ((k : Nat) : Int)) = true := by simp [hfa]
       have hdb : ((d : Int) == ((t : Nat) : Int)) = false := beq_eq_false_iff_ne.2 (by omega)
       clear hfa hxy
       go_wp2
       exact ⟨Hout.out _ (Below.refl _ _), by simp [intOf]; omega⟩
      ·have hab : ((a : Int) == ((k : Nat) : Int)) = false := beq_eq_false_iff_ne.2 (by omega)
       clear hfa hxy
       go_wp2
       exact ⟨Hout.out _ (Below.refl _ _), by simp [intOf]; omega⟩
    ·have hjI : ¬ (j : Int) < (p.edges.length : Int) := by omega
     have hj' : j = p.edges.length := by omega
     subst hj'
     rw [List.take_length] at ho
     have S := Lib.hid (beforeL_succ (esOf p) k t)
     go_wp2
     exact ⟨⟨k + 1, by omega, by go_num, by rw [S.out]; exact ho, D, hb⟩, by simp [intOf]; omega⟩
  ·have hltI : ¬ (k : Int) < p.tasks := by rw [HT.out]; omega
   have hk' : k = T := by omega
   subst hk'
   go_wp2
   go_ret
   refine ⟨_, rfl, ?_, hb⟩
   rw [HTn.out]
   exact ho.more (by omega)
theorem specBehind_any (p : Plan) (ve : Value) (t : Nat) (w : World) (hm : manyOk p = true) (he : edgesIn p) (hn : p.edges.Nodup) (h : Rd edgeE w w.heap.size ve p.edges) :
  Calls Try.prog 92 #[planV p ve, .int .i64 (t : Int)] w fun e w' => ∃ v, e = .returned v ∧ Ow natE 3 w' w.heap.size v (behindL (esOf p) p.tasks.toNat t) ∧ Below w.heap.size w w' := by
 obtain ⟨A, c, rfl, -⟩ := id h
 obtain ⟨t1, t2⟩ := manyOk_tasks hm
 have hlen := manyOk_edges hm
 obtain ⟨T, hT⟩ := Int.eq_ofNat_of_zero_le (show 0 ≤ p.tasks by omega)
 have HT := Lib.hid hT
 have HTn := Lib.hid (show p.tasks.toNat = T by omega)
 have hT12 : T ≤ 12 := by omega
 clear hT
 obtain ⟨j0, hj0, jz0, jz1, jz2⟩ := info_parts int_info
 unfold planV
 go_enter Try.func92, Try.ntmps92
 go_wp2
 go_loopw [5, 6] (fun vl i wr => ∃ k : Nat, k ≤ T ∧ i = .int .i64 k ∧ Ow natE 3 wr (w.heap.size + 1) vl (behindL (esOf p) k t) ∧ BoxAt w.heap.size p (.slice A p.edges.length c) wr ∧ Below w.heap.size w wr) (fun _ i _ => T - (intOf i).toNat)
 case atStart =>
  have D := BoxAt.new 35 p (.slice A p.edges.length c) w
  refine ⟨0, Nat.zero_le _, rfl, ?_, D.below ((Below.refl _ _).alloc (Nat.le_refl _) _), ?_⟩
  ·exact (Ow.empty natE 3 (planBox 35 p (.slice A p.edges.length c) w) (g := w.heap.size + 1) (by rw [planBox_size]))
  ·repeat (first | exact Below.refl _ _ | refine Below.alloc ?_ (by simp <;> omega) _)
 case round =>
  obtain ⟨k, hk, rfl, ho, D, hb⟩ := hrel
  obtain ⟨x0, x1, x2, x3, x4, xs⟩ := D.cells
  by_cases hlt : k < T
  ·have hltI : (k : Int) < p.tasks := by rw [HT.out]; omega
   obtain ⟨wo, rfl⟩ : ∃ wo : World, wo = wr := ⟨_, rfl⟩
   go_wp2
   clear x0 x1 x2 x3 x4 xs
   go_loopw [5, 7] (fun vl i wr => ∃ j : Nat, j ≤ p.edges.length ∧ i = .int .i64 j ∧ Ow natE 3 wr (w.heap.size + 1) vl (behindL (esOf p) k t ++ onceL (esL (p.edges.take j)) (t, k) k) ∧ BoxAt w.heap.size p (.slice A p.edges.length c) wr ∧ Below w.heap.size w wr) (fun _ i _ => p.edges.length - (intOf i).toNat)
   case atStart => exact ⟨0, Nat.zero_le _, rfl, by simpa [onceL, esL] using ho, D, hb⟩
   case round =>
    clear ho D hb
    obtain ⟨j, hj, rfl, ho, D, hb⟩ := hrel
    obtain ⟨x0, x1, x2, x3, x4, xs⟩ := D.cells
    by_cases hjt : j < p.edges.length
    ·have hjI : (j : Int) < (p.edges.length : Int) := by omega
     obtain ⟨b, o, rfl, hbb, c0, c1⟩ := (h.below hb).edge hjt
     obtain ⟨f1, f2, f3, f4⟩ := edgesIn_get he hjt
     have htk := Lib.hid (show esL (p.edges.take (j + 1)) = esL (p.edges.take j) ++ [(p.edges[j].fr.toNat, p.edges[j].to.toNat)] by unfold esL; rw [take_snoc _ j hjt, List.map_append]; rfl)
     have hnew := Lib.hid (esL_new he hn hjt)
     generalize p.edges[j].fr = fx at *
     generalize p.edges[j].to = tx at *
     obtain ⟨a, rfl⟩ := Int.eq_ofNat_of_zero_le f1
     obtain ⟨d, rfl⟩ := Int.eq_ofNat_of_zero_le f3
     simp only [Int.toNat_natCast] at htk hnew
     by_cases hxy : d = k ∧ a = t
     ·obtain ⟨e1, e2⟩ := hxy
      subst e1
      subst e2
      have S := Lib.hid (onceL_yes (l := esL (p.edges.take j)) (l' := esL (p.edges.take (j + 1))) (q := (a, d)) (x := d) htk.out hnew.out)
      have Hl := Lib.hid (show (behindL (esOf p) d a ++ onceL (esL (p.edges.take j)) (a, d) d).length ≤ 3000000 by
       have h1 := behindL_len (esOf p) d a
       have h2 := onceL_len (esL (p.edges.take j)) (a, d) d
       rw [List.length_append]
       omega)
      have hab : ((d : Int) == (d : Int)) = true := by simp
      have hab2 : ((a : Int) == (a : Int)) = true := by simp
      have ha : Hid (∀ w : World, Below w.heap.size w (w.alloc (.cells #[.int .i64 (d : Int)] 3))) := fun w => (Below.refl _ _).alloc (Nat.le_refl _) _
      go_wp2_with (at_builtin; refine wpList_push_all _ natE (by decide) rfl (.tmp 40) (.tmp 42) rfl Try.underlying26 hj0 jz0 jz1 jz2 rfl (l := behindL (esOf p) d a ++ onceL (esL (p.edges.take j)) (a, d) d) rfl (ho.below (ha.out wr)) rfl (Rd.one natE _ _ d rfl rfl 1 (Nat.le_refl _) (Nat.lt_succ_self _)) Hl.out (by simp) (by decide) (by simp; omega) ?_; intro v5 w5 o5 g5 _)
      have D5 := (D.below (ha.out wr)).far g5 (fun e => by have := ho.within _ e.symm; omega)
      have hb' := bnext hb (ha.out wr)
      have W5 := hb'.grown g5 hb'.size (fun g hg => by have := ho.within _ hg; omega)
      refine ⟨⟨j + 1, by omega, by go_num, ?_, D5, W5⟩, by simp [intOf]; omega⟩
      rw [S.out, ← List.append_assoc]
      exact o5
     ·have S := Lib.hid (onceL_no (l := esL (p.edges.take j)) (l' := esL (p.edges.take (j + 1))) (q := (t, k)) (e := (a, d)) (x := k) htk.out (fun e => hxy (by simp only [Prod.mk.injEq] at e; omega)))
      have hout : ∀ w', Below wr.heap.size wr w' → (∃ j_1 : Nat, j_1 ≤ p.edges.length ∧ Value.int .i64 ((j : Int) + 1) = Value.int .i64 (j_1 : Int) ∧ Ow natE 3 w' (w.heap.size + 1) u5 (behindL (esOf p) k t ++ onceL (esL (p.edges.take j_1)) (t, k) k) ∧ BoxAt w.heap.size p (.slice (some ⟨b, o, none⟩) p.edges.length c) w' ∧ Below w.heap.size w w') := fun w' hw' => ⟨j + 1, by omega, by go_num, by rw [S.out]; exact ho.below hw', D.below hw', bnext hb hw'⟩
      have Hout := Lib.hid hout
      clear hout
      by_cases hfa : a = t
      ·have hab : ((a : Int) == ((t : Nat) : Int)) = true := by simp [hfa]
       have hdb : ((d : Int) == ((k : Nat) : Int)) = false := beq_eq_false_iff_ne.2 (by omega)
       clear hfa hxy
       go_wp2
       exact ⟨Hout.out _ (Below.refl _ _), by simp [intOf]; omega⟩
      ·have hab : ((a : Int) == ((t : Nat) : Int)) = false := beq_eq_false_iff_ne.2 (by omega)
       clear hfa hxy
       go_wp2
       exact ⟨Hout.out _ (Below.refl _ _), by simp [intOf]; omega⟩
    ·have hjI : ¬ (j : Int) < (p.edges.length : Int) := by omega
     have hj' : j = p.edges.length := by omega
     subst hj'
     rw [List.take_length] at ho
     have S := Lib.hid (behindL_succ (esOf p) k t)
     go_wp2
     exact ⟨⟨k + 1, by omega, by go_num, by rw [S.out]; exact ho, D, hb⟩, by simp [intOf]; omega⟩
  ·have hltI : ¬ (k : Int) < p.tasks := by rw [HT.out]; omega
   have hk' : k = T := by omega
   subst hk'
   go_wp2
   go_ret
   refine ⟨_, rfl, ?_, hb⟩
   rw [HTn.out]
   exact ho.more (by omega)
end Go.Proofs.Ytonlnjdempbfoaa
end
section
namespace Go.Proofs.Ytonlnjdempbfoaa
open Go.RowKit
theorem RdL.at1 {α : Type} {d : Dt α} {w : World} {B : Nat} {s : Sl} {l : List α} (h : RdL d w B s.v l) : s.n = l.length := by
 obtain ⟨A, c, hv, -⟩ := h.form
 simp only [Sl.v, Value.slice.injEq] at hv
 exact hv.2.1
end Go.Proofs.Ytonlnjdempbfoaa
end
section
namespace Go.Proofs.Ytonlnjdempbfoaa
open Go.RowKit
set_option maxRecDepth 100000
set_option maxHeartbeats 1000000
set_option linter.unusedVariables false
set_option linter.unusedSimpArgs false
structure Reply where
 code : Int
 run : Int
 task : Int
 try_ : Int
deriving DecidableEq, Inhabited
@[go_sem] abbrev replyW (x : Reply) (_s : Unit) : Value := .agg #[.int .i64 x.code, .int .i64 x.run, .int .i64 x.task, .int .i64 x.try_]
end Go.Proofs.Ytonlnjdempbfoaa
end
section
namespace Go.Proofs.Ytonlnjdempbfoaa
open Go.RowKit
set_option maxRecDepth 100000
set_option maxHeartbeats 1000000
set_option linter.unusedVariables false
set_option linter.unusedSimpArgs false
@[go_sem] abbrev planW (x : Plan) (s : Sl) : Value := .agg #[.int .i64 x.prio, .int .i64 x.most, .int .i64 x.wait, .int .i64 x.tasks, .slice s.a s.n s.c]
abbrev planD : Dt Plan := Dt.via (Dt.list edgeD) (·.edges) (fun q => [.int .i64 q.1.prio, .int .i64 q.1.most, .int .i64 q.1.wait, .int .i64 q.1.tasks, .slice q.2.a q.2.n q.2.c]) 5 (fun _ => rfl) (fun q u hu => by simp at hu; rcases hu with rfl | rfl | rfl | rfl | rfl <;> rfl)
/-- all lengths in it together -/
def cntPlan (x : Plan) : Nat := cntL cntEdge x.edges
end Go.Proofs.Ytonlnjdempbfoaa
end
section
namespace Go.Proofs.Ytonlnjdempbfoaa
open Go.RowKit
/-- t may come next behind those of out -/
def mayCome (es : List (Nat × Nat)) (out : List Nat) (t : Nat) : Bool := !decide (t ∈ out) && es.all fun e => !decide (e.2 = t) || decide (e.1 ∈ out)
def pickT (es : List (Nat × Nat)) (T : Nat) (out : List Nat) : Option Nat := (List.range T).find? (mayCome es out)
theorem mayCome_iff {es : List (Nat × Nat)} {out : List Nat} {t : Nat} : mayCome es out t = true ↔ t ∉ out ∧ ∀ s, (s, t) ∈ es → s ∈ out := by
 unfold mayCome
 simp only [Bool.and_eq_true, Bool.not_eq_true', decide_eq_false_iff_not, List.all_eq_true, Bool.or_eq_true, decide_eq_true_eq, Prod.forall]
 constructor
 ·rintro ⟨h1, h2⟩
  refine ⟨h1, fun s hs => ?_⟩
  rcases h2 s t hs with h | h
  ·exact absurd rfl h
  ·exact h
 ·rintro ⟨h1, h2⟩
  refine ⟨h1, fun a b hab => ?_⟩
  by_cases hb : b = t
  ·subst hb; exact .inr (h2 a hab)
  ·exact .inl hb
theorem Way.lower {es : List (Nat × Nat)} {b : Nat} {U : Nat → Prop} (hU : ∀ u, U u → ∃ v, U v ∧ (v, u) ∈ es) (hb : U b) : ∀ n, ∃ a l, U a ∧ l.length = n ∧ Pg.Way es a l b ∧ ∀ x ∈ a :: l, U x
 | 0 => ⟨b, [], hb, rfl, .nil b, by simpa using hb⟩
 | n + 1 => by
  obtain ⟨a, l, ha, hl, hw, hx⟩ := Way.lower hU hb n
  obtain ⟨v, hv, he⟩ := hU a ha
  refine ⟨v, a :: l, hv, by simp [hl], .cons he hw, ?_⟩
  intro x hx'
  rcases List.mem_cons.1 hx' with rfl | h
  ·exact hv
  ·exact hx x h
theorem Way.head {es : List (Nat × Nat)} : ∀ {a x b : Nat} (l1 : List Nat) {l2 : List Nat}, Pg.Way es a (l1 ++ x :: l2) b → Pg.Way es a (l1 ++ [x]) x
 | _, _, _, [], _, h => by cases h with | cons h1 _ => exact .cons h1 (.nil _)
 | _, _, _, _ :: l1, _, h => by cases h with | cons h1 h2 => exact .cons h1 (Way.head l1 h2)
theorem Way.turn {es : List (Nat × Nat)} {b : Nat} : ∀ (l : List Nat) {a : Nat}, Pg.Way es a l b → ¬ (a :: l).Nodup → ∃ x ∈ a :: l, Pg.Reach es x x
 | [], a, _, h => absurd (by simp) h
 | c :: l, a, hw, hn => by
  by_cases ha : a ∈ c :: l
  ·obtain ⟨l1, l2, he⟩ := List.append_of_mem ha
   rw [he] at hw
   exact ⟨a, by simp, l1 ++ [a], by simp, Way.head l1 hw⟩
  ·have hn2 : ¬ (c :: l).Nodup := fun h => hn (List.nodup_cons.2 ⟨ha, h⟩)
   cases hw with
   | cons h1 h2 =>
    obtain ⟨x, hx, hr⟩ := Way.turn l h2 hn2
    exact ⟨x, List.mem_cons_of_mem _ hx, hr⟩
theorem pick_some {es : List (Nat × Nat)} {T : Nat} {out : List Nat} (h1 : ∀ e ∈ es, e.1 < T) (hac : ∀ t, t < T → ¬ Pg.Reach es t t) (hlt : ∃ t, t < T ∧ t ∉ out) : ∃ t, pickT es T out = some t ∧ t < T ∧ mayCome es out t = true := by
 cases hp : pickT es T out with
 | some t =>
  have hm := List.find?_some hp
  have hr := List.mem_of_find?_eq_some hp
  exact ⟨t, rfl, by simpa using hr, hm⟩
 | none =>
  exfalso
  unfold pickT at hp
  rw [List.find?_eq_none] at hp
  obtain ⟨t, htT, hto⟩ := hlt
  have hU : ∀ u, (u < T ∧ u ∉ out) → ∃ v, (v < T ∧ v ∉ out) ∧ (v, u) ∈ es := by
   rintro u ⟨hu, huo⟩
   have hno := hp u (by simpa using hu)
   rw [mayCome_iff] at hno
   have : ¬ ∀ s, (s, u) ∈ es → s ∈ out := fun h => hno ⟨huo, h⟩
   obtain ⟨s, hs'⟩ := Classical.not_forall.1 this
   obtain ⟨hs, hso⟩ := Classical.not_imp.1 hs'
   exact ⟨s, ⟨h1 _ hs, hso⟩, hs⟩
  obtain ⟨a, l, _, hl, hw, hx⟩ := Way.lower (U := fun u => u < T ∧ u ∉ out) hU ⟨htT, hto⟩ T
  have hnn : ¬ (a :: l).Nodup := fun hn => by
   have := Pg.nodup_le T (a :: l) hn (fun x hx' => (hx x hx').1)
   simp only [List.length_cons] at this
   omega
  obtain ⟨x, hx', hr⟩ := Way.turn l hw hnn
  exact hac x (hx x hx').1 hr
theorem all_le : ∀ (T : Nat) (o : List Nat), (∀ t, t < T → t ∈ o) → T ≤ o.length
 | 0, _, _ => Nat.zero_le _
 | T + 1, o, h => by
  have h1 := all_le T (o.erase T) (fun t ht => (List.mem_erase_of_ne (by omega)).2 (h t (by omega)))
  have h2 := h T (by omega)
  have h3 := List.length_pos_of_mem h2
  rw [List.length_erase_of_mem h2] at h1
  omega
theorem exists_out {T : Nat} {o : List Nat} (hl : o.length < T) : ∃ t, t < T ∧ t ∉ o := by
 refine Classical.byContradiction fun h => ?_
 have := all_le T o (fun t ht => Classical.byContradiction fun hn => h ⟨t, ht, hn⟩)
 omega
end Go.Proofs.Ytonlnjdempbfoaa
end
section
namespace Go.Proofs.Ytonlnjdempbfoaa
open Go.RowKit
set_option maxRecDepth 100000
theorem DBox.put {b : Nat} {cs : List Value} {w : World} (h : DBox b cs w) (j : Nat) (hj : j < cs.length) (u : Value) : DBox b (cs.set j u) (w.setCell ⟨b, j, none⟩ u) := by
 refine ⟨fun i x hx => ?_, fun i => by rw [setCell_frozen]; exact h.free i, by simpa [World.setCell] using h.lt⟩
 have hi : i < cs.length := by
  have := (List.getElem?_eq_some_iff.1 hx).1
  simpa using this
 rw [setCell_cell w b i j u cs[i] (h.cell i _ (List.getElem?_eq_getElem hi)) ⟨_, h.cell j _ (List.getElem?_eq_getElem hj)⟩]
 by_cases e : i = j
 ·subst e
  rw [List.getElem?_set_self hi] at hx
  rw [if_pos rfl]
  exact hx
 ·rw [List.getElem?_set_ne (Ne.symm e), List.getElem?_eq_getElem hi] at hx
  rw [if_neg e]
  exact hx
end Go.Proofs.Ytonlnjdempbfoaa
end
section
namespace Go.Proofs.Ytonlnjdempbfoaa
open Go.RowKit
set_option maxRecDepth 100000
set_option maxHeartbeats 1000000
set_option linter.unusedVariables false
set_option linter.unusedSimpArgs false
structure Run where
 id : Int
 plan : Plan
 state : Int
 tasks : List Task
deriving DecidableEq, Inhabited
@[go_sem] abbrev runW (x : Run) (s : Sl × Sl) : Value := .agg #[.int .i64 x.id, .int .i64 x.plan.prio, .int .i64 x.plan.most, .int .i64 x.plan.wait, .int .i64 x.plan.tasks, .slice s.1.a s.1.n s.1.c, .int .i64 x.state, .slice s.2.a s.2.n s.2.c]
abbrev runD : Dt Run := Dt.two planD (Dt.list taskD) (·.plan) (·.tasks) (fun q => [.int .i64 q.1.id, .int .i64 q.1.plan.prio, .int .i64 q.1.plan.most, .int .i64 q.1.plan.wait, .int .i64 q.1.plan.tasks, .slice q.2.1.a q.2.1.n q.2.1.c, .int .i64 q.1.state, .slice q.2.2.a q.2.2.n q.2.2.c]) 8 (fun _ => rfl) (fun q u hu => by simp at hu; rcases hu with rfl | rfl | rfl | rfl | rfl | rfl | rfl | rfl <;> rfl)
/-- all lengths in it together -/
def cntRun (x : Run) : Nat := cntPlan x.plan + cntL cntTask x.tasks
theorem RdL.run {w : World} {B : Nat} {A : Option Addr} {n c : Nat} {l : List (Run)} (h : RdL runD w B (.slice A n c) l) {k : Nat} (hk : k < l.length) :
  ∃ b o, ∃ s : Sl × Sl, A = some ⟨b, o, none⟩ ∧ b < B ∧ runD.rd w B l[k] s ∧ w.cell? ⟨b, o + k * 8, none⟩ = some (.int .i64 l[k].id) ∧ w.cell? ⟨b, o + k * 8 + 1, none⟩ = some (.int .i64 l[k].plan.prio) ∧ w.cell? ⟨b, o + k * 8 + 2, none⟩ = some (.int .i64 l[k].plan.most) ∧ w.cell? ⟨b, o + k * 8 + 3, none⟩ = some (.int .i64 l[k].plan.wait) ∧ w.cell? ⟨b, o + k * 8 + 4, none⟩ = some (.int .i64 l[k].plan.tasks) ∧ w.cell? ⟨b, o + k * 8 + 5, none⟩ = some (.slice s.1.a s.1.n s.1.c) ∧ w.cell? ⟨b, o + k * 8 + 6, none⟩ = some (.int .i64 l[k].state) ∧ w.cell? ⟨b, o + k * 8 + 7, none⟩ = some (.slice s.2.a s.2.n s.2.c) := by
 obtain ⟨b, o, s, rfl, hb, hc, hr⟩ := h.at_ k hk
 exact ⟨b, o, s, rfl, hb, hr, hc 0 _ rfl, hc 1 _ rfl, hc 2 _ rfl, hc 3 _ rfl, hc 4 _ rfl, hc 5 _ rfl, hc 6 _ rfl, hc 7 _ rfl⟩
theorem Foc.run {w : World} {b o n c j : Nat} {rs : List ((Run) × Sl × Sl)} {G1 Fx G2 : List Nat} {x : Run} {s : Sl × Sl} (h : Foc runD w b o n c rs j G1 Fx G2 x s) :
  w.cell? ⟨b, o + j * 8, none⟩ = some (.int .i64 x.id) ∧ w.cell? ⟨b, o + j * 8 + 1, none⟩ = some (.int .i64 x.plan.prio) ∧ w.cell? ⟨b, o + j * 8 + 2, none⟩ = some (.int .i64 x.plan.most) ∧ w.cell? ⟨b, o + j * 8 + 3, none⟩ = some (.int .i64 x.plan.wait) ∧ w.cell? ⟨b, o + j * 8 + 4, none⟩ = some (.int .i64 x.plan.tasks) ∧ w.cell? ⟨b, o + j * 8 + 5, none⟩ = some (.slice s.1.a s.1.n s.1.c) ∧ w.cell? ⟨b, o + j * 8 + 6, none⟩ = some (.int .i64 x.state) ∧ w.cell? ⟨b, o + j * 8 + 7, none⟩ = some (.slice s.2.a s.2.n s.2.c) := ⟨h.cells 0 _ rfl, h.cells 1 _ rfl, h.cells 2 _ rfl, h.cells 3 _ rfl, h.cells 4 _ rfl, h.cells 5 _ rfl, h.cells 6 _ rfl, h.cells 7 _ rfl⟩
theorem run_infoD : (Try.prog.info? 98).map (fun i => (i.zero, i.size, i.bytes)) = some (some (.agg #[.int .i64 0, .int .i64 0, .int .i64 0, .int .i64 0, .int .i64 0, .slice none 0 0, .int .i64 0, .slice none 0 0]), 8, 96) := by kernel_rfl
end Go.Proofs.Ytonlnjdempbfoaa
end
section
namespace Go.Proofs.Ytonlnjdempbfoaa
open Go.RowKit
set_option maxRecDepth 100000
set_option maxHeartbeats 1000000
set_option linter.unusedVariables false
set_option linter.unusedSimpArgs false
structure Deed where
 kind : Int
 run : Int
 plan : Plan
 task : Int
 try_ : Int
 worker : Int
 draw : Int
deriving DecidableEq, Inhabited
@[go_sem] abbrev deedW (x : Deed) (s : Sl) : Value := .agg #[.int .i64 x.kind, .int .i64 x.run, .int .i64 x.plan.prio, .int .i64 x.plan.most, .int .i64 x.plan.wait, .int .i64 x.plan.tasks, .slice s.a s.n s.c, .int .i64 x.task, .int .i64 x.try_, .int .i64 x.worker, .int .i64 x.draw]
abbrev deedD : Dt Deed := Dt.via planD (·.plan) (fun q => [.int .i64 q.1.kind, .int .i64 q.1.run, .int .i64 q.1.plan.prio, .int .i64 q.1.plan.most, .int .i64 q.1.plan.wait, .int .i64 q.1.plan.tasks, .slice q.2.a q.2.n q.2.c, .int .i64 q.1.task, .int .i64 q.1.try_, .int .i64 q.1.worker, .int .i64 q.1.draw]) 11 (fun _ => rfl) (fun q u hu => by simp at hu; rcases hu with rfl | rfl | rfl | rfl | rfl | rfl | rfl | rfl | rfl | rfl | rfl <;> rfl)
/-- all lengths in it together -/
def cntDeed (x : Deed) : Nat := cntPlan x.plan
theorem RdL.deed {w : World} {B : Nat} {A : Option Addr} {n c : Nat} {l : List (Deed)} (h : RdL deedD w B (.slice A n c) l) {k : Nat} (hk : k < l.length) :
  ∃ b o, ∃ s : Sl, A = some ⟨b, o, none⟩ ∧ b < B ∧ deedD.rd w B l[k] s ∧ w.cell? ⟨b, o + k * 11, none⟩ = some (.int .i64 l[k].kind) ∧ w.cell? ⟨b, o + k * 11 + 1, none⟩ = some (.int .i64 l[k].run) ∧ w.cell? ⟨b, o + k * 11 + 2, none⟩ = some (.int .i64 l[k].plan.prio) ∧ w.cell? ⟨b, o + k * 11 + 3, none⟩ = some (.int .i64 l[k].plan.most) ∧ w.cell? ⟨b, o + k * 11 + 4, none⟩ = some (.int .i64 l[k].plan.wait) ∧ w.cell? ⟨b, o + k * 11 + 5, none⟩ = some (.int .i64 l[k].plan.tasks) ∧ w.cell? ⟨b, o + k * 11 + 6, none⟩ = some (.slice s.a s.n s.c) ∧ w.cell? ⟨b, o + k * 11 + 7, none⟩ = some (.int .i64 l[k].task) ∧ w.cell? ⟨b, o + k * 11 + 8, none⟩ = some (.int .i64 l[k].try_) ∧ w.cell? ⟨b, o + k * 11 + 9, none⟩ = some (.int .i64 l[k].worker) ∧ w.cell? ⟨b, o + k * 11 + 10, none⟩ = some (.int .i64 l[k].draw) := by
 obtain ⟨b, o, s, rfl, hb, hc, hr⟩ := h.at_ k hk
 exact ⟨b, o, s, rfl, hb, hr, hc 0 _ rfl, hc 1 _ rfl, hc 2 _ rfl, hc 3 _ rfl, hc 4 _ rfl, hc 5 _ rfl, hc 6 _ rfl, hc 7 _ rfl, hc 8 _ rfl, hc 9 _ rfl, hc 10 _ rfl⟩
theorem Foc.deed {w : World} {b o n c j : Nat} {rs : List ((Deed) × Sl)} {G1 Fx G2 : List Nat} {x : Deed} {s : Sl} (h : Foc deedD w b o n c rs j G1 Fx G2 x s) :
  w.cell? ⟨b, o + j * 11, none⟩ = some (.int .i64 x.kind) ∧ w.cell? ⟨b, o + j * 11 + 1, none⟩ = some (.int .i64 x.run) ∧ w.cell? ⟨b, o + j * 11 + 2, none⟩ = some (.int .i64 x.plan.prio) ∧ w.cell? ⟨b, o + j * 11 + 3, none⟩ = some (.int .i64 x.plan.most) ∧ w.cell? ⟨b, o + j * 11 + 4, none⟩ = some (.int .i64 x.plan.wait) ∧ w.cell? ⟨b, o + j * 11 + 5, none⟩ = some (.int .i64 x.plan.tasks) ∧ w.cell? ⟨b, o + j * 11 + 6, none⟩ = some (.slice s.a s.n s.c) ∧ w.cell? ⟨b, o + j * 11 + 7, none⟩ = some (.int .i64 x.task) ∧ w.cell? ⟨b, o + j * 11 + 8, none⟩ = some (.int .i64 x.try_) ∧ w.cell? ⟨b, o + j * 11 + 9, none⟩ = some (.int .i64 x.worker) ∧ w.cell? ⟨b, o + j * 11 + 10, none⟩ = some (.int .i64 x.draw) := ⟨h.cells 0 _ rfl, h.cells 1 _ rfl, h.cells 2 _ rfl, h.cells 3 _ rfl, h.cells 4 _ rfl, h.cells 5 _ rfl, h.cells 6 _ rfl, h.cells 7 _ rfl, h.cells 8 _ rfl, h.cells 9 _ rfl, h.cells 10 _ rfl⟩
theorem deed_infoD : (Try.prog.info? 37).map (fun i => (i.zero, i.size, i.bytes)) = some (some (.agg #[.int .i64 0, .int .i64 0, .int .i64 0, .int .i64 0, .int .i64 0, .int .i64 0, .slice none 0 0, .int .i64 0, .int .i64 0, .int .i64 0, .int .i64 0]), 11, 104) := by kernel_rfl
end Go.Proofs.Ytonlnjdempbfoaa
end
section
namespace Go.Proofs.Ytonlnjdempbfoaa
open Go.RowKit
set_option maxRecDepth 100000
set_option maxHeartbeats 1000000
theorem idxOf_any {α : Type} {p : α → Bool} {l : List α} : (0 ≤ idxOf p l) ↔ ∃ x ∈ l, p x = true := by
 unfold idxOf
 cases h : l.findIdx? p with
 | none =>
  rw [List.findIdx?_eq_none_iff] at h
  simp only
  refine ⟨fun h => absurd h (by omega), ?_⟩
  rintro ⟨x, hx, hp⟩
  have := h x hx
  rw [hp] at this
  cases this
 | some i =>
  rw [List.findIdx?_eq_some_iff_getElem] at h
  obtain ⟨hi, hp, _⟩ := h
  simp only
  exact ⟨fun _ => ⟨_, List.getElem_mem hi, hp⟩, fun _ => by omega⟩
end Go.Proofs.Ytonlnjdempbfoaa
end
section
namespace Go.Proofs.Ytonlnjdempbfoaa
open Go.RowKit
set_option maxRecDepth 100000
set_option maxHeartbeats 1000000
set_option linter.unusedVariables false
/-- a byte in a cell -/
def byteE : Enc UInt8 := { cells := fun x => [.int .u8 (x.toNat : Int)], sz := 1, len := fun _ => rfl, one := fun _ u hu => by simp at hu; subst hu; rfl }
/-- the cursor of a draw -/
structure Cur where
 i : Nat
 h : Int
abbrev curCells (v : Value) (c : Cur) : List Value := [v, .int .i64 (c.i : Int), .int .i64 c.h]
/-- block b is the cursor c over the bytes code -/
structure Drw (b : Nat) (v : Value) (code : List UInt8) (c : Cur) (w : World) : Prop where
 box : DBox b (curCells v c) w
 rd : Rd byteE w b v code
 small : code.length ≤ 1048576
 le : c.i ≤ code.length
/-- what a draw leaves -/
def DrP (b : Nat) (v : Value) (code : List UInt8) (r : Value) (c' : Cur) (w : World) (e : Ending) (w' : World) : Prop := e = .returned r ∧ Drw b v code c' w' ∧ Chg [b] w w'
theorem Rd.byte {w : World} {B : Nat} {A : Option Addr} {n c : Nat} {l : List UInt8} (h : Rd byteE w B (.slice A n c) l) {k : Nat} (hk : k < l.length) :
  ∃ b o, A = some ⟨b, o, none⟩ ∧ b < B ∧ w.cell? ⟨b, o + k, none⟩ = some (.int .u8 (l[k].toNat : Int)) := by
 obtain ⟨A', c', hv, _, hA⟩ := h
 obtain ⟨b, o, hA', hb, hc⟩ := hA (by omega)
 simp only [Value.slice.injEq] at hv
 obtain ⟨rfl, _, _⟩ := hv
 exact ⟨b, o, hA', hb, by simpa [byteE] using hc k hk 0 _ rfl⟩
theorem and_255 (a : Int) : 0 ≤ bits .and .i64 a 255 ∧ bits .and .i64 a 255 ≤ 255 := by
 show 0 ≤ IntKind.i64.wrap ((BitVec.ofInt 64 a &&& BitVec.ofInt 64 255).toNat : Int) ∧ IntKind.i64.wrap ((BitVec.ofInt 64 a &&& BitVec.ofInt 64 255).toNat : Int) ≤ 255
 have h : (BitVec.ofInt 64 a &&& BitVec.ofInt 64 255).toNat ≤ 255 := by
  rw [BitVec.toNat_and]
  exact Nat.and_le_right
 rw [IntKind.wrap_i64]
 omega
def mixH (h : Int) : Int := wrap64 (wrap64 (h * 6364136223846793005) + 1442695040888963407)
def xorH (h : Int) : Int := bits .and .i64 (bits .xor .i64 (h / 8589934592) (h / 35184372088832)) 255
def curByte (code : List UInt8) (c : Cur) : Int × Cur :=
 if h : c.i < code.length then (bits .and .i64 (xorH (mixH c.h) + (code[c.i].toNat : Int)) 255, ⟨c.i + 1, mixH c.h⟩) else (xorH (mixH c.h), ⟨c.i, mixH c.h⟩)
theorem curByte_bd (code : List UInt8) (c : Cur) : 0 ≤ (curByte code c).1 ∧ (curByte code c).1 ≤ 255 := by
 unfold curByte
 split
 ·exact and_255 _
 ·exact and_255 _
theorem Drw.chg {b : Nat} {v : Value} {code : List UInt8} {c : Cur} {w w' : World} {F : List Nat} (h : Drw b v code c w) (hc : Chg F w w') (hF : ∀ x ∈ F, b < x) : Drw b v code c w' :=
 ⟨h.box.chg hc (fun hm => by have := hF _ hm; omega), h.rd.keep (fun p hp => hc.cell (Nat.lt_trans hp h.box.lt) (fun hm => by have := hF _ hm; omega)), h.small, h.le⟩
theorem Drw.below {b : Nat} {v : Value} {code : List UInt8} {c : Cur} {w w' : World} (h : Drw b v code c w) (hb : Below w.heap.size w w') : Drw b v code c w' :=
 h.chg (Chg.of_below [] hb) (fun x hx => by cases hx)
theorem Drw.step {b : Nat} {v : Value} {code : List UInt8} {c c' : Cur} {w w' : World} (h : Drw b v code c w) (hb : DBox b (curCells v c') w') (hc : Chg [b] w w') (hl : c'.i ≤ code.length) : Drw b v code c' w' :=
 ⟨hb, h.rd.keep (fun p hp => hc.cell (Nat.lt_trans hp h.box.lt) (fun hm => by (have : p.block = b := by simpa using hm); omega)), h.small, hl⟩
theorem DBox.drewN {b : Nat} {cs : List Value} {w : World} (h : DBox b cs w) (n : Nat) : DBox b cs (w.drewN n) := ⟨h.cell, h.free, h.lt⟩
theorem Chg.drewN {F : List Nat} {a w : World} (h : Chg F a w) (n : Nat) : Chg F a (w.drewN n) := ⟨h.os, h.tape, h.output, h.size, h.block⟩
theorem DBox.put1 {b : Nat} {x i y u : Value} {w : World} (h : DBox b [x, i, y] w) : DBox b [x, u, y] (w.setCell ⟨b, 1, none⟩ u) := h.put 1 (by simp) u
theorem DBox.put2 {b : Nat} {x i y u : Value} {w : World} (h : DBox b [x, i, y] w) : DBox b [x, i, u] (w.setCell ⟨b, 2, none⟩ u) := h.put 2 (by simp) u
theorem Chg.setOwn {b o : Nat} {a w : World} {u : Value} (h : Chg [b] a w) : Chg [b] a (w.setCell ⟨b, o, none⟩ u) := h.trans (Chg.setCell w b o u)
theorem byte_any (b : Nat) (v : Value) (code : List UInt8) (c : Cur) (w : World) (h : Drw b v code c w) :
  Calls Try.prog 19 #[.pointer (some ⟨b, 0, none⟩)] w (DrP b v code (.int .i64 (curByte code c).1) (curByte code c).2 w) := by
 obtain ⟨A, cap, rfl, -⟩ := id h.rd
 have c0 := h.box.cell 0 _ rfl
 have c1 := h.box.cell 1 _ rfl
 have c2 := h.box.cell 2 _ rfl
 have cf := h.box.free
 have cl := h.box.lt
 have hs := h.small
 by_cases hlt : c.i < code.length
 ·obtain ⟨g, o, rfl, hg, d0⟩ := h.rd.byte hlt
  have i1 : (c.i : Int) < (code.length : Int) := by omega
  have i0 : (0 : Int) ≤ (c.i : Int) := by omega
  have hne : ¬ g = b := by omega
  have hx := and_255 (bits .xor .i64 (wrap64 (wrap64 (c.h * 6364136223846793005) + 1442695040888963407) / 8589934592) (wrap64 (wrap64 (c.h * 6364136223846793005) + 1442695040888963407) / 35184372088832))
  have hy : (code[c.i].toNat : Int) ≤ 255 := by have := code[c.i].toNat_lt; omega
  go_enter Try.func19, Try.ntmps19
  go_wp2
  go_quiet (fail)
  go_wp2
  go_quiet (fail)
  go_wp2
  go_quiet (fail)
  go_wp2
  go_ret
  have e1 : curByte code c = (bits .and .i64 (xorH (mixH c.h) + (code[c.i].toNat : Int)) 255, ⟨c.i + 1, mixH c.h⟩) := by unfold curByte; rw [dif_pos hlt]
  rw [e1]
  refine ⟨rfl, h.step ?_ ?_ (by simp only; omega), ?_⟩
  ·have e2 : curCells (Value.slice (some ⟨g, o, none⟩) code.length cap) ⟨c.i + 1, mixH c.h⟩ = [Value.slice (some ⟨g, o, none⟩) code.length cap, .int .i64 ((c.i : Int) + 1), .int .i64 (mixH c.h)] := by simp [curCells]
   show DBox b (curCells (Value.slice (some ⟨g, o, none⟩) code.length cap) ⟨c.i + 1, mixH c.h⟩) _
   rw [e2]
   repeat (first | exact h.box | refine DBox.drewN ?_ _ | apply DBox.put1 | apply DBox.put2)
  all_goals repeat (first | exact Chg.refl _ _ | refine Chg.drewN ?_ _ | refine Chg.setOwn ?_)
 ·have hle := h.le
  have hq : decide ((c.i : Int) < (code.length : Int)) = false := by simp; omega
  go_enter Try.func19, Try.ntmps19
  go_wp2
  go_quiet (fail)
  go_wp2
  go_quiet (fail)
  go_wp2
  go_ret
  have e1 : curByte code c = (xorH (mixH c.h), ⟨c.i, mixH c.h⟩) := by unfold curByte; rw [dif_neg hlt]
  rw [e1]
  refine ⟨rfl, h.step ?_ ?_ hle, ?_⟩
  ·show DBox b [_, .int .i64 (c.i : Int), .int .i64 (mixH c.h)] _
   repeat (first | exact h.box | refine DBox.drewN ?_ _ | apply DBox.put1 | apply DBox.put2)
  all_goals repeat (first | exact Chg.refl _ _ | refine Chg.drewN ?_ _ | refine Chg.setOwn ?_)
/-! the cursor at its start -/
theorem and_m30 (a : Int) : 0 ≤ bits .and .i64 a 1073741823 ∧ bits .and .i64 a 1073741823 ≤ 1073741823 := by
 show 0 ≤ IntKind.i64.wrap ((BitVec.ofInt 64 a &&& BitVec.ofInt 64 1073741823).toNat : Int) ∧ IntKind.i64.wrap ((BitVec.ofInt 64 a &&& BitVec.ofInt 64 1073741823).toNat : Int) ≤ 1073741823
 have h : (BitVec.ofInt 64 a &&& BitVec.ofInt 64 1073741823).toNat ≤ 1073741823 := by
  rw [BitVec.toNat_and]
  exact Nat.and_le_right
 rw [IntKind.wrap_i64]
 omega
def newH (code : List UInt8) : Nat → Int
 | 0 => 94701 + code.length
 | k + 1 => bits .and .i64 (newH code k * 131 + ((code.getD k 0).toNat : Int) + 7) 1073741823
theorem newH_bd (code : List UInt8) (hs : code.length ≤ 1048576) : ∀ k, 0 ≤ newH code k ∧ newH code k ≤ 1073741823
 | 0 => by unfold newH; omega
 | k + 1 => and_m30 _
theorem newH_succ (code : List UInt8) {k : Nat} (h : k < code.length) : newH code (k + 1) = bits .and .i64 (newH code k * 131 + (code[k].toNat : Int) + 7) 1073741823 := by
 rw [newH, List.getD_eq_getElem?_getD, List.getElem?_eq_getElem h]
 rfl
def curNew (code : List UInt8) : Cur := ⟨0, newH code (min code.length 4000)⟩
def NewP (v : Value) (code : List UInt8) (w : World) (e : Ending) (w' : World) : Prop := ∃ g, e = .returned (.pointer (some ⟨g, 0, none⟩)) ∧ g = w.heap.size ∧ Drw g v code (curNew code) w' ∧ Below w.heap.size w w'
theorem new_any (v : Value) (code : List UInt8) (w : World) (hs : code.length ≤ 1048576) (h : Rd byteE w w.heap.size v code) :
  Calls Try.prog 18 #[v] w (NewP v code w) := by
 obtain ⟨A, cap, rfl, -⟩ := id h
 go_enter Try.func18, Try.ntmps18
 go_wp2
 go_loop [3, 4] (fun x i => ∃ k : Nat, k ≤ min code.length 4000 ∧ i = .int .i64 k ∧ x = .int .i64 (newH code k)) (fun _ i => code.length - (intOf i).toNat)
 case atStart => exact ⟨0, Nat.zero_le _, rfl, rfl⟩
 case round =>
  obtain ⟨k, hk, rfl, rfl⟩ := hrel
  have hx := newH_bd code hs k
  by_cases hlt : k < min code.length 4000
  ·have hl : k < code.length := by omega
   obtain ⟨g, o, rfl, hg, d0⟩ := h.byte hl
   have i1 : (k : Int) < (code.length : Int) := by omega
   have i2 : (k : Int) < 4000 := by omega
   have hy : (code[k].toNat : Int) ≤ 255 := by have := code[k].toNat_lt; omega
   have H := Lib.hid (newH_succ code hl)
   go_wp2
   go_round
   case rel => exact ⟨k + 1, by omega, by go_num, by rw [H.out]⟩
   case measure => simp [intOf]; omega
  ·have hke := Lib.hid (show k = min code.length 4000 by omega)
   by_cases h4 : k < 4000
   ·have i1 : ¬ (k : Int) < (code.length : Int) := by omega
    go_wp2
    go_ret
    refine ⟨w.heap.size, rfl, rfl, ⟨?_, ?_, hs, Nat.zero_le _⟩, (Below.refl _ _).alloc (Nat.le_refl _) _⟩
    ·have e : curNew code = ⟨0, newH code k⟩ := by unfold curNew; rw [← hke.out]
     rw [e]
     exact DBox.new _ _ _ rfl
    ·exact h.keep (fun p hp => ((Below.refl w.heap.size w).alloc (Nat.le_refl _) _).cell hp)
   ·have hk4 : k = 4000 := by omega
    clear hlt h4
    subst hk4
    have hx0 := newH_bd code hs 4000
    clear hx
    by_cases h5 : 4000 < code.length
    ·have i2 : (4000 : Int) < (code.length : Int) := by omega
     go_wp2
     go_ret
     refine ⟨w.heap.size, rfl, rfl, ⟨?_, ?_, hs, Nat.zero_le _⟩, (Below.refl _ _).alloc (Nat.le_refl _) _⟩
     ·have e : curNew code = ⟨0, newH code 4000⟩ := by unfold curNew; rw [← hke.out]
      rw [e]
      exact DBox.new _ _ _ rfl
     ·exact h.keep (fun p hp => ((Below.refl w.heap.size w).alloc (Nat.le_refl _) _).cell hp)
    ·have i2 : ¬ (4000 : Int) < (code.length : Int) := by omega
     go_wp2
     go_ret
     refine ⟨w.heap.size, rfl, rfl, ⟨?_, ?_, hs, Nat.zero_le _⟩, (Below.refl _ _).alloc (Nat.le_refl _) _⟩
     ·have e : curNew code = ⟨0, newH code 4000⟩ := by unfold curNew; rw [← hke.out]
      rw [e]
      exact DBox.new _ _ _ rfl
     ·exact h.keep (fun p hp => ((Below.refl w.heap.size w).alloc (Nat.le_refl _) _).cell hp)
/-! a number below another one -/
def curBelow (code : List UInt8) (n : Int) (c : Cur) : Int × Cur :=
 if n ≤ 0 then (0, c) else if n ≤ 256 then ((curByte code c).1 % n, (curByte code c).2) else
  let a := curByte code c
  let b := curByte code a.2
  let d := curByte code b.2
  let e := curByte code d.2
  ((a.1 * 16777216 + b.1 * 65536 + d.1 * 256 + e.1) % n, e.2)
theorem curBelow_bd (code : List UInt8) {n : Int} (c : Cur) (h : 0 < n) : 0 ≤ (curBelow code n c).1 ∧ (curBelow code n c).1 < n := by
 unfold curBelow
 rw [if_neg (by omega)]
 split
 ·exact ⟨Int.emod_nonneg _ (by omega), Int.emod_lt_of_pos _ h⟩
 ·exact ⟨Int.emod_nonneg _ (by omega), Int.emod_lt_of_pos _ h⟩
theorem DrP.next {b : Nat} {v : Value} {code : List UInt8} {r : Value} {c' : Cur} {w w1 : World} {e : Ending} {w' : World} (hc : Chg [b] w w1) (h : DrP b v code r c' w1 e w') : DrP b v code r c' w e w' := ⟨h.1, h.2.1, hc.trans h.2.2⟩
theorem below_any (n : Int) (b : Nat) (v : Value) (code : List UInt8) (c : Cur) (w : World) (hn : n ≤ 1000000000000) (h : Drw b v code c w) :
  Calls Try.prog 20 #[.pointer (some ⟨b, 0, none⟩), .int .i64 n] w (DrP b v code (.int .i64 (curBelow code n c).1) (curBelow code n c).2 w) := by
 by_cases h0 : n ≤ 0
 ·have e : curBelow code n c = (0, c) := by unfold curBelow; rw [if_pos h0]
  have E := Lib.hid e
  clear e
  go_enter Try.func20, Try.ntmps20
  go_wp2
  go_ret
  rw [E.out]
  exact ⟨rfl, h, Chg.refl _ _⟩
 by_cases h1 : n ≤ 256
 ·have e : curBelow code n c = ((curByte code c).1 % n, (curByte code c).2) := by unfold curBelow; rw [if_neg h0, if_pos h1]
  have E := Lib.hid e
  clear e
  have hb := curByte_bd code c
  go_enter Try.func20, Try.ntmps20
  go_wp2_with fail
  refine (byte_any b v code c _ h).mono ?_
  rintro e w1 ⟨rfl, h1, c1⟩
  go_wp2
  go_ret
  rw [E.out]
  exact ⟨rfl, h1, c1⟩
 ·have e : curBelow code n c = (((curByte code c).1 * 16777216 + (curByte code (curByte code c).2).1 * 65536 + (curByte code (curByte code (curByte code c).2).2).1 * 256 + (curByte code (curByte code (curByte code (curByte code c).2).2).2).1) % n, (curByte code (curByte code (curByte code (curByte code c).2).2).2).2) := by
   unfold curBelow; rw [if_neg h0, if_neg h1]
  have E := Lib.hid e
  clear e
  have b1 := curByte_bd code c
  have b2 := curByte_bd code (curByte code c).2
  have b3 := curByte_bd code (curByte code (curByte code c).2).2
  have b4 := curByte_bd code (curByte code (curByte code (curByte code c).2).2).2
  go_enter Try.func20, Try.ntmps20
  go_wp2_with fail
  refine (byte_any b v code c _ h).mono ?_
  rintro e w1 ⟨rfl, k1, c1⟩
  go_wp2_with fail
  refine (byte_any b v code _ _ k1).mono ?_
  rintro e w2 ⟨rfl, k2, c2⟩
  go_wp2_with fail
  refine (byte_any b v code _ _ k2).mono ?_
  rintro e w3 ⟨rfl, k3, c3⟩
  go_wp2_with fail
  refine (byte_any b v code _ _ k3).mono ?_
  rintro e w4 ⟨rfl, k4, c4⟩
  go_wp2
  go_ret
  rw [E.out]
  exact ⟨rfl, k4, ((c1.trans c2).trans c3).trans c4⟩
/-- one time out of n -/
def curOnce (code : List UInt8) (n : Int) (c : Cur) : Bool × Cur := ((curBelow code n c).1 == 0, (curBelow code n c).2)
theorem once_any (n : Int) (b : Nat) (v : Value) (code : List UInt8) (c : Cur) (w : World) (hn : n ≤ 1000000000000) (h : Drw b v code c w) :
  Calls Try.prog 44 #[.pointer (some ⟨b, 0, none⟩), .int .i64 n] w (DrP b v code (.bool (curOnce code n c).1) (curOnce code n c).2 w) := by
 go_enter Try.func44, Try.ntmps44
 go_wp2_with fail
 refine (below_any n b v code c _ hn h).mono ?_
 rintro e w1 ⟨rfl, h1, c1⟩
 go_wp2
 go_ret
 exact ⟨rfl, h1, c1⟩
end Go.Proofs.Ytonlnjdempbfoaa
end
section
namespace Go.Proofs.Ytonlnjdempbfoaa
open Go.RowKit
set_option maxRecDepth 100000
set_option maxHeartbeats 1000000
set_option linter.unusedVariables false
set_option linter.unusedSimpArgs false
structure Yard where
 now : Int
 seq : Int
 shelf : List (List Entry)
 runs : List Run
deriving DecidableEq, Inhabited
@[go_sem] abbrev yardW (x : Yard) (s : Sl × Sl) : Value := .agg #[.int .i64 x.now, .int .i64 x.seq, .slice s.1.a s.1.n s.1.c, .slice s.2.a s.2.n s.2.c]
abbrev yardD : Dt Yard := Dt.two (Dt.list (Dt.list entryD)) (Dt.list runD) (·.shelf) (·.runs) (fun q => [.int .i64 q.1.now, .int .i64 q.1.seq, .slice q.2.1.a q.2.1.n q.2.1.c, .slice q.2.2.a q.2.2.n q.2.2.c]) 4 (fun _ => rfl) (fun q u hu => by simp at hu; rcases hu with rfl | rfl | rfl | rfl <;> rfl)
/-- all lengths in it together -/
def cntYard (x : Yard) : Nat := cntL cntEntryS x.shelf + cntL cntRun x.runs
end Go.Proofs.Ytonlnjdempbfoaa
end
