/-
  Data of the type Note: how it lies in memory, and the walks of the laws' helpers on it. Written by program (deep.py). Numbers as bytes: VarText of both. A plan that is drawn. Slots that fit a plan: plain facts. The argument of a law that draws: bytes, read as data. RunAt of the reference and of the program. Written by program (cs.py). Data of the type Seg: how it lies in memory, and the walks of the laws' helpers on it. Written by program (deep.py). SumOf, FourOf, FrameOf of both. The handing out of tasks to workers, step by step: plain facts. SourcesOf and SinksOf of both. Shelves, runs and y
-/
import Derived.Test.YtonlnjdempbfoaaZParts1
section
namespace Go.Proofs.Ytonlnjdempbfoaa
open Go.RowKit
set_option maxRecDepth 100000
set_option maxHeartbeats 1000000
set_option linter.unusedVariables false
set_option linter.unusedSimpArgs false
structure Note where
 seq : Int
 deed : Deed
deriving DecidableEq, Inhabited
@[go_sem] abbrev noteW (x : Note) (s : Sl) : Value := .agg #[.int .i64 x.seq, .int .i64 x.deed.kind, .int .i64 x.deed.run, .int .i64 x.deed.plan.prio, .int .i64 x.deed.plan.most, .int .i64 x.deed.plan.wait, .int .i64 x.deed.plan.tasks, .slice s.a s.n s.c, .int .i64 x.deed.task, .int .i64 x.deed.try_, .int .i64 x.deed.worker, .int .i64 x.deed.draw]
abbrev noteD : Dt Note := Dt.via deedD (·.deed) (fun q => [.int .i64 q.1.seq, .int .i64 q.1.deed.kind, .int .i64 q.1.deed.run, .int .i64 q.1.deed.plan.prio, .int .i64 q.1.deed.plan.most, .int .i64 q.1.deed.plan.wait, .int .i64 q.1.deed.plan.tasks, .slice q.2.a q.2.n q.2.c, .int .i64 q.1.deed.task, .int .i64 q.1.deed.try_, .int .i64 q.1.deed.worker, .int .i64 q.1.deed.draw]) 12 (fun _ => rfl) (fun q u hu => by simp at hu; rcases hu with rfl | rfl | rfl | rfl | rfl | rfl | rfl | rfl | rfl | rfl | rfl | rfl <;> rfl)
/-- all lengths in it together -/
def cntNote (x : Note) : Nat := cntDeed x.deed
theorem RdL.note {w : World} {B : Nat} {A : Option Addr} {n c : Nat} {l : List (Note)} (h : RdL noteD w B (.slice A n c) l) {k : Nat} (hk : k < l.length) :
  ∃ b o, ∃ s : Sl, A = some ⟨b, o, none⟩ ∧ b < B ∧ noteD.rd w B l[k] s ∧ w.cell? ⟨b, o + k * 12, none⟩ = some (.int .i64 l[k].seq) ∧ w.cell? ⟨b, o + k * 12 + 1, none⟩ = some (.int .i64 l[k].deed.kind) ∧ w.cell? ⟨b, o + k * 12 + 2, none⟩ = some (.int .i64 l[k].deed.run) ∧ w.cell? ⟨b, o + k * 12 + 3, none⟩ = some (.int .i64 l[k].deed.plan.prio) ∧ w.cell? ⟨b, o + k * 12 + 4, none⟩ = some (.int .i64 l[k].deed.plan.most) ∧ w.cell? ⟨b, o + k * 12 + 5, none⟩ = some (.int .i64 l[k].deed.plan.wait) ∧ w.cell? ⟨b, o + k * 12 + 6, none⟩ = some (.int .i64 l[k].deed.plan.tasks) ∧ w.cell? ⟨b, o + k * 12 + 7, none⟩ = some (.slice s.a s.n s.c) ∧ w.cell? ⟨b, o + k * 12 + 8, none⟩ = some (.int .i64 l[k].deed.task) ∧ w.cell? ⟨b, o + k * 12 + 9, none⟩ = some (.int .i64 l[k].deed.try_) ∧ w.cell? ⟨b, o + k * 12 + 10, none⟩ = some (.int .i64 l[k].deed.worker) ∧ w.cell? ⟨b, o + k * 12 + 11, none⟩ = some (.int .i64 l[k].deed.draw) := by
 obtain ⟨b, o, s, rfl, hb, hc, hr⟩ := h.at_ k hk
 exact ⟨b, o, s, rfl, hb, hr, hc 0 _ rfl, hc 1 _ rfl, hc 2 _ rfl, hc 3 _ rfl, hc 4 _ rfl, hc 5 _ rfl, hc 6 _ rfl, hc 7 _ rfl, hc 8 _ rfl, hc 9 _ rfl, hc 10 _ rfl, hc 11 _ rfl⟩
theorem Foc.note {w : World} {b o n c j : Nat} {rs : List ((Note) × Sl)} {G1 Fx G2 : List Nat} {x : Note} {s : Sl} (h : Foc noteD w b o n c rs j G1 Fx G2 x s) :
  w.cell? ⟨b, o + j * 12, none⟩ = some (.int .i64 x.seq) ∧ w.cell? ⟨b, o + j * 12 + 1, none⟩ = some (.int .i64 x.deed.kind) ∧ w.cell? ⟨b, o + j * 12 + 2, none⟩ = some (.int .i64 x.deed.run) ∧ w.cell? ⟨b, o + j * 12 + 3, none⟩ = some (.int .i64 x.deed.plan.prio) ∧ w.cell? ⟨b, o + j * 12 + 4, none⟩ = some (.int .i64 x.deed.plan.most) ∧ w.cell? ⟨b, o + j * 12 + 5, none⟩ = some (.int .i64 x.deed.plan.wait) ∧ w.cell? ⟨b, o + j * 12 + 6, none⟩ = some (.int .i64 x.deed.plan.tasks) ∧ w.cell? ⟨b, o + j * 12 + 7, none⟩ = some (.slice s.a s.n s.c) ∧ w.cell? ⟨b, o + j * 12 + 8, none⟩ = some (.int .i64 x.deed.task) ∧ w.cell? ⟨b, o + j * 12 + 9, none⟩ = some (.int .i64 x.deed.try_) ∧ w.cell? ⟨b, o + j * 12 + 10, none⟩ = some (.int .i64 x.deed.worker) ∧ w.cell? ⟨b, o + j * 12 + 11, none⟩ = some (.int .i64 x.deed.draw) := ⟨h.cells 0 _ rfl, h.cells 1 _ rfl, h.cells 2 _ rfl, h.cells 3 _ rfl, h.cells 4 _ rfl, h.cells 5 _ rfl, h.cells 6 _ rfl, h.cells 7 _ rfl, h.cells 8 _ rfl, h.cells 9 _ rfl, h.cells 10 _ rfl, h.cells 11 _ rfl⟩
theorem note_infoD : (Try.prog.info? 39).map (fun i => (i.zero, i.size, i.bytes)) = some (some (.agg #[.int .i64 0, .int .i64 0, .int .i64 0, .int .i64 0, .int .i64 0, .int .i64 0, .int .i64 0, .slice none 0 0, .int .i64 0, .int .i64 0, .int .i64 0, .int .i64 0]), 12, 112) := by kernel_rfl
end Go.Proofs.Ytonlnjdempbfoaa
end
section
namespace Go.Proofs.Ytonlnjdempbfoaa
open Go.RowKit
set_option maxRecDepth 100000
set_option maxHeartbeats 2000000
set_option linter.unusedVariables false
set_option linter.unusedSimpArgs false
/-- a text -/
abbrev strV (l : List UInt8) : Value := .string ⟨l.toArray⟩
/-- a number as bytes, seven bits each -/
def varL (n : Nat) : List UInt8 := if h : n < 128 then [UInt8.ofNat n] else UInt8.ofNat (n % 128 + 128) :: varL (n / 128)
termination_by n
decreasing_by omega
def varText (n : Int) : List UInt8 := if inB n 0 1000000000 then varL n.toNat else []
theorem varL_len (n k : Nat) (h : n < 128 ^ (k + 1)) : (varL n).length ≤ k + 1 := by
 induction k generalizing n with
 | zero => rw [varL, dif_pos (by simpa using h)]; simp
 | succ k ih =>
  rw [varL]
  split
  ·simp
  ·rw [List.length_cons]
   have := ih (n / 128) (by rw [Nat.div_lt_iff_lt_mul (by decide)]; rw [Nat.pow_succ] at h; exact h)
   omega
theorem varText_len (n : Int) : (varText n).length ≤ 5 := by
 unfold varText
 split
 ·rename_i h
  refine varL_len _ 4 ?_
  simp [inB] at h
  omega
 ·simp
theorem byte_info : (Try.prog.info? 5).map (fun i => (i.zero, i.size, i.bytes)) = some (some (.int .u8 0), 1, 1) := by kernel_rfl
/-- what stands behind is a text that was there -/
def StrPost (l : List UInt8) (w : World) (e : Ending) (w' : World) : Prop := e = .returned (strV l) ∧ Below w.heap.size w w'
/-- bytes of the call's own, made a text -/
theorem conv_own {base n c : Nat} {A : Option Addr} {l : List UInt8} {w : World} (h : Ow byteE 5 w base (.slice A n c) l) :
  (convert 22 9 (.slice A n c)).run Try.prog w = .ok (strV l) w := by
 rcases h.form with ⟨h1, rfl⟩ | ⟨g, cap, h1, _, _, _, _, _, hc⟩
 ·simp only [Value.slice.injEq] at h1
  obtain ⟨rfl, rfl, rfl⟩ := h1
  rw [run_convert_bytes_string w _ _ 5 none 0 0 Try.underlying22 Try.underlying5 Try.underlying9]
  rfl
 ·simp only [Value.slice.injEq] at h1
  obtain ⟨rfl, rfl, rfl⟩ := h1
  exact run_convert_bytes_back (P := Try.prog) w 22 9 5 ⟨g, 0, none⟩ c l Try.underlying22 Try.underlying5 Try.underlying9 (fun j hj => by
   have := hc j hj 0 _ rfl
   have e : (⟨g, 0, none⟩ : Addr).add j = ⟨g, j, none⟩ := by unfold Addr.add; split <;> simp_all
   rw [e]
   simpa [byteE] using this)
theorem news_byte (w : World) (n : Int) (x : UInt8) (h : (x.toNat : Int) = n) (T : TypeId) : ∀ (j : Nat) (u : Value), (byteE.cells x)[j]? = some u → (w.alloc (.cells #[.int .u8 n] T)).cell? ((⟨w.heap.size, 0, none⟩ : Addr).add j) = some u := by
 subst h
 exact news_new _ #[_] _ (by simp)
theorem specVarText_any (n : Int) (w : World) :
  Calls Try.prog 97 #[.int .i64 n] w (StrPost (varText n) w) := by
 by_cases hi : inB n 0 1000000000 = true
 case neg =>
  have hif : inB n 0 1000000000 = false := by simpa using hi
  have H := Lib.hid (show varText n = [] by unfold varText; rw [if_neg hi])
  go_enter Try.func97, Try.ntmps97
  go_wp2_with (go_at_call 30; refine (l01In_any _ _ _ _).mono ?_; rintro e w3 ⟨rfl, rfl⟩)
  go_ret
  exact ⟨by rw [H.out]; rfl, Below.refl _ _⟩
 obtain ⟨i0, hi0, hz0, hz1, hz2⟩ := info_parts byte_info
 have hV := Lib.hid (show varText n = varL n.toNat by unfold varText; rw [if_pos hi])
 have hn0 : 0 ≤ n ∧ n ≤ 1000000000 := by simpa [inB] using hi
 go_enter Try.func97, Try.ntmps97
 go_wp2_with (go_at_call 30; refine (l01In_any _ _ _ _).mono ?_; rintro e w3 ⟨rfl, rfl⟩)
 go_loopw [0, 3] (fun q x wr => ∃ (m : Nat) (l : List UInt8) (v : Value), Hid (l ++ varL m = varL n.toNat) ∧ Hid (∃ k, m < 128 ^ k ∧ l.length + k = 5) ∧ m ≤ 1000000000 ∧ q = .int .i64 m ∧ v = x ∧ Hid (Ow byteE 5 wr w.heap.size v l) ∧ Below w.heap.size w wr) (fun q _ _ => (intOf q).toNat)
 case atStart => exact ⟨n.toNat, [], _, rfl, ⟨5, by omega, rfl⟩, by omega, by rw [Int.toNat_of_nonneg (by omega)], rfl, Ow.empty byteE 5 w (g := w.heap.size) (by simp), (Below.refl _ _).alloc (Nat.le_refl _) _⟩
 case round =>
  obtain ⟨m, l, v, hl, hlen, hm, rfl, rfl, hO, hb⟩ := hrel
  have hll : l.length ≤ 5 := by obtain ⟨k, _, hk⟩ := hlen.out; omega
  by_cases h8 : m < 128
  ·have h8' : ¬ (127 : Int) < (m : Int) := by omega
   have hv : ((UInt8.ofNat m).toNat : Int) = (m : Int) := by simp; omega
   have H := Lib.hid (show varText n = l ++ [UInt8.ofNat m] by rw [hV.out, ← hl.out, varL, dif_pos h8])
   go_wp2_with (at_builtin; refine wpList_push (v := v) byteE (by decide) rfl (.tmp 19) (.tmp 22) rfl Try.underlying22 hi0 hz0 hz1 hz2 rfl (UInt8.ofNat m) rfl (hO.out.below ((Below.refl wr.heap.size wr).alloc (by simp) _)) ⟨wr.heap.size, 0, none⟩ 1 rfl (news_byte _ _ _ hv _) (by omega) (by decide) (by have := hb.size; simp; omega) ?_; intro v5 w5 o5 g5; obtain ⟨A9, c9, rfl, -⟩ := id (Rd.of_own o5); simp only [List.length_append, List.length_singleton] at o5; have cv := conv_own o5; have hb5 := (hb.alloc hb.size (.cells #[.int .u8 ((m : Int))] 5)).grown g5 (by have := hb.size; simp; omega) (fun g hg => (hO.out.within g hg).1))
   go_ret
   exact ⟨by rw [H.out]; rfl, hb5⟩
  ·have h8' : (127 : Int) < (m : Int) := by omega
   have hl2 := Lib.hid (show ∃ k, m / 128 < 128 ^ k ∧ (l ++ [UInt8.ofNat (m % 128 + 128)]).length + k = 5 by
    obtain ⟨k, hk, hk'⟩ := hlen.out
    obtain ⟨k, rfl⟩ : ∃ k', k = k' + 1 := by
     cases k with
     | zero => simp at hk; omega
     | succ k => exact ⟨k, rfl⟩
    refine ⟨k, ?_, ?_⟩
    ·rw [Nat.div_lt_iff_lt_mul (by decide), ← Nat.pow_succ]; exact hk
    ·rw [List.length_append, List.length_singleton]; omega)
   have hv : ((UInt8.ofNat (m % 128 + 128)).toNat : Int) = 128 + (m : Int) % 128 := by simp; omega
   have S : Hid ((l ++ [UInt8.ofNat (m % 128 + 128)]) ++ varL (m / 128) = varL n.toNat) := by
    show _ = _
    rw [← hl.out, List.append_assoc]
    conv => rhs; rw [varL, dif_neg h8]
    rfl
   go_wp2_with (at_builtin; refine wpList_push (v := v) byteE (by decide) rfl (.tmp 10) (.tmp 15) rfl Try.underlying22 hi0 hz0 hz1 hz2 rfl (UInt8.ofNat (m % 128 + 128)) rfl (hO.out.below ((Below.refl wr.heap.size wr).alloc (by simp) _)) ⟨wr.heap.size, 0, none⟩ 1 rfl (news_byte _ _ _ hv _) (by omega) (by decide) (by have := hb.size; simp; omega) ?_; intro v5 w5 o5 g5; obtain ⟨A9, c9, rfl, -⟩ := id (Rd.of_own o5); simp only [List.length_append, List.length_singleton] at o5; have cv := conv_own o5; have hb5 := (hb.alloc hb.size (.cells #[.int .u8 (128 + (m : Int) % 128)] 5)).grown g5 (by have := hb.size; simp; omega) (fun g hg => (hO.out.within g hg).1))
   exact ⟨⟨m / 128, _, _, S, hl2, by omega, by go_num, rfl, o5, hb5⟩, by simp [intOf]; omega⟩
end Go.Proofs.Ytonlnjdempbfoaa
end
section
namespace Go.Proofs.Ytonlnjdempbfoaa
open Go.RowKit
set_option maxRecDepth 100000
set_option maxHeartbeats 2000000
set_option linter.unusedVariables false
theorem Chg.alloc {F : List Nat} {a w : World} (h : Chg F a w) (o : Obj) : Chg F a (w.alloc o) := h.trans (Chg.of_below F ((Below.refl _ _).alloc (Nat.le_refl _) o))
theorem Chg.setNew {F : List Nat} {a w : World} (h : Chg F a w) {p : Addr} (hp : a.heap.size ≤ p.block) {u : Value} : Chg F a (w.setCell p u) :=
 ⟨h.os, h.tape, h.output, by have := h.size; simpa [World.setCell] using this, fun i hi hn => (Below.heap_setCell w p u i (by omega)).trans (h.block i hi hn)⟩
theorem Chg.grownNew {F : List Nat} {a w w' : World} {row : Option Nat} (h : Chg F a w) (hg : w.grownBy w' row) (hr : ∀ g, row = some g → a.heap.size ≤ g) : Chg F a w' :=
 ⟨hg.os.trans h.os, hg.tape.trans h.tape, hg.output.trans h.output, Nat.le_trans h.size hg.size, fun i hi hn => (hg.block i (Nat.lt_of_lt_of_le hi h.size) (fun e => by have := hr i e.symm; omega)).trans (h.block i hi hn)⟩
theorem Chg.belowNew {F : List Nat} {a w w' : World} (h : Chg F a w) (hb : Below w.heap.size w w') : Chg F a w' := h.trans (Chg.of_below F hb)
theorem Chg.toGrown {b : Nat} {w w' : World} (h : Chg [b] w w') : w.grownBy w' (some b) :=
 ⟨h.os, h.tape, h.output, h.size, fun k hk hn => h.block k hk (fun hm => hn (by simp only [List.mem_singleton] at hm; rw [hm]))⟩
theorem Drw.setNew {b : Nat} {v : Value} {code : List UInt8} {c : Cur} {w : World} (h : Drw b v code c w) {p : Addr} (hp : b < p.block) (u : Value) : Drw b v code c (w.setCell p u) := by
 refine h.chg (F := [p.block]) (w' := w.setCell p u) ⟨rfl, rfl, rfl, by simp [World.setCell], fun i _ hn => Below.heap_setCell w p u i (by simpa using hn)⟩ (fun x hx => by simp only [List.mem_singleton] at hx; omega)
theorem Drw.grownNew {b : Nat} {v : Value} {code : List UInt8} {c : Cur} {w w' : World} {row : Option Nat} (h : Drw b v code c w) (hg : w.grownBy w' row) (hr : ∀ g, row = some g → b < g) : Drw b v code c w' :=
 h.chg (F := row.toList) (Chg.grown hg (fun g e => by simp [e])) (fun x hx => hr x (by simpa using hx))
theorem Drw.alloc {b : Nat} {v : Value} {code : List UInt8} {c : Cur} {w : World} (h : Drw b v code c w) (o : Obj) : Drw b v code c (w.alloc o) := h.below ((Below.refl _ _).alloc (Nat.le_refl _) o)
theorem Drw.drewN {b : Nat} {v : Value} {code : List UInt8} {c : Cur} {w : World} (h : Drw b v code c w) (n : Nat) : Drw b v code c (w.drewN n) := ⟨h.box.drewN n, h.rd, h.small, h.le⟩
theorem BoxAt.chg {F : List Nat} {b : Nat} {p : Plan} {v : Value} {w w' : World} (h : BoxAt b p v w) (hc : Chg F w w') (hn : b ∉ F) : BoxAt b p v w' :=
 h.keep hc.size (fun j => hc.cell (p := ⟨b, j, none⟩) h.lt hn) (fun j => hc.frozen (p := ⟨b, j, none⟩) h.lt hn)
theorem BoxAt.drewN {b : Nat} {p : Plan} {v : Value} {w : World} (h : BoxAt b p v w) (n : Nat) : BoxAt b p v (w.drewN n) := ⟨h.cells, h.free⟩
theorem EdgeAt.chg {F : List Nat} {b : Nat} {e : Edge} {w w' : World} (h : EdgeAt b e w) (hc : Chg F w w') (hn : b ∉ F) : EdgeAt b e w' := by
 obtain ⟨h0, h1, h2⟩ := h.cells
 exact ⟨(hc.cell (p := ⟨b, 0, none⟩) h2 hn).trans h0, (hc.cell (p := ⟨b, 1, none⟩) h2 hn).trans h1, Nat.lt_of_lt_of_le h2 hc.size⟩
theorem Ow.chg {α : Type} {e : Enc α} {E : TypeId} {w w' : World} {base b : Nat} {v : Value} {l : List α} (h : Ow e E w base v l) (hc : Chg [b] w w') (hb : b < base) : Ow e E w' base v l :=
 h.grown hc.toGrown (.inr (fun e' => by have := h.within b e'; omega))
theorem Ow.setLow {α : Type} {e : Enc α} {E : TypeId} {w : World} {base : Nat} {v : Value} {l : List α} (h : Ow e E w base v l) {a : Addr} (ha : a.block < base) (u : Value) : Ow e E (w.setCell a u) base v l :=
 h.setOther (fun e' => by have := h.within _ e'; omega) u
def newTo (code : List UInt8) (T : Int) (c : Cur) : Int := 1 + (curBelow code (T - 1) (curBelow code 9 c).2).1
def newE (code : List UInt8) (T : Int) (c : Cur) : Edge := ⟨(curBelow code (newTo code T c) (curBelow code (T - 1) (curBelow code 9 c).2).2).1, newTo code T c⟩
def newC (code : List UInt8) (T : Int) (c : Cur) : Cur := (curBelow code (newTo code T c) (curBelow code (T - 1) (curBelow code 9 c).2).2).2
def addE (es : List Edge) (e : Edge) : List Edge := if e ∈ es then es else es ++ [e]
/-- the edges that are drawn, i of them gone by -/
def planGo (code : List UInt8) (T : Int) : Nat → Nat → List Edge → Cur → List Edge × Cur
 | 0, _, es, c => (es, c)
 | f + 1, i, es, c => if (i : Int) < (curBelow code 9 c).1 ∧ 1 < T then planGo code T f (i + 1) (addE es (newE code T c)) (newC code T c) else (es, (curBelow code 9 c).2)
def planT (once : Bool) (t : Int) : Int := if once = true then 12 else 1 + t
def curPlan (code : List UInt8) (c : Cur) : Plan × Cur :=
 let a := curBelow code 4 c
 let b := curBelow code 3 a.2
 let d := curBelow code 4 b.2
 let t := curBelow code 6 d.2
 let o := curOnce code 10 t.2
 let g := planGo code (planT o.1 t.1) 10 0 [] o.2
 (⟨a.1, 1 + b.1, 1 + d.1, planT o.1 t.1, g.1⟩, g.2)
def PlanP (b : Nat) (v : Value) (code : List UInt8) (r : Plan × Cur) (w : World) (e : Ending) (w' : World) : Prop :=
 ∃ u, e = .returned (planV r.1 u) ∧ Ow edgeE 94 w' w.heap.size u r.1.edges ∧ Drw b v code r.2 w' ∧ Chg [b] w w'
theorem drawPlan_any (b : Nat) (v : Value) (code : List UInt8) (c : Cur) (w : World) (h : Drw b v code c w) :
  Calls Try.prog 41 #[.pointer (some ⟨b, 0, none⟩)] w (PlanP b v code (curPlan code c) w) := by
 have hb := h.box.lt
 go_enter Try.func41, Try.ntmps41
 go_wp2_with fail
 have C0 := (Chg.refl [b] w).alloc (.cells #[.int .i64 0, .int .i64 0, .int .i64 0, .int .i64 0, .slice none 0 0] 35)
 have h := h.alloc (.cells #[.int .i64 0, .int .i64 0, .int .i64 0, .int .i64 0, .slice none 0 0] 35)
 have R0 := BoxAt.new' 35 ⟨0, 0, 0, 0, []⟩ (.slice none 0 0) w rfl
 have hbz : b < w.heap.size := hb
 refine (below_any 4 b v code c _ (by omega) h).mono ?_
 rintro e w1 ⟨rfl, k1, c1⟩
 have B1 := curBelow_bd code (n := 4) c (by omega)
 generalize hr1 : curBelow code 4 c = r1 at *
 have H1 := Lib.hid hr1
 clear hr1
 have R1 := R0.chg c1 (by simp; omega)
 go_wp2_with fail
 refine (below_any 3 b v code _ _ (by omega) k1).mono ?_
 rintro e w2 ⟨rfl, k2, c2⟩
 have B2 := curBelow_bd code (n := 3) r1.2 (by omega)
 generalize hr2 : curBelow code 3 r1.2 = r2 at *
 have H2 := Lib.hid hr2
 clear hr2
 have R2 := R1.chg c2 (by simp; omega)
 go_wp2_with fail
 refine (below_any 4 b v code _ _ (by omega) k2).mono ?_
 rintro e w3 ⟨rfl, k3, c3⟩
 have B3 := curBelow_bd code (n := 4) r2.2 (by omega)
 generalize hr3 : curBelow code 4 r2.2 = r3 at *
 have H3 := Lib.hid hr3
 clear hr3
 have R3 := R2.chg c3 (by simp; omega)
 go_wp2_with fail
 refine (below_any 6 b v code _ _ (by omega) k3).mono ?_
 rintro e w4 ⟨rfl, k4, c4⟩
 have B4 := curBelow_bd code (n := 6) r3.2 (by omega)
 generalize hr4 : curBelow code 6 r3.2 = r4 at *
 have H4 := Lib.hid hr4
 clear hr4
 have R4 := R3.chg c4 (by simp; omega)
 have C4 := (((C0.trans c1).trans c2).trans c3).trans c4
 have S4 := C4.size
 clear C0 c1 c2 c3 c4 R0 R1 R2 R3 h k1 k2 k3
 go_wp2_with fail
 have P5 := BoxAt.new' 35 ⟨r1.1, 1 + r2.1, 1 + r3.1, 1 + r4.1, []⟩ (.slice none 0 0) w4 rfl
 have R5 := R4.below ((Below.refl _ _).alloc (Nat.le_refl _) (.cells #[.int .i64 r1.1, .int .i64 (1 + r2.1), .int .i64 (1 + r3.1), .int .i64 (1 + r4.1), .slice none 0 0] 35))
 have C5 := C4.alloc (.cells #[.int .i64 r1.1, .int .i64 (1 + r2.1), .int .i64 (1 + r3.1), .int .i64 (1 + r4.1), .slice none 0 0] 35)
 have k5 := k4.alloc (.cells #[.int .i64 r1.1, .int .i64 (1 + r2.1), .int .i64 (1 + r3.1), .int .i64 (1 + r4.1), .slice none 0 0] 35)
 have R4s := R4.lt
 obtain ⟨pb, hpb⟩ : ∃ pb, pb = w4.heap.size := ⟨_, rfl⟩
 rw [← hpb] at P5 R4s ⊢
 generalize (w4.alloc (.cells #[.int .i64 r1.1, .int .i64 (1 + r2.1), .int .i64 (1 + r3.1), .int .i64 (1 + r4.1), .slice none 0 0] 35)) = w5 at *
 clear R4 C4 k4 S4 hpb
 refine (once_any 10 b v code _ _ (by omega) k5).mono ?_
 rintro e w6 ⟨rfl, k6, c6⟩
 generalize hr5 : curOnce code 10 r4.2 = r5 at *
 have H5 := Lib.hid hr5
 clear hr5
 have P6 := P5.chg c6 (by simp; omega)
 have R6 := R5.chg c6 (by simp; omega)
 have C6 := C5.trans c6
 clear c6 P5 R5 C5 k5
 obtain ⟨T, hT, hT1, hT2⟩ : ∃ T : Int, Hid (planT r5.1 r4.1 = T) ∧ 1 ≤ T ∧ T ≤ 12 := ⟨_, Lib.hid rfl, by unfold planT; split <;> omega, by unfold planT; split <;> omega⟩
 have HE : Hid (∀ g, planGo code T 10 0 [] r5.2 = g → curPlan code c = (⟨r1.1, 1 + r2.1, 1 + r3.1, T, g.1⟩, g.2)) := by
  intro g hg
  unfold curPlan
  simp only [H1.out, H2.out, H3.out, H4.out, H5.out, hT.out, hg]
 have P6c := P6.cells
 have P6f := P6.free
 obtain ⟨i0, hi0, hz0, hz1, hz2⟩ := info_parts edge_info
 cases ho : r5.1
 case' false =>
  rw [ho] at hT
  have hT' : 1 + r4.1 = T := hT.out
  rw [hT'] at P6
  clear hT hT' P6c
  have C7 := C6
  have P7 := P6
  have k7 := k6
  have R7 := R6
  have P7c := P7.cells
  go_wp2_with fail
 case' true =>
  rw [ho] at hT
  have hT' : (12 : Int) = T := hT.out
  have C7 := C6.setNew (p := ⟨pb, 3, none⟩) (u := .int .i64 T) (by simp; omega)
  have P7 : BoxAt pb ⟨r1.1, 1 + r2.1, 1 + r3.1, T, []⟩ (.slice none 0 0) (w6.setCell ⟨pb, 3, none⟩ (.int .i64 T)) := P6.setTasks T
  have k7 := k6.setNew (p := ⟨pb, 3, none⟩) (by simp; omega) (.int .i64 T)
  have R7 := R6.other (a := ⟨pb, 3, none⟩) (by simp; omega) (.int .i64 T)
  go_wp2_with fail
  clear hT hT' P6c
  generalize (w6.setCell ⟨pb, 3, none⟩ (.int .i64 T)) = w7 at *
 all_goals
  clear P6 k6 R6 C6 P6f
  try clear P7c
  try clear H1 H2 H3 H4 H5
  go_loopw [4] (fun i wr => ∃ (k : Nat) (es : List Edge) (u : Value) (c' : Cur), k ≤ 9 ∧ i = .int .i64 k ∧ es.length ≤ k ∧ Drw b v code c' wr ∧ BoxAt pb ⟨r1.1, 1 + r2.1, 1 + r3.1, T, es⟩ u wr ∧ Ow edgeE 94 wr (pb + 1) u es ∧ Chg [b] w wr ∧ BoxAt w.heap.size ⟨0, 0, 0, 0, []⟩ (.slice none 0 0) wr ∧ Hid (planGo code T (10 - k) k es c' = planGo code T 10 0 [] r5.2)) (fun i _ => 9 - (intOf i).toNat)
  case atStart => exact ⟨0, [], _, _, by omega, rfl, by simp, k7, P7, Ow.nil _ _ _ _, C7, R7, rfl⟩
  case round =>
   clear C7 P7 k7 R7
   obtain ⟨k, es, u, c', hk, rfl, hes, K, P, O, C, R, G⟩ := hrel
   go_wp2_with fail
   refine (below_any 9 b v code _ _ (by omega) K).mono ?_
   rintro e wa ⟨rfl, ka, ca⟩
   have Ba := curBelow_bd code (n := 9) c' (by omega)
   generalize hq1 : curBelow code 9 c' = q1 at *
   have Hq1 := Lib.hid hq1
   clear hq1
   have Pa := P.chg ca (by simp; omega)
   have Ra := R.chg ca (by simp; omega)
   have Oa := O.chg ca (by omega)
   have Ca := C.trans ca
   clear K P R O C ca
   obtain ⟨p0, p1, p2, p3, p4, ps⟩ := Pa.cells
   obtain ⟨z0, z1, z2, z3, z4, zs⟩ := Ra.cells
   have pf := Pa.free
   have zf := Ra.free
   by_cases hgo : (k : Int) < q1.1 ∧ 1 < T
   ·obtain ⟨g1, g2⟩ := hgo
    go_wp2_with fail
    refine (below_any (T - 1) b v code _ _ (by omega) ka).mono ?_
    rintro e wb ⟨rfl, kb, cb⟩
    have Bb := curBelow_bd code (n := T - 1) q1.2 (by omega)
    generalize hq2 : curBelow code (T - 1) q1.2 = q2 at *
    have Hq2 := Lib.hid hq2
    clear hq2 p0 p1 p2 p3 p4 ps z0 z1 z2 z3 z4 zs pf zf
    have Pb := Pa.chg cb (by simp; omega)
    have Rb := Ra.chg cb (by simp; omega)
    have Ob := Oa.chg cb (by omega)
    have Cb := Ca.trans cb
    clear ka Pa Ra Oa Ca cb
    go_wp2_with fail
    refine (below_any (1 + q2.1) b v code _ _ (by omega) kb).mono ?_
    rintro e wc ⟨rfl, kc, cc⟩
    have Bc := curBelow_bd code (n := 1 + q2.1) q2.2 (by omega)
    generalize hq3 : curBelow code (1 + q2.1) q2.2 = q3 at *
    have Hq3 := Lib.hid hq3
    clear hq3
    have Pc := Pb.chg cc (by simp; omega)
    have Rc := Rb.chg cc (by simp; omega)
    have Oc := Ob.chg cc (by omega)
    have Cc := Cb.trans cc
    clear kb Pb Rb Ob Cb cc
    go_wp2_with fail
    have ha : Below wc.heap.size wc (wc.alloc (.cells #[.int .i64 q3.1, .int .i64 (1 + q2.1)] 94)) := (Below.refl _ _).alloc (Nat.le_refl _) _
    have D := EdgeAt.new 94 ⟨q3.1, 1 + q2.1⟩ wc
    have eb : pb < wc.heap.size := Pc.lt
    have Pd := Pc.below ha
    have Re := Rc.below ha
    have Od := Oc.below ha
    have Cd := Cc.belowNew ha
    have kd := kc.below ha
    obtain ⟨ep, hep⟩ : ∃ ep, ep = wc.heap.size := ⟨_, rfl⟩
    rw [← hep] at D eb ⊢
    generalize (wc.alloc (.cells #[.int .i64 q3.1, .int .i64 (1 + q2.1)] 94)) = wd at *
    have eO : Hid (∀ g, u.ownBlock = some g → g < ep) := fun g hg => by have := Oc.within g hg; omega
    clear Pc Rc Oc Cc kc ha hep
    obtain ⟨A, cap, rfl, -⟩ := id (Rd.of_own Od)
    obtain ⟨p0, p1, p2, p3, p4, ps⟩ := Pd.cells
    obtain ⟨d0, d1, ds⟩ := D.cells
    go_loopw [7, 8] (fun tw j wq => ∃ m n : Nat, m ≤ es.length ∧ j = .int .i64 m ∧ tw = .bool (decide ((⟨q3.1, 1 + q2.1⟩ : Edge) ∈ es.take m)) ∧ wq = wd.drewN n) (fun _ j _ => es.length - (intOf j).toNat)
    case atStart => exact ⟨0, 0, Nat.zero_le _, rfl, by simp, rfl⟩
    case round =>
     obtain ⟨m, nd, hm, rfl, rfl, rfl⟩ := hrel
     by_cases hlt : m < es.length
     ·have hltI : (m : Int) < (es.length : Int) := by omega
      have hm0 : (0 : Int) ≤ (m : Int) := by omega
      obtain ⟨g, oo, rfl, hgg, x0, x1⟩ := (Rd.of_own Od).edge hlt
      obtain ⟨z0, z1, z2⟩ : True ∧ True ∧ True := ⟨trivial, trivial, trivial⟩
      have hnx : Hid (∀ t, t = decide ((⟨q3.1, 1 + q2.1⟩ : Edge) ∈ es.take (m + 1)) → Value.bool t = .bool (decide ((⟨q3.1, 1 + q2.1⟩ : Edge) ∈ es.take (m + 1)))) := fun t h => by rw [h]
      cases hd : decide ((⟨q3.1, 1 + q2.1⟩ : Edge) ∈ es.take m)
      ·by_cases e0 : es[m].fr = q3.1
       ·by_cases e1 : es[m].to = 1 + q2.1
        ·have S : Hid (decide ((⟨q3.1, 1 + q2.1⟩ : Edge) ∈ es.take (m + 1)) = true) := by
          refine decide_eq_true ?_
          rw [take_snoc es m hlt]
          refine List.mem_append_right _ (List.mem_singleton.2 ?_)
          cases hx : es[m]
          rw [hx] at e0 e1
          simp only at e0 e1
          rw [e0, e1]
         rw [e0] at x0
         rw [e1] at x1
         clear e0 e1 hd
         go_wp2
         go_quiet (fail)
         go_wp2
         exact ⟨⟨m + 1, _, by omega, by go_num, by rw [S.out], rfl⟩, by simp [intOf]; omega⟩
        ·have S : Hid (decide ((⟨q3.1, 1 + q2.1⟩ : Edge) ∈ es.take (m + 1)) = false) := by
          refine decide_eq_false ?_
          rw [take_snoc es m hlt, List.mem_append, List.mem_singleton]
          rintro (h | h)
          ·exact of_decide_eq_false hd h
          ·rw [← h] at e1; exact e1 rfl
         have e1' : (es[m].to == 1 + q2.1) = false := beq_eq_false_iff_ne.2 e1
         rw [e0] at x0
         clear e0 e1 hd
         go_wp2
         go_quiet (fail)
         go_wp2
         exact ⟨⟨m + 1, _, by omega, by go_num, by rw [S.out], rfl⟩, by simp [intOf]; omega⟩
       ·have S : Hid (decide ((⟨q3.1, 1 + q2.1⟩ : Edge) ∈ es.take (m + 1)) = false) := by
         refine decide_eq_false ?_
         rw [take_snoc es m hlt, List.mem_append, List.mem_singleton]
         rintro (h | h)
         ·exact of_decide_eq_false hd h
         ·rw [← h] at e0; exact e0 rfl
        have e0' : (es[m].fr == q3.1) = false := beq_eq_false_iff_ne.2 e0
        clear e0 hd
        go_wp2
        go_quiet (fail)
        go_wp2
        exact ⟨⟨m + 1, _, by omega, by go_num, by rw [S.out], rfl⟩, by simp [intOf]; omega⟩
      ·have S : Hid (decide ((⟨q3.1, 1 + q2.1⟩ : Edge) ∈ es.take (m + 1)) = true) := by
        refine decide_eq_true ?_
        rw [take_snoc es m hlt]
        exact List.mem_append_left _ (of_decide_eq_true hd)
       clear hd
       go_wp2
       go_quiet (fail)
       go_wp2
       exact ⟨⟨m + 1, _, by omega, by go_num, by rw [S.out], rfl⟩, by simp [intOf]; omega⟩
     ·have hme : m = es.length := by omega
      subst hme
      have hltI : ¬ (es.length : Int) < (es.length : Int) := by omega
      rw [List.take_length]
      have H1' : 10 - k = (9 - k) + 1 := by omega
      have GO : ∀ g, planGo code T (9 - k) (k + 1) (addE es ⟨q3.1, 1 + q2.1⟩) q3.2 = g → planGo code T 10 0 [] r5.2 = g := by
       intro g hg
       rw [← G.out, H1', planGo, if_pos (by rw [Hq1.out]; exact ⟨g1, g2⟩)]
       unfold newE newC newTo
       rw [Hq1.out, Hq2.out, Hq3.out]
       exact hg
      have GO := Lib.hid GO
      cases hd : decide ((⟨q3.1, 1 + q2.1⟩ : Edge) ∈ es)
      ·have S : Hid (addE es ⟨q3.1, 1 + q2.1⟩ = es ++ [⟨q3.1, 1 + q2.1⟩]) := by
        show addE _ _ = _
        unfold addE
        rw [if_neg (of_decide_eq_false hd)]
       clear hd H1'
       have kx := kd.drewN nd
       have Px := Pd.drewN nd
       have Ox := Od.below (bdrewN (Below.refl _ wd) nd)
       have Cx := Cd.drewN nd
       have Rx := Re.drewN nd
       have hzx : ep < (wd.drewN nd).heap.size := ds
       have q0 : (wd.drewN nd).cell? ⟨pb, 4, none⟩ = some (.slice A es.length cap) := p4
       have q1' : (wd.drewN nd).cell? ⟨ep, 0, none⟩ = some (.int .i64 q3.1) := d0
       have q2' : (wd.drewN nd).cell? ⟨ep, 1, none⟩ = some (.int .i64 (1 + q2.1)) := d1
       clear p0 p1 p2 p3 p4 ps d0 d1 ds D Od kd Pd Cd Re eO
       generalize wd.drewN nd = wx at *
       have hax : Below wx.heap.size wx (wx.alloc (.cells #[.int .i64 q3.1, .int .i64 (1 + q2.1)] 94)) := (Below.refl _ _).alloc (Nat.le_refl _) _
       have hne : Hid (some pb ≠ (Value.slice A es.length cap).ownBlock) := fun e => by have := Ox.within pb e.symm; omega
       go_wp2_with (at_builtin; refine wpList_push_all _ edgeE (by decide) rfl (.tmp 66) (.tmp 68) rfl Try.underlying33 hi0 hz0 hz1 hz2 rfl (v := .slice A es.length cap) (l := es) rfl (Ox.below hax) rfl (Rd.one edgeE _ _ ⟨q3.1, 1 + q2.1⟩ rfl rfl 1 (Nat.le_refl _) (Nat.lt_succ_self _)) (by omega) (by simp) (by decide) (by simp; omega) ?_; intro v5 w5 o5 g5 f5; obtain ⟨A5, c5, rfl, -⟩ := id (Rd.of_own o5); have P5 := (Px.below hax).far g5 hne.out; have pf5 := P5.free; have pc5 := P5.cells)
       have hb5 : ∀ g, (Value.slice A es.length cap).ownBlock = some g → pb < g := fun g hg => by have := Ox.within g hg; omega
       have e9 : 9 - k = 10 - (k + 1) := by omega
       refine ⟨⟨k + 1, es ++ [⟨q3.1, 1 + q2.1⟩], _, q3.2, by omega, by go_num, by simp; omega, ((kx.below hax).grownNew g5 (fun g hg => by have := hb5 g hg; omega)).setNew (by show b < pb; omega) _, P5.setEdges _ _, (by have := o5.setLow (a := ⟨pb, 4, none⟩) (Nat.lt_succ_self pb) (.slice A5 (es.length + 1) c5); simp only [List.length_append, List.length_singleton] at this; exact this), ((Cx.belowNew hax).grownNew g5 (fun g hg => by have := hb5 g hg; omega)).setNew (by show w.heap.size ≤ pb; omega), ((Rx.below hax).far g5 (fun e => by have := hb5 _ e.symm; omega)).other (by show w.heap.size ≠ pb; omega) _, ?_⟩, by simp [intOf]; omega⟩
       show planGo code T (10 - (k + 1)) (k + 1) (es ++ [⟨q3.1, 1 + q2.1⟩]) q3.2 = _
       have := GO.out _ rfl
       rw [S.out] at this
       rw [this, e9]
      ·have S : Hid (addE es ⟨q3.1, 1 + q2.1⟩ = es) := by
        show addE _ _ = _
        unfold addE
        rw [if_pos (of_decide_eq_true hd)]
       clear hd H1'
       go_wp2
       refine ⟨⟨k + 1, es, _, q3.2, by omega, by go_num, by omega, kd.drewN _, Pd.drewN _, Od.below (bdrewN (Below.refl _ _) _), Cd.drewN _, Re.drewN _, ?_⟩, by simp [intOf]; omega⟩
       show planGo code T (10 - (k + 1)) (k + 1) es q3.2 = _
       have := GO.out _ rfl
       rw [S.out] at this
       rw [this]
       congr 1
       omega
   ·have GE : Hid (planGo code T 10 0 [] r5.2 = (es, q1.2)) := by
     show planGo code T 10 0 [] r5.2 = (es, q1.2)
     rw [← G.out, show 10 - k = (9 - k) + 1 by omega, planGo, if_neg (by rw [Hq1.out]; exact hgo), Hq1.out]
    have E := Lib.hid (HE.out _ GE.out)
    obtain ⟨A, cap, rfl, -⟩ := id (Rd.of_own Oa)
    clear HE G Hq1 GE hk hes
    have hfin : ∀ W, W = ((((wa.setCell ⟨w.heap.size, 0, none⟩ (.int .i64 r1.1)).setCell ⟨w.heap.size, 1, none⟩ (.int .i64 (1 + r2.1))).setCell ⟨w.heap.size, 2, none⟩ (.int .i64 (1 + r3.1))).setCell ⟨w.heap.size, 3, none⟩ (.int .i64 T)).setCell ⟨w.heap.size, 4, none⟩ (.slice A es.length cap) →
      PlanP b v code (curPlan code c) w (.returned (planV ⟨r1.1, 1 + r2.1, 1 + r3.1, T, es⟩ (.slice A es.length cap))) W := by
     rintro W rfl
     rw [E.out]
     have hO : ∀ {W : World}, Ow edgeE 94 W (pb + 1) (.slice A es.length cap) es → ∀ j u', Ow edgeE 94 (W.setCell ⟨w.heap.size, j, none⟩ u') (pb + 1) (.slice A es.length cap) es := fun h j u' => h.setLow (a := ⟨w.heap.size, j, none⟩) (Nat.lt_succ_of_lt R4s) _
     refine ⟨_, rfl, (hO (hO (hO (hO (hO Oa 0 _) 1 _) 2 _) 3 _) 4 _).more (by omega), ?_, ?_⟩
     ·repeat (first | exact ka | refine Drw.setNew ?_ (by simp; omega) _)
     ·repeat (first | exact Ca | refine Chg.setNew ?_ (by simp))
    by_cases g1 : (k : Int) < q1.1
    ·have g2 : ¬ 1 < T := fun h => hgo ⟨g1, h⟩
     clear hgo
     go_wp2
     refine bodyPost_ret (v := planV ⟨r1.1, 1 + r2.1, 1 + r3.1, T, es⟩ (.slice A es.length cap)) ?_ rfl (hfin _ rfl)
     simp [planV, results, Try.results41, go_sem, *]
    ·clear hgo
     go_wp2
     refine bodyPost_ret (v := planV ⟨r1.1, 1 + r2.1, 1 + r3.1, T, es⟩ (.slice A es.length cap)) ?_ rfl (hfin _ rfl)
     simp [planV, results, Try.results41, go_sem, *]
end Go.Proofs.Ytonlnjdempbfoaa
end
section
namespace Go.Proofs.Ytonlnjdempbfoaa
open Go.RowKit
def clash (s o : Slot) : Bool := (s.worker == o.worker && decide (s.fr < o.to)) && decide (o.fr < s.to)
def slotOk1 (T : Int) (l : List Int) (many : Int) (prev : List Slot) (s : Slot) : Bool :=
 inB s.task 0 (T - 1) && !(prev.any fun x => x.task == s.task) && inB s.fr 0 1000000000 && (s.to == s.fr + l.getD s.task.toNat 0) && inB s.worker 0 (many - 1) && prev.all fun o => !clash s o
/-- the first k slots fit -/
def slsOk (T : Int) (l : List Int) (many : Int) (s : List Slot) (k : Nat) : Prop := ∀ j (h : j < s.length), j < k → slotOk1 T l many (s.take j) s[j] = true
theorem slotOk1_parts {T : Int} {l : List Int} {many : Int} {prev : List Slot} {s : Slot} (h : slotOk1 T l many prev s = true) :
  (0 ≤ s.task ∧ s.task ≤ T - 1) ∧ (∀ x ∈ prev, x.task ≠ s.task) ∧ (0 ≤ s.fr ∧ s.fr ≤ 1000000000) ∧ s.to = s.fr + l.getD s.task.toNat 0 ∧ (0 ≤ s.worker ∧ s.worker ≤ many - 1) ∧ ∀ o ∈ prev, clash s o = false := by
 simp only [slotOk1, Bool.and_eq_true, inB_iff, Bool.not_eq_true', List.any_eq_false, List.all_eq_true, beq_iff_eq] at h
 obtain ⟨⟨⟨⟨⟨h1, h2⟩, h3⟩, h4⟩, h5⟩, h6⟩ := h
 exact ⟨h1, h2, h3, h4, h5, h6⟩
theorem slotOk1_mk {T : Int} {l : List Int} {many : Int} {prev : List Slot} {s : Slot} (h1 : 0 ≤ s.task ∧ s.task ≤ T - 1) (h2 : ∀ x ∈ prev, x.task ≠ s.task) (h3 : 0 ≤ s.fr ∧ s.fr ≤ 1000000000) (h4 : s.to = s.fr + l.getD s.task.toNat 0)
  (h5 : 0 ≤ s.worker ∧ s.worker ≤ many - 1) (h6 : ∀ o ∈ prev, clash s o = false) : slotOk1 T l many prev s = true := by
 simp only [slotOk1, Bool.and_eq_true, inB_iff, Bool.not_eq_true', List.any_eq_false, List.all_eq_true, beq_iff_eq]
 exact ⟨⟨⟨⟨⟨h1, h2⟩, h3⟩, h4⟩, h5⟩, h6⟩
/-! the tables that the two make -/
/-- as many slots as tasks, no task twice: each task has one -/
theorem all_met {T : Int} {l : List Int} {many : Int} {s : List Slot} (h : slsOk T l many s s.length) (hT : (s.length : Int) = T) (t : Int) (h0 : 0 ≤ t) (h1 : t < T) : ∃ x ∈ s, x.task = t := by
 have hp : ∀ j (hj : j < s.length), (0 ≤ s[j].task ∧ s[j].task ≤ T - 1) ∧ ∀ x ∈ s.take j, x.task ≠ s[j].task := fun j hj => by
  have := slotOk1_parts (h j hj hj)
  exact ⟨this.1, this.2.1⟩
 have hall : ∀ x ∈ s, 0 ≤ x.task ∧ x.task ≤ T - 1 := fun x hx => by
  obtain ⟨j, hj, rfl⟩ := List.getElem_of_mem hx
  exact (hp j hj).1
 apply Classical.byContradiction
 intro hno
 have hnd : (t.toNat :: s.map fun x => x.task.toNat).Nodup := by
  rw [List.nodup_cons]
  constructor
  ·intro hm
   obtain ⟨x, hx, he⟩ := List.mem_map.1 hm
   have := hall x hx
   exact hno ⟨x, hx, by omega⟩
  ·rw [List.nodup_iff_pairwise_ne, List.pairwise_map, List.pairwise_iff_getElem]
   intro i j hi hj hij he
   have h2 := (hp j hj).2 s[i] (by
    rw [List.mem_take_iff_getElem]
    exact ⟨i, by omega, rfl⟩)
   have h3 := hall _ (List.getElem_mem hi)
   have h4 := hall _ (List.getElem_mem hj)
   exact h2 (by omega)
 have := Pg.nodup_le T.toNat _ hnd (by
  intro x hx
  rcases List.mem_cons.1 hx with rfl | hx
  ·omega
  ·obtain ⟨y, hy, rfl⟩ := List.mem_map.1 hx
   have := hall y hy
   omega)
 simp at this
 omega
end Go.Proofs.Ytonlnjdempbfoaa
end
section
namespace Go.Proofs.Ytonlnjdempbfoaa
open Go.ChangeShapes Go.WideShapes Go.ChangeAt Go.RowKit Go.Deep
set_option maxRecDepth 100000
section
variable {H : Type} {enc : TypeId × Value → H} {w : World} {spare : Nat → Bool} {held : Bool} {fuel : Nat} {cs : List Value} {x : DataW H × List MemPlace}
theorem u8_of {a : Int} (h : (Lit.int .u8 a).wf = true) : 0 ≤ a ∧ a ≤ 255 := by
 simp [Lit.wf, IntKind.min, IntKind.max, IntKind.signed, IntKind.bits] at h
 exact ⟨by omega, by omega⟩
theorem read_byteS (h : DataW.trod enc Try.prog w 0 spare held fuel 22 cs = some x) : ∃ (v : Value) (l : List UInt8), cs = [v] ∧ Rd byteE w w.heap.size v l ∧ l.length ≤ maxLen := by
 obtain ⟨v, l, h1, h2, _, h3⟩ := read_slice byteE (fun _ => True) Try.underlying22 (by kernel_rfl) (by decide) (fun n cs' y hy => by
  obtain ⟨a0, e0, _, hw⟩ := DataW.trod_int Try.underlying5 hy
  have hb := u8_of hw
  refine ⟨UInt8.ofNat a0.toNat, ?_, trivial⟩
  rw [e0]
  have : ((UInt8.ofNat a0.toNat).toNat : Int) = a0 := by
   rw [UInt8.toNat_ofNat']
   omega
  show [Value.int .u8 a0] = [Value.int .u8 ((UInt8.ofNat a0.toNat).toNat : Int)]
  rw [this]) h
 exact ⟨v, l, h1, h2, h3⟩
end
end Go.Proofs.Ytonlnjdempbfoaa
end
section
namespace Go.Proofs.Ytonlnjdempbfoaa
open Go.RowKit
set_option maxRecDepth 100000
set_option maxHeartbeats 1000000
set_option linter.unusedVariables false
set_option linter.unusedSimpArgs false
def hasId (id : Int) (r : Run) : Bool := r.id == id
def runAt (y : Yard) (id : Int) : Int := if y.runs.length ≤ 8 then idxOf (hasId id) y.runs else -1
theorem runAt_big {y : Yard} {id : Int} (h : ¬ y.runs.length ≤ 8) : runAt y id = -1 := by unfold runAt; rw [if_neg h]
theorem runAt_idx {y : Yard} {id : Int} (h : y.runs.length ≤ 8) : runAt y id = idxOf (hasId id) y.runs := by unfold runAt; rw [if_pos h]
theorem idxOf_range {α : Type} (p : α → Bool) (l : List α) : idxOf p l = -1 ∨ ∃ k : Nat, k < l.length ∧ idxOf p l = k := by
 unfold idxOf
 cases h : l.findIdx? p with
 | none => exact .inl rfl
 | some i => exact .inr ⟨i, (List.findIdx?_eq_some_iff_getElem.1 h).1, rfl⟩
theorem runAt_range (y : Yard) (id : Int) : runAt y id = -1 ∨ ∃ k : Nat, k < y.runs.length ∧ runAt y id = k := by
 by_cases h : y.runs.length ≤ 8
 ·rw [runAt_idx h]; exact idxOf_range _ _
 ·exact .inl (runAt_big h)
theorem specRunAt_own (y : Yard) (s : Sl × Sl) (id : Int) (w : World) (hl : cntYard y ≤ 2000000) (h : yardD.rd w w.heap.size y s) :
  Calls Try.prog 62 #[yardW y s, .int .i64 id] w fun e w' => e = .returned (.int .i64 (runAt y id)) ∧ Below w.heap.size w w' := by
 obtain ⟨s1, ⟨A, n, c⟩⟩ := s
 have h1 : RdL runD w w.heap.size (Sl.v ⟨A, n, c⟩) y.runs := h.2
 obtain ⟨A', c', hv, -⟩ := h1.form
 simp only [Sl.v, Value.slice.injEq] at hv
 obtain ⟨rfl, rfl, rfl⟩ := hv
 have hll : y.runs.length ≤ 2000000 := Nat.le_trans (cntL_len cntRun _) (by unfold cntYard at hl; omega)
 have D := DBox.new 61 [.int .i64 y.now, .int .i64 y.seq, .slice (s1, (⟨A, y.runs.length, c⟩ : Sl)).1.a (s1, (⟨A, y.runs.length, c⟩ : Sl)).1.n (s1, (⟨A, y.runs.length, c⟩ : Sl)).1.c, .slice (s1, (⟨A, y.runs.length, c⟩ : Sl)).2.a (s1, (⟨A, y.runs.length, c⟩ : Sl)).2.n (s1, (⟨A, y.runs.length, c⟩ : Sl)).2.c] w rfl
 have hb0 : Below w.heap.size w (w.alloc (.cells #[.int .i64 y.now, .int .i64 y.seq, .slice (s1, (⟨A, y.runs.length, c⟩ : Sl)).1.a (s1, (⟨A, y.runs.length, c⟩ : Sl)).1.n (s1, (⟨A, y.runs.length, c⟩ : Sl)).1.c, .slice (s1, (⟨A, y.runs.length, c⟩ : Sl)).2.a (s1, (⟨A, y.runs.length, c⟩ : Sl)).2.n (s1, (⟨A, y.runs.length, c⟩ : Sl)).2.c] 61)) := (Below.refl _ _).alloc (Nat.le_refl _) _
 go_enter Try.func62, Try.ntmps62
 go_wp2_with fail
 generalize (w.alloc (.cells #[.int .i64 y.now, .int .i64 y.seq, .slice (s1, (⟨A, y.runs.length, c⟩ : Sl)).1.a (s1, (⟨A, y.runs.length, c⟩ : Sl)).1.n (s1, (⟨A, y.runs.length, c⟩ : Sl)).1.c, .slice (s1, (⟨A, y.runs.length, c⟩ : Sl)).2.a (s1, (⟨A, y.runs.length, c⟩ : Sl)).2.n (s1, (⟨A, y.runs.length, c⟩ : Sl)).2.c] 61)) = W at *
 have k3 : W.cell? ⟨w.heap.size, 3, none⟩ = some (.slice A y.runs.length c) := D.cell 3 _ rfl
 have h2 := h1.below hb0
 go_wp2
 go_loop [5] (fun i => ∃ k : Nat, k ≤ y.runs.length ∧ i = .int .i64 k ∧ Hid (∀ j (hj : j < y.runs.length), j < k → hasId id y.runs[j] = false)) (fun i => y.runs.length - (intOf i).toNat)
 case atStart => exact ⟨0, Nat.zero_le _, rfl, fun j hj h0 => absurd h0 (by omega)⟩
 case round =>
  obtain ⟨k, hk, rfl, hno⟩ := hrel
  by_cases h8 : y.runs.length ≤ 8
  ·by_cases hlt : k < y.runs.length
   ·obtain ⟨b, o, s', rfl, hbb, hr, c0, -⟩ := h2.run hlt
    have hltI : (k : Int) < (y.runs.length : Int) := by omega
    cases hp : hasId id y.runs[k]
    ·have t0 : (y.runs[k].id == id) = false := hp
     have S : Hid (∀ j (hj : j < y.runs.length), j < k + 1 → hasId id y.runs[j] = false) := by
      intro j hj h0
      by_cases e : j = k
      ·subst e; exact hp
      ·exact hno.out j hj (by omega)
     clear hp
     go_wp2
     exact ⟨⟨k + 1, by omega, by go_num, S⟩, by simp [intOf]; omega⟩
    ·have t0 : (y.runs[k].id == id) = true := hp
     have H := Lib.hid (show runAt y id = k by rw [runAt_idx h8]; exact idxOf_found hlt (fun j hj => hno.out j (by omega) hj) hp)
     clear hp
     go_wp2
     go_ret
     exact ⟨ret_int H.out.symm, hb0⟩
   ·have H := Lib.hid (show runAt y id = -1 by rw [runAt_idx h8]; exact idxOf_none (fun j hj => hno.out j hj (by omega)))
    have hltI : ¬ ((k : Int) < (y.runs.length : Int)) := by omega
    go_wp2
    go_ret
    exact ⟨ret_int H.out.symm, hb0⟩
  ·have H := Lib.hid (runAt_big (id := id) h8)
   by_cases hlt : k < y.runs.length
   ·have hltI : (k : Int) < (y.runs.length : Int) := by omega
    go_wp2
    go_ret
    exact ⟨ret_int H.out.symm, hb0⟩
   ·have hltI : ¬ ((k : Int) < (y.runs.length : Int)) := by omega
    go_wp2
    go_ret
    exact ⟨ret_int H.out.symm, hb0⟩
end Go.Proofs.Ytonlnjdempbfoaa
end
section
namespace Go.Proofs.Ytonlnjdempbfoaa
open Go.RowKit
set_option maxRecDepth 100000
set_option maxHeartbeats 1000000
set_option linter.unusedVariables false
set_option linter.unusedSimpArgs false
structure Seg where
 fr : Int
 notes : List Note
deriving DecidableEq, Inhabited
@[go_sem] abbrev segW (x : Seg) (s : Sl) : Value := .agg #[.int .i64 x.fr, .slice s.a s.n s.c]
abbrev segD : Dt Seg := Dt.via (Dt.list noteD) (·.notes) (fun q => [.int .i64 q.1.fr, .slice q.2.a q.2.n q.2.c]) 2 (fun _ => rfl) (fun q u hu => by simp at hu; rcases hu with rfl | rfl <;> rfl)
/-- all lengths in it together -/
def cntSeg (x : Seg) : Nat := cntL cntNote x.notes
theorem RdL.seg {w : World} {B : Nat} {A : Option Addr} {n c : Nat} {l : List (Seg)} (h : RdL segD w B (.slice A n c) l) {k : Nat} (hk : k < l.length) :
  ∃ b o, ∃ s : Sl, A = some ⟨b, o, none⟩ ∧ b < B ∧ segD.rd w B l[k] s ∧ w.cell? ⟨b, o + k * 2, none⟩ = some (.int .i64 l[k].fr) ∧ w.cell? ⟨b, o + k * 2 + 1, none⟩ = some (.slice s.a s.n s.c) := by
 obtain ⟨b, o, s, rfl, hb, hc, hr⟩ := h.at_ k hk
 exact ⟨b, o, s, rfl, hb, hr, hc 0 _ rfl, hc 1 _ rfl⟩
theorem Foc.seg {w : World} {b o n c j : Nat} {rs : List ((Seg) × Sl)} {G1 Fx G2 : List Nat} {x : Seg} {s : Sl} (h : Foc segD w b o n c rs j G1 Fx G2 x s) :
  w.cell? ⟨b, o + j * 2, none⟩ = some (.int .i64 x.fr) ∧ w.cell? ⟨b, o + j * 2 + 1, none⟩ = some (.slice s.a s.n s.c) := ⟨h.cells 0 _ rfl, h.cells 1 _ rfl⟩
theorem seg_infoD : (Try.prog.info? 51).map (fun i => (i.zero, i.size, i.bytes)) = some (some (.agg #[.int .i64 0, .slice none 0 0]), 2, 32) := by kernel_rfl
end Go.Proofs.Ytonlnjdempbfoaa
end
section
namespace Go.Proofs.Ytonlnjdempbfoaa
open Go.RowKit
set_option maxRecDepth 100000
set_option maxHeartbeats 2000000
set_option linter.unusedVariables false
set_option linter.unusedSimpArgs false
theorem xor_i64 (a b : Nat) (ha : a < 9223372036854775808) (hb : b < 9223372036854775808) : bits .xor .i64 (a : Int) (b : Int) = ((a ^^^ b : Nat) : Int) := by
 have hx : a ^^^ b < 2 ^ 63 := Nat.xor_lt_two_pow (by omega) (by omega)
 have h1 : (BitVec.ofInt 64 (a : Int)).toNat = a := by
  rw [BitVec.ofInt_natCast, BitVec.toNat_ofNat]; exact Nat.mod_eq_of_lt (by omega)
 have h2 : (BitVec.ofInt 64 (b : Int)).toNat = b := by
  rw [BitVec.ofInt_natCast, BitVec.toNat_ofNat]; exact Nat.mod_eq_of_lt (by omega)
 show IntKind.i64.wrap ((BitVec.ofInt 64 (a : Int) ^^^ BitVec.ofInt 64 (b : Int)).toNat : Int) = _
 rw [BitVec.toNat_xor, h1, h2, IntKind.wrap_i64]
 generalize a ^^^ b = y at *
 have hy : y < 9223372036854775808 := hx
 clear h1 h2 hx
 rw [Int.emod_eq_of_lt (by omega) (by omega), Int.add_sub_cancel]
def crcStep (x : Nat) : Nat := if x % 2 = 1 then (x / 2) ^^^ 3988292384 else x / 2
def crcSteps : Nat → Nat → Nat
 | 0, x => x
 | k + 1, x => crcStep (crcSteps k x)
def crcByte (x : Nat) (b : UInt8) : Nat := crcSteps 8 (x ^^^ b.toNat)
def sumOf (l : List UInt8) : Int := ((l.foldl crcByte 4294967295 ^^^ 4294967295 : Nat) : Int)
theorem crcStep_lt {x : Nat} (h : x < 4294967296) : crcStep x < 4294967296 := by
 unfold crcStep
 split
 ·exact Nat.xor_lt_two_pow (n := 32) (by omega) (by omega)
 ·omega
theorem crcSteps_lt (k : Nat) {x : Nat} (h : x < 4294967296) : crcSteps k x < 4294967296 := by
 induction k with
 | zero => exact h
 | succ k ih => exact crcStep_lt ih
theorem crcByte_lt {x : Nat} (h : x < 4294967296) (b : UInt8) : crcByte x b < 4294967296 := by
 have hb : b.toNat < 256 := b.toNat_lt
 exact crcSteps_lt 8 (Nat.xor_lt_two_pow (n := 32) h (by omega))
theorem crcFold_lt (l : List UInt8) : ∀ {x : Nat}, x < 4294967296 → l.foldl crcByte x < 4294967296 := by
 induction l with
 | nil => intro x h; exact h
 | cons b l ih => intro x h; exact ih (crcByte_lt h b)
theorem sumOf_bd (l : List UInt8) : 0 ≤ sumOf l ∧ sumOf l ≤ 4294967295 := by
 have h : l.foldl crcByte 4294967295 ^^^ 4294967295 < 4294967296 := Nat.xor_lt_two_pow (n := 32) (crcFold_lt l (by omega)) (by omega)
 unfold sumOf
 omega
theorem specSumOf_any (l : List UInt8) (w : World) (hl : l.length ≤ 2000000) :
  Calls Try.prog 98 #[strV l] w fun e w' => e = .returned (.int .i64 (sumOf l)) ∧ Below w.heap.size w w' := by
 have hsz : (⟨l.toArray⟩ : ByteArray).size = l.length := by simp [ByteArray.size]
 go_enter Try.func98, Try.ntmps98
 go_wp2
 go_loopw [3, 4] (fun s i wr => ∃ (x k : Nat), k ≤ l.length ∧ x < 4294967296 ∧ s = .int .i64 x ∧ i = .int .i64 k ∧ Hid ((l.take k).foldl crcByte 4294967295 = x) ∧ Below w.heap.size w wr) (fun _ i _ => l.length - (intOf i).toNat)
 case atStart => exact ⟨4294967295, 0, Nat.zero_le _, by decide, rfl, rfl, by rw [List.take_zero]; rfl, Below.refl _ _⟩
 case round =>
  obtain ⟨x, k, hk, hx, rfl, rfl, hF, hb⟩ := hrel
  by_cases hlt : k < l.length
  ·have hltI : (k : Int) < (l.length : Int) := by omega
   have hc : l[k].toNat < 256 := l[k].toNat_lt
   have ex := xor_i64 x l[k].toNat (by omega) (by omega)
   have hX0 : x ^^^ l[k].toNat < 4294967296 := Nat.xor_lt_two_pow (n := 32) hx (by omega)
   have hex : bits .xor .i64 (x : Int) (wrap64 (((⟨l.toArray⟩ : ByteArray)[k]'(by rw [hsz]; exact hlt)).toNat : Int)) = ((x ^^^ l[k].toNat : Nat) : Int) := by
    rw [← ex]
    congr 1
    show wrap64 (l[k].toNat : Int) = _
    generalize l[k].toNat = q at *
    unfold wrap64
    omega
   have HF := Lib.hid (show (l.take (k + 1)).foldl crcByte 4294967295 = crcSteps 8 (x ^^^ l[k].toNat) by
    rw [List.take_succ_eq_append_getElem hlt, List.foldl_append, hF.out]
    rfl)
   clear hF
   go_wp2
   generalize x ^^^ l[k].toNat = z at *
   go_loopw [3, 5] (fun s q wr => ∃ (y j : Nat), j ≤ 8 ∧ y < 4294967296 ∧ s = .int .i64 y ∧ q = .int .i64 j ∧ Hid (crcSteps j z = y) ∧ Below w.heap.size w wr) (fun _ q _ => 8 - (intOf q).toNat)
   case atStart => exact ⟨z, 0, by omega, hX0, by first | rfl | rw [hex], rfl, rfl, hb⟩
   case round =>
    clear hb
    obtain ⟨y, j, hj, hy, rfl, rfl, hC, hb⟩ := hrel
    by_cases hj8 : j < 8
    ·have hj8I : (j : Int) < 8 := by omega
     have eo : bits .xor .i64 ((y : Int) / 2) 3988292384 = ((y / 2 ^^^ 3988292384 : Nat) : Int) := by
      have := xor_i64 (y / 2) 3988292384 (by omega) (by omega)
      rw [← this]
      congr 1 <;> omega
     have hlt2 : y / 2 ^^^ 3988292384 < 4294967296 := Nat.xor_lt_two_pow (n := 32) (by omega) (by omega)
     by_cases ho : y % 2 = 1
     ·have hoI : (y : Int) % 2 = 1 := by omega
      have HC := Lib.hid (show crcSteps (j + 1) z = y / 2 ^^^ 3988292384 by
       show crcStep (crcSteps j z) = _
       rw [hC.out]
       unfold crcStep
       rw [if_pos ho])
      clear ho hC
      go_wp2
      exact ⟨⟨_, j + 1, by omega, hlt2, rfl, by go_num, HC, hb⟩, by simp [intOf]; omega⟩
     ·have hoI : (y : Int) % 2 = 0 := by omega
      have HC := Lib.hid (show crcSteps (j + 1) z = y / 2 by
       show crcStep (crcSteps j z) = _
       rw [hC.out]
       unfold crcStep
       rw [if_neg ho])
      clear ho hC
      go_wp2
      exact ⟨⟨y / 2, j + 1, by omega, by omega, by go_num, by go_num, HC, hb⟩, by simp [intOf]; omega⟩
    ·have HE := Lib.hid (show (l.take (k + 1)).foldl crcByte 4294967295 = y by
      rw [HF.out, ← hC.out, show j = 8 by omega])
     have hj8I : ¬ (j : Int) < 8 := by omega
     clear hC HF
     go_wp2
     exact ⟨⟨y, k + 1, by omega, hy, rfl, by go_num, HE, hb⟩, by simp [intOf]; omega⟩
  ·have H := Lib.hid (show sumOf l = ((x ^^^ 4294967295 : Nat) : Int) by
    have := hF.out
    rw [List.take_of_length_le (by omega)] at this
    unfold sumOf
    rw [this])
   have ex : bits .xor .i64 (x : Int) 4294967295 = ((x ^^^ 4294967295 : Nat) : Int) := xor_i64 x 4294967295 (by omega) (by omega)
   go_wp2
   go_ret
   exact ⟨by rw [H.out]; rfl, hb⟩
end Go.Proofs.Ytonlnjdempbfoaa
end
section
namespace Go.Proofs.Ytonlnjdempbfoaa
open Go.RowKit
set_option linter.unusedVariables false
structure Sst where
 out : List Slot
 ends : List Int
 busy : List Int
/-- t was not taken and all that it waits for has ended -/
def beforeOk (ends : List Int) (now : Int) (s : Nat) : Bool := decide (0 ≤ ends.getD s 0) && decide (ends.getD s 0 ≤ now)
def mayStart (es : List (Nat × Nat)) (T : Nat) (ends : List Int) (now : Int) (t : Nat) : Bool := decide (ends.getD t 0 < 0) && (beforeL es T t).all (beforeOk ends now)
def nextT (es : List (Nat × Nat)) (T : Nat) (ends : List Int) (now : Int) : Option Nat := (List.range T).find? (mayStart es T ends now)
def sTake (l : List Int) (now : Int) (st : Sst) (k t : Nat) : Sst := ⟨st.out ++ [⟨(t : Int), (k : Int), now, now + l.getD t 0⟩], st.ends.set t (now + l.getD t 0), st.busy.set k (now + l.getD t 0)⟩
def sStep (es : List (Nat × Nat)) (T : Nat) (l : List Int) (now : Int) (st : Sst) (k : Nat) : Sst :=
 if now < st.busy.getD k 0 then st else match nextT es T st.ends now with
  | none => st
  | some t => sTake l now st k t
def sPart (es : List (Nat × Nat)) (T : Nat) (l : List Int) (now : Int) (st : Sst) : Nat → Sst
 | 0 => st
 | k + 1 => sStep es T l now (sPart es T l now st k) k
def nextI (now : Int) (L : List Int) : Int := L.foldl (fun n x => if now < x ∧ (n = 0 ∨ x < n) then x else n) 0
def nextS (now : Int) (L : List Int) : Int := L.foldl (fun n x => if now < x ∧ (n < 0 ∨ x < n) then x else n) (-1)
def sStart (T m : Nat) : Sst := ⟨[], List.replicate T (-1), List.replicate m 0⟩
theorem nextT_some {es : List (Nat × Nat)} {T : Nat} {ends : List Int} {now : Int} {t : Nat} (h : nextT es T ends now = some t) : t < T ∧ mayStart es T ends now t = true := by
 have hm := List.find?_some h
 have hr := List.mem_of_find?_eq_some h
 exact ⟨by simpa using hr, hm⟩
theorem sStep_busy {es : List (Nat × Nat)} {T : Nat} {l : List Int} {now : Int} {st : Sst} {k : Nat} (h : now < st.busy.getD k 0) : sStep es T l now st k = st := by rw [sStep, if_pos h]
theorem sStep_none {es : List (Nat × Nat)} {T : Nat} {l : List Int} {now : Int} {st : Sst} {k : Nat} (h : nextT es T st.ends now = none) : sStep es T l now st k = st := by
 rw [sStep, h]
 split <;> rfl
theorem sStep_some {es : List (Nat × Nat)} {T : Nat} {l : List Int} {now : Int} {st : Sst} {k t : Nat} (hb : ¬ now < st.busy.getD k 0) (h : nextT es T st.ends now = some t) : sStep es T l now st k = sTake l now st k t := by
 rw [sStep, if_neg hb, h]
theorem setD {α : Type} (L : List α) (i j : Nat) (x d : α) (h : i < L.length) : (L.set i x).getD j d = if i = j then x else L.getD j d := by
 rw [List.getD_eq_getElem?_getD, List.getElem?_set, List.getD_eq_getElem?_getD]
 by_cases e : i = j
 ·subst e; simp [h]
 ·simp [e]
theorem getD_at {α : Type} {L : List α} {i : Nat} (h : i < L.length) (d : α) : L.getD i d = L[i] := by simp [List.getD_eq_getElem?_getD, h]
theorem getD_mem {α : Type} {L : List α} {i : Nat} (h : i < L.length) (d : α) : L.getD i d ∈ L := by rw [getD_at h]; exact List.getElem_mem h
/-- the plan's graph and weights are right -/
structure SOk (es : List (Nat × Nat)) (T : Nat) (l : List Int) (m : Nat) : Prop where
 lt1 : ∀ e ∈ es, e.1 < T
 lt2 : ∀ e ∈ es, e.2 < T
 ac : ∀ t, t < T → ¬ Pg.Reach es t t
 T12 : T ≤ 12
 len : l.length = T
 wt : ∀ x ∈ l, 1 ≤ x ∧ x ≤ 1000
 m1 : 1 ≤ m
 m8 : m ≤ 8
theorem SOk.w {es : List (Nat × Nat)} {T : Nat} {l : List Int} {m : Nat} (h : SOk es T l m) {t : Nat} (ht : t < T) : 1 ≤ l.getD t 0 ∧ l.getD t 0 ≤ 1000 := h.wt _ (getD_mem (by rw [h.len]; exact ht) 0)
/-- what holds at each step -/
structure SInv (es : List (Nat × Nat)) (T : Nat) (l : List Int) (m : Nat) (now : Int) (st : Sst) : Prop where
 le : st.ends.length = T
 lb : st.busy.length = m
 now0 : 0 ≤ now
 nowL : now ≤ 1000 * st.out.length
 busyL : ∀ k, k < m → 0 ≤ st.busy.getD k 0 ∧ st.busy.getD k 0 ≤ 1000 * st.out.length
 endsL : ∀ t, t < T → -1 ≤ st.ends.getD t 0 ∧ st.ends.getD t 0 ≤ 1000 * st.out.length
 fit : slsOk T l m st.out st.out.length
 ended : ∀ x ∈ st.out, st.ends.getD x.task.toNat 0 = x.to
 begun : ∀ t, t < T → 0 ≤ st.ends.getD t 0 → ∃ x ∈ st.out, x.task = t
 byWho : ∀ x ∈ st.out, x.to ≤ st.busy.getD x.worker.toNat 0 ∧ x.fr ≤ now
 ahead : ∀ e ∈ es, ∀ y ∈ st.out, y.task = (e.2 : Int) → ∃ x ∈ st.out, x.task = (e.1 : Int) ∧ x.to ≤ y.fr
 b2e : ∀ k, k < m → now < st.busy.getD k 0 → ∃ t, t < T ∧ st.ends.getD t 0 = st.busy.getD k 0
 e2b : ∀ t, t < T → now < st.ends.getD t 0 → ∃ k, k < m ∧ st.busy.getD k 0 = st.ends.getD t 0
section
variable {es : List (Nat × Nat)} {T : Nat} {l : List Int} {m : Nat} {now : Int} {st : Sst}
theorem SInv.parts (h : SInv es T l m now st) {x : Slot} (hx : x ∈ st.out) : (0 ≤ x.task ∧ x.task < T) ∧ (0 ≤ x.fr ∧ x.fr ≤ 1000000000) ∧ x.to = x.fr + l.getD x.task.toNat 0 ∧ (0 ≤ x.worker ∧ x.worker < m) := by
 obtain ⟨j, hj, rfl⟩ := List.getElem_of_mem hx
 obtain ⟨h1, _, h3, h4, h5, _⟩ := slotOk1_parts (h.fit j hj hj)
 exact ⟨by omega, h3, h4, by omega⟩
theorem SInv.short (h : SInv es T l m now st) : st.out.length ≤ T := by
 have hp : ∀ j (hj : j < st.out.length), ∀ x ∈ st.out.take j, x.task ≠ st.out[j].task := fun j hj => (slotOk1_parts (h.fit j hj hj)).2.1
 have hnd : (st.out.map fun x => x.task.toNat).Nodup := by
  rw [List.nodup_iff_pairwise_ne, List.pairwise_map, List.pairwise_iff_getElem]
  intro i j hi hj hij he
  have h2 := hp j hj st.out[i] (by
   rw [List.mem_take_iff_getElem]
   exact ⟨i, by omega, rfl⟩)
  have h3 := h.parts (List.getElem_mem hi)
  have h4 := h.parts (List.getElem_mem hj)
  exact h2 (by omega)
 have := Pg.nodup_le T _ hnd (by
  intro x hx
  obtain ⟨y, hy, rfl⟩ := List.mem_map.1 hx
  have := h.parts hy
  omega)
 simpa using this
theorem SInv.start (ho : SOk es T l m) : SInv es T l m 0 (sStart T m) := by
 have hb : ∀ k, (List.replicate m (0 : Int)).getD k 0 = 0 := fun k => by
  rw [List.getD_eq_getElem?_getD, List.getElem?_replicate]
  split <;> rfl
 have he : ∀ t, t < T → (List.replicate T (-1 : Int)).getD t 0 = -1 := fun t ht => by
  rw [List.getD_eq_getElem?_getD, List.getElem?_replicate, if_pos ht]
  rfl
 refine ⟨by simp [sStart], by simp [sStart], by omega, by simp [sStart], ?_, ?_, fun j hj => absurd hj (by simp [sStart]), ?_, ?_, ?_, ?_, ?_, ?_⟩
 ·intro k _
  show 0 ≤ (List.replicate m (0 : Int)).getD k 0 ∧ (List.replicate m (0 : Int)).getD k 0 ≤ _
  rw [hb]; simp [sStart]
 ·intro t ht
  show -1 ≤ (List.replicate T (-1 : Int)).getD t 0 ∧ (List.replicate T (-1 : Int)).getD t 0 ≤ _
  rw [he t ht]; simp [sStart]
 ·intro x hx; simp [sStart] at hx
 ·intro t ht h
  change 0 ≤ (List.replicate T (-1 : Int)).getD t 0 at h
  rw [he t ht] at h; omega
 ·intro x hx; simp [sStart] at hx
 ·intro e _ y hy; simp [sStart] at hy
 ·intro k _ h
  change 0 < (List.replicate m (0 : Int)).getD k 0 at h
  rw [hb] at h; omega
 ·intro t ht h
  change 0 < (List.replicate T (-1 : Int)).getD t 0 at h
  rw [he t ht] at h; omega
theorem mayStart_iff (ho : ∀ e ∈ es, e.1 < T) {ends : List Int} {t : Nat} : mayStart es T ends now t = true ↔ ends.getD t 0 < 0 ∧ ∀ s, (s, t) ∈ es → 0 ≤ ends.getD s 0 ∧ ends.getD s 0 ≤ now := by
 unfold mayStart beforeOk beforeL
 simp only [Bool.and_eq_true, decide_eq_true_eq, List.all_eq_true, List.mem_filter, List.mem_range, and_imp]
 exact ⟨fun h => ⟨h.1, fun s hs => h.2 s (ho _ hs) hs⟩, fun h => ⟨h.1, fun s _ hs => h.2 s hs⟩⟩
theorem SInv.take (ho : SOk es T l m) (h : SInv es T l m now st) {k t : Nat} (hk : k < m) (hb : ¬ now < st.busy.getD k 0) (hn : nextT es T st.ends now = some t) (h12 : st.out.length < T) : SInv es T l m now (sTake l now st k t) := by
 obtain ⟨htT, hm⟩ := nextT_some hn
 obtain ⟨h0, hpre⟩ := (mayStart_iff ho.lt1).1 hm
 have hw := ho.w htT
 have hs := h.short
 have hT := ho.T12
 have hnl := h.nowL
 have hn0 := h.now0
 have hlen : (sTake l now st k t).out.length = st.out.length + 1 := by simp [sTake]
 have hE : ∀ s, (sTake l now st k t).ends.getD s 0 = if t = s then now + l.getD t 0 else st.ends.getD s 0 := fun s => setD _ _ _ _ _ (by rw [h.le]; exact htT)
 have hB : ∀ s, (sTake l now st k t).busy.getD s 0 = if k = s then now + l.getD t 0 else st.busy.getD s 0 := fun s => setD _ _ _ _ _ (by rw [h.lb]; exact hk)
 have hmem : ∀ x, x ∈ (sTake l now st k t).out ↔ x ∈ st.out ∨ x = ⟨(t : Int), (k : Int), now, now + l.getD t 0⟩ := fun x => by simp [sTake]
 have hnew : ∀ x ∈ st.out, x.task ≠ (t : Int) := by
  intro x hx he
  have h1 := h.ended x hx
  have h2 := h.parts hx
  rw [he, Int.toNat_natCast] at h1
  have h3 := ho.w (t := x.task.toNat) (by omega)
  omega
 refine ⟨by simp [sTake, h.le], by simp [sTake, h.lb], hn0, by rw [hlen]; omega, ?_, ?_, ?_, ?_, ?_, ?_, ?_, ?_, ?_⟩
 ·intro i hi
  have := h.busyL i hi
  rw [hB, hlen]
  split <;> omega
 ·intro i hi
  have := h.endsL i hi
  rw [hE, hlen]
  split <;> omega
 ·have hso : (sTake l now st k t).out = st.out ++ [⟨(t : Int), (k : Int), now, now + l.getD t 0⟩] := rfl
  intro j hj hjk
  by_cases e : j < st.out.length
  ·have := h.fit j e e
   rw [show (sTake l now st k t).out[j] = st.out[j] from by simp [hso, List.getElem_append_left e]]
   rw [show (sTake l now st k t).out.take j = st.out.take j from by rw [hso, List.take_append_of_le_length (by omega)]]
   exact this
  ·have hj' : j = st.out.length := by omega
   subst hj'
   rw [show (sTake l now st k t).out[st.out.length] = ⟨(t : Int), (k : Int), now, now + l.getD t 0⟩ from by simp [hso]]
   rw [show (sTake l now st k t).out.take st.out.length = st.out from by rw [hso, List.take_append_of_le_length (Nat.le_refl _), List.take_length]]
   refine slotOk1_mk ?_ ?_ ?_ ?_ ?_ ?_
   ·simp only; omega
   ·intro x hx; exact hnew x hx
   ·simp only; omega
   ·simp
   ·simp only; omega
   ·intro o hox
    have h1 := h.byWho o hox
    have h2 := h.parts hox
    simp only [clash, Bool.and_eq_false_iff, beq_eq_false_iff_ne, decide_eq_false_iff_not]
    by_cases e : (k : Int) = o.worker
    ·have : o.worker.toNat = k := by omega
     rw [this] at h1
     left; right; omega
    ·left; left; exact e
 ·intro x hx
  rw [hE]
  rcases (hmem x).1 hx with hx | rfl
  ·have h1 := hnew x hx
   have h2 := h.parts hx
   rw [if_neg (by omega)]
   exact h.ended x hx
  ·simp
 ·intro i hi h1
  rw [hE] at h1
  by_cases e : t = i
  ·subst e; exact ⟨_, (hmem _).2 (.inr rfl), rfl⟩
  ·rw [if_neg e] at h1
   obtain ⟨x, hx, hxt⟩ := h.begun i hi h1
   exact ⟨x, (hmem _).2 (.inl hx), hxt⟩
 ·intro x hx
  rw [hB]
  rcases (hmem x).1 hx with hx | rfl
  ·have := h.byWho x hx
   split
   ·rename_i e
    rw [← e] at this
    omega
   ·exact this
  ·simp
 ·intro e he y hy hye
  rcases (hmem y).1 hy with hy | rfl
  ·obtain ⟨x, hx, h1, h2⟩ := h.ahead e he y hy hye
   exact ⟨x, (hmem _).2 (.inl hx), h1, h2⟩
  ·simp only at hye
   have het : e.2 = t := by omega
   obtain ⟨h1, h2⟩ := hpre e.1 (by rw [← het]; exact he)
   obtain ⟨x, hx, hxt⟩ := h.begun e.1 (ho.lt1 e he) h1
   refine ⟨x, (hmem _).2 (.inl hx), hxt, ?_⟩
   have h3 := h.ended x hx
   rw [hxt, Int.toNat_natCast] at h3
   simp only
   omega
 ·intro i hi h1
  rw [hB] at h1 ⊢
  by_cases e : k = i
  ·rw [if_pos e]
   exact ⟨t, htT, by rw [hE, if_pos rfl]⟩
  ·rw [if_neg e] at h1 ⊢
   obtain ⟨s, hs1, hs2⟩ := h.b2e i hi h1
   refine ⟨s, hs1, ?_⟩
   rw [hE, if_neg (by rintro rfl; omega)]
   exact hs2
 ·intro s hs1 h1
  rw [hE] at h1 ⊢
  by_cases e : t = s
  ·rw [if_pos e]
   exact ⟨k, hk, by rw [hB, if_pos rfl]⟩
  ·rw [if_neg e] at h1 ⊢
   obtain ⟨i, hi1, hi2⟩ := h.e2b s hs1 h1
   refine ⟨i, hi1, ?_⟩
   rw [hB, if_neg (by rintro rfl; omega)]
   exact hi2
/-- a task that may be taken was not taken, so not all are -/
theorem next_room (ho : SOk es T l m) (h : SInv es T l m now st) {t : Nat} (hn : nextT es T st.ends now = some t) : st.out.length < T := by
 obtain ⟨htT, hm⟩ := nextT_some hn
 obtain ⟨h0, _⟩ := (mayStart_iff ho.lt1).1 hm
 refine Classical.byContradiction fun hge => ?_
 have hs := h.short
 obtain ⟨x, hx, he⟩ := all_met (T := T) h.fit (by omega) (t : Int) (by omega) (by omega)
 have h1 := h.ended x hx
 have h2 := h.parts hx
 rw [he, Int.toNat_natCast] at h1
 have h3 := ho.w (t := x.task.toNat) (by omega)
 omega
theorem SInv.step (ho : SOk es T l m) (h : SInv es T l m now st) {k : Nat} (hk : k < m) : SInv es T l m now (sStep es T l now st k) := by
 by_cases hb : now < st.busy.getD k 0
 ·rw [sStep_busy hb]; exact h
 ·cases hn : nextT es T st.ends now with
  | none => rw [sStep_none hn]; exact h
  | some t => rw [sStep_some hb hn]; exact h.take ho hk hb hn (next_room ho h hn)
theorem SInv.part (ho : SOk es T l m) (h : SInv es T l m now st) : ∀ k, k ≤ m → SInv es T l m now (sPart es T l now st k)
 | 0, _ => h
 | k + 1, hk => (SInv.part ho h k (by omega)).step ho (by omega)
theorem sStep_keeps (ho : SOk es T l m) (h : SInv es T l m now st) {k i : Nat} (hk : k < m) (hi : now < st.busy.getD i 0) : now < (sStep es T l now st k).busy.getD i 0 := by
 by_cases hb : now < st.busy.getD k 0
 ·rw [sStep_busy hb]; exact hi
 ·cases hn : nextT es T st.ends now with
  | none => rw [sStep_none hn]; exact hi
  | some t =>
   rw [sStep_some hb hn]
   have hw := ho.w (nextT_some hn).1
   show now < (st.busy.set k (now + l.getD t 0)).getD i 0
   rw [setD _ _ _ _ _ (by rw [h.lb]; exact hk)]
   split <;> omega
/-- behind a pass some worker works, or nothing was done and nothing may be taken -/
theorem part_works (ho : SOk es T l m) (h : SInv es T l m now st) : ∀ k, k ≤ m → (∃ i, i < m ∧ now < (sPart es T l now st k).busy.getD i 0) ∨ (sPart es T l now st k = st ∧ (k = 0 ∨ nextT es T st.ends now = none))
 | 0, _ => .inr ⟨rfl, .inl rfl⟩
 | k + 1, hk => by
  have hi := SInv.part ho h k (by omega)
  rcases part_works ho h k (by omega) with ⟨i, hi1, hi2⟩ | ⟨he, _⟩
  ·exact .inl ⟨i, hi1, sStep_keeps ho hi (by omega) hi2⟩
  ·show (∃ i, i < m ∧ now < (sStep es T l now (sPart es T l now st k) k).busy.getD i 0) ∨ _
   have e1 : sPart es T l now st (k + 1) = sStep es T l now st k := by
    show sStep es T l now (sPart es T l now st k) k = _
    rw [he]
   rw [he]
   by_cases hb : now < st.busy.getD k 0
   ·exact .inl ⟨k, by omega, by rw [sStep_busy hb]; exact hb⟩
   ·cases hn : nextT es T st.ends now with
    | none => exact .inr ⟨by rw [e1, sStep_none hn], .inr rfl⟩
    | some t =>
     refine .inl ⟨k, by omega, ?_⟩
     rw [sStep_some hb hn]
     have hw := ho.w (nextT_some hn).1
     show now < (st.busy.set k (now + l.getD t 0)).getD k 0
     rw [setD _ _ _ _ _ (by rw [h.lb]; omega), if_pos rfl]
     omega
theorem pass_works (ho : SOk es T l m) (h : SInv es T l m now st) (hlt : st.out.length < T) : ∃ i, i < m ∧ now < (sPart es T l now st m).busy.getD i 0 := by
 rcases part_works ho h m (Nat.le_refl _) with h1 | ⟨he, h2⟩
 ·exact h1
 ·rcases h2 with h2 | h2
  ·have := ho.m1; omega
  refine Classical.byContradiction fun hno => ?_
  rw [he] at hno
  have hle : ∀ t, t < T → st.ends.getD t 0 ≤ now := by
   intro t ht
   refine Classical.byContradiction fun hgt => ?_
   obtain ⟨k, hk1, hk2⟩ := h.e2b t ht (by omega)
   exact hno ⟨k, hk1, by omega⟩
  have hex : ∃ t, t < T ∧ t ∉ st.out.map (fun x => x.task.toNat) := exists_out (by simpa using hlt)
  obtain ⟨t, _, htT, hm⟩ := pick_some (out := st.out.map fun x => x.task.toNat) ho.lt1 ho.ac hex
  obtain ⟨m1, m2⟩ := mayCome_iff.1 hm
  have hmay : mayStart es T st.ends now t = true := by
   rw [mayStart_iff ho.lt1]
   constructor
   ·refine Classical.byContradiction fun hge => ?_
    obtain ⟨x, hx, hxt⟩ := h.begun t htT (by omega)
    exact m1 (List.mem_map.2 ⟨x, hx, by omega⟩)
   ·intro s hs
    have hsT := ho.lt1 _ hs
    obtain ⟨x, hx, hxs⟩ := List.mem_map.1 (m2 s hs)
    have h3 := h.ended x hx
    have h4 := h.parts hx
    rw [hxs] at h3
    have h5 := ho.w (t := x.task.toNat) (by omega)
    have h6 := hle s hsT
    omega
  unfold nextT at h2
  rw [List.find?_eq_none] at h2
  exact h2 t (by simpa using htT) hmay
/-! the next time -/
/-- r is the least of L above now -/
def IsNext (now : Int) (L : List Int) (r : Int) : Prop := r ∈ L ∧ now < r ∧ ∀ x ∈ L, now < x → r ≤ x
theorem IsNext.same {L L' : List Int} {r r' : Int} (h : IsNext now L r) (h' : IsNext now L' r') (hs : ∀ x, now < x → (x ∈ L ↔ x ∈ L')) : r = r' := by
 have h1 := h.2.2 r' ((hs r' h'.2.1).2 h'.1) h'.2.1
 have h2 := h'.2.2 r ((hs r h.2.1).1 h.1) h.2.1
 omega
theorem nextI_is (h0 : 0 ≤ now) (L : List Int) (hex : ∃ x ∈ L, now < x) : IsNext now L (nextI now L) := by
 have key : ∀ (M : List Int) (n : Int), (n = 0 ∨ now < n) → let r := M.foldl (fun n x => if now < x ∧ (n = 0 ∨ x < n) then x else n) n; (r = n ∨ r ∈ M) ∧ (r = 0 ∨ now < r) ∧ (n ≠ 0 → r ≠ 0 ∧ r ≤ n) ∧ (∀ x ∈ M, now < x → r ≠ 0 ∧ r ≤ x) := by
  intro M
  induction M with
  | nil => intro n hn; exact ⟨.inl rfl, hn, fun h => ⟨h, Int.le_refl _⟩, fun x hx => by cases hx⟩
  | cons y M ih =>
   intro n hn
   simp only [List.foldl_cons]
   by_cases hc : now < y ∧ (n = 0 ∨ y < n)
   ·rw [if_pos hc]
    obtain ⟨a1, a2, a3, a4⟩ := ih y (.inr hc.1)
    have hy : y ≠ 0 := by omega
    obtain ⟨b1, b2⟩ := a3 hy
    refine ⟨.inr ?_, a2, fun hn0 => ⟨b1, by rcases hc.2 with h | h; exact absurd h hn0; omega⟩, ?_⟩
    ·rcases a1 with a1 | a1
     ·rw [a1]; exact List.mem_cons_self
     ·exact List.mem_cons_of_mem _ a1
    ·intro x hx hxn
     rcases List.mem_cons.1 hx with rfl | hx
     ·exact ⟨b1, b2⟩
     ·exact a4 x hx hxn
   ·rw [if_neg hc]
    obtain ⟨a1, a2, a3, a4⟩ := ih n hn
    refine ⟨?_, a2, a3, ?_⟩
    ·rcases a1 with a1 | a1
     ·exact .inl a1
     ·exact .inr (List.mem_cons_of_mem _ a1)
    ·intro x hx hxn
     rcases List.mem_cons.1 hx with rfl | hx
     ·have hn0 : n ≠ 0 ∧ n ≤ x := by
       refine ⟨fun e => hc ⟨hxn, .inl e⟩, ?_⟩
       refine Classical.byContradiction fun hgt => hc ⟨hxn, .inr (by omega)⟩
      obtain ⟨b1, b2⟩ := a3 hn0.1
      exact ⟨b1, by omega⟩
     ·exact a4 x hx hxn
 obtain ⟨a1, a2, _, a4⟩ := key L 0 (.inl rfl)
 obtain ⟨x, hx, hxn⟩ := hex
 obtain ⟨c1, _⟩ := a4 x hx hxn
 refine ⟨?_, ?_, fun y hy hyn => (a4 y hy hyn).2⟩
 ·rcases a1 with a1 | a1
  ·exact absurd a1 c1
  ·exact a1
 ·rcases a2 with a2 | a2
  ·exact absurd a2 c1
  ·exact a2
theorem nextS_is (h0 : 0 ≤ now) (L : List Int) (hex : ∃ x ∈ L, now < x) : IsNext now L (nextS now L) := by
 have key : ∀ (M : List Int) (n : Int), (n = -1 ∨ now < n) → let r := M.foldl (fun n x => if now < x ∧ (n < 0 ∨ x < n) then x else n) n; (r = n ∨ r ∈ M) ∧ (r = -1 ∨ now < r) ∧ (n ≠ -1 → r ≠ -1 ∧ r ≤ n) ∧ (∀ x ∈ M, now < x → r ≠ -1 ∧ r ≤ x) := by
  intro M
  induction M with
  | nil => intro n hn; exact ⟨.inl rfl, hn, fun h => ⟨h, Int.le_refl _⟩, fun x hx => by cases hx⟩
  | cons y M ih =>
   intro n hn
   simp only [List.foldl_cons]
   by_cases hc : now < y ∧ (n < 0 ∨ y < n)
   ·rw [if_pos hc]
    obtain ⟨a1, a2, a3, a4⟩ := ih y (.inr hc.1)
    have hy : y ≠ -1 := by omega
    obtain ⟨b1, b2⟩ := a3 hy
    refine ⟨.inr ?_, a2, fun hn0 => ⟨b1, by omega⟩, ?_⟩
    ·rcases a1 with a1 | a1
     ·rw [a1]; exact List.mem_cons_self
     ·exact List.mem_cons_of_mem _ a1
    ·intro x hx hxn
     rcases List.mem_cons.1 hx with rfl | hx
     ·exact ⟨b1, b2⟩
     ·exact a4 x hx hxn
   ·rw [if_neg hc]
    obtain ⟨a1, a2, a3, a4⟩ := ih n hn
    refine ⟨?_, a2, a3, ?_⟩
    ·rcases a1 with a1 | a1
     ·exact .inl a1
     ·exact .inr (List.mem_cons_of_mem _ a1)
    ·intro x hx hxn
     rcases List.mem_cons.1 hx with rfl | hx
     ·have hn0 : n ≠ -1 ∧ n ≤ x := by omega
      obtain ⟨b1, b2⟩ := a3 hn0.1
      exact ⟨b1, by omega⟩
     ·exact a4 x hx hxn
 obtain ⟨a1, a2, _, a4⟩ := key L (-1) (.inl rfl)
 obtain ⟨x, hx, hxn⟩ := hex
 obtain ⟨c1, _⟩ := a4 x hx hxn
 refine ⟨?_, ?_, fun y hy hyn => (a4 y hy hyn).2⟩
 ·rcases a1 with a1 | a1
  ·exact absurd a1 c1
  ·exact a1
 ·rcases a2 with a2 | a2
  ·exact absurd a2 c1
  ·exact a2
theorem mem_getD {L : List Int} {x : Int} (h : x ∈ L) : ∃ k, k < L.length ∧ L.getD k 0 = x := by
 obtain ⟨k, hk, rfl⟩ := List.getElem_of_mem h
 exact ⟨k, hk, getD_at hk 0⟩
/-- the next time, of a pass -/
theorem SInv.next (h : SInv es T l m now st) (hex : ∃ i, i < m ∧ now < st.busy.getD i 0) : IsNext now st.busy (nextI now st.busy) ∧ nextS now st.ends = nextI now st.busy := by
 obtain ⟨i, hi1, hi2⟩ := hex
 have e1 : ∃ x ∈ st.busy, now < x := ⟨_, getD_mem (by rw [h.lb]; exact hi1) 0, hi2⟩
 obtain ⟨t, ht1, ht2⟩ := h.b2e i hi1 hi2
 have e2 : ∃ x ∈ st.ends, now < x := ⟨_, getD_mem (by rw [h.le]; exact ht1) 0, by rw [ht2]; exact hi2⟩
 have n1 := nextI_is h.now0 st.busy e1
 have n2 := nextS_is h.now0 st.ends e2
 refine ⟨n1, n2.same n1 fun x hx => ⟨fun hm => ?_, fun hm => ?_⟩⟩
 ·obtain ⟨s, hs1, hs2⟩ := mem_getD hm
  obtain ⟨k, hk1, hk2⟩ := h.e2b s (by rw [← h.le]; exact hs1) (by omega)
  rw [← hs2, ← hk2]
  exact getD_mem (by rw [h.lb]; exact hk1) 0
 ·obtain ⟨s, hs1, hs2⟩ := mem_getD hm
  obtain ⟨k, hk1, hk2⟩ := h.b2e s (by rw [← h.lb]; exact hs1) (by omega)
  rw [← hs2, ← hk2]
  exact getD_mem (by rw [h.le]; exact hk1) 0
theorem SInv.onward (h : SInv es T l m now st) {r : Int} (hr : IsNext now st.busy r) : SInv es T l m r st := by
 obtain ⟨h1, h2, h3⟩ := hr
 obtain ⟨k, hk1, hk2⟩ := mem_getD h1
 have hk := h.busyL k (by rw [← h.lb]; exact hk1)
 have hn0 := h.now0
 refine ⟨h.le, h.lb, by omega, by omega, h.busyL, h.endsL, h.fit, h.ended, h.begun, fun x hx => ?_, h.ahead, fun k hk h1 => h.b2e k hk (by omega), fun t ht h1 => h.e2b t ht (by omega)⟩
 have := h.byWho x hx
 exact ⟨this.1, by omega⟩
/-- one round -/
theorem SInv.round (ho : SOk es T l m) (h : SInv es T l m now st) (hlt : st.out.length < T) :
  SInv es T l m (nextI now (sPart es T l now st m).busy) (sPart es T l now st m) ∧ now < nextI now (sPart es T l now st m).busy ∧ nextS now (sPart es T l now st m).ends = nextI now (sPart es T l now st m).busy := by
 have hp := h.part ho m (Nat.le_refl _)
 have hn := hp.next (pass_works ho h hlt)
 exact ⟨hp.onward hn.1, hn.1.2.1, hn.2⟩
end
end Go.Proofs.Ytonlnjdempbfoaa
end
section
namespace Go.Proofs.Ytonlnjdempbfoaa
open Go.RowKit
set_option maxRecDepth 100000
set_option maxHeartbeats 2000000
/-- the tasks whose list is empty -/
def endsL (f : Nat → List Nat) (k : Nat) : List Nat := (List.range k).filter fun t => (f t).isEmpty
open Classical in
noncomputable def sourcesOf (p : Plan) : List Nat := if planFault p = 0 then endsL (fun t => beforeL (esOf p) p.tasks.toNat t) p.tasks.toNat else []
open Classical in
noncomputable def sinksOf (p : Plan) : List Nat := if planFault p = 0 then endsL (fun t => behindL (esOf p) p.tasks.toNat t) p.tasks.toNat else []
end Go.Proofs.Ytonlnjdempbfoaa
end
section
namespace Go.Proofs.Ytonlnjdempbfoaa
open Go.RowKit
set_option maxRecDepth 100000
/-- is it so? -/
noncomputable def tf (p : Prop) : Bool := @decide p (Classical.propDecidable p)
theorem tf_true {p : Prop} (h : p) : tf p = true := by unfold tf; exact @decide_eq_true p (Classical.propDecidable p) h
theorem tf_false {p : Prop} (h : ¬ p) : tf p = false := by unfold tf; exact @decide_eq_false p (Classical.propDecidable p) h
theorem tf_iff {p : Prop} : tf p = true ↔ p := by
 constructor
 ·intro h
  by_cases hp : p
  ·exact hp
  ·rw [tf_false hp] at h; cases h
 ·exact tf_true
theorem tf_congr {p q : Prop} (h : p ↔ q) : tf p = tf q := by
 by_cases hp : p
 ·rw [tf_true hp, tf_true (h.1 hp)]
 ·rw [tf_false hp, tf_false (fun hq => hp (h.2 hq))]
def aheadE (a b : Entry) : Bool := decide (b.prio < a.prio) || ((a.prio == b.prio) && decide (a.seq < b.seq))
def shelfP (l : List Entry) : Prop := l.length ≤ 80 ∧ ∀ i (h : i + 1 < l.length), aheadE l[i] l[i + 1] = true
def taskAt (r : Run) (k : Nat) : Task := r.tasks.getD k ⟨0, 0, 0, 0⟩
theorem taskAt_get {r : Run} {k : Nat} (h : k < r.tasks.length) : taskAt r k = r.tasks[k] := by unfold taskAt; rw [List.getD_eq_getElem?_getD, List.getElem?_eq_getElem h]; rfl
/-- of these tasks, those that are not done -/
def openIn (r : Run) (l : List Nat) : Nat := (l.filter fun b => (taskAt r b).state != 4).length
def needOf (r : Run) (t : Nat) : Nat := openIn r (beforeL (esOf r.plan) r.plan.tasks.toNat t)
theorem openIn_le (r : Run) (l : List Nat) : openIn r l ≤ l.length := List.length_filter_le _ _
theorem openIn_yes {r : Run} {l : List Nat} {k : Nat} (hk : k < l.length) (h : (taskAt r l[k]).state ≠ 4) : openIn r (l.take (k + 1)) = openIn r (l.take k) + 1 := by
 unfold openIn
 rw [take_snoc l k hk, List.filter_append, List.length_append, List.filter_cons, if_pos (by simpa using h)]
 rfl
theorem openIn_no {r : Run} {l : List Nat} {k : Nat} (hk : k < l.length) (h : (taskAt r l[k]).state = 4) : openIn r (l.take (k + 1)) = openIn r (l.take k) := by
 unfold openIn
 rw [take_snoc l k hk, List.filter_append, List.length_append, List.filter_cons, if_neg (by simp [h])]
 rfl
/-- a task is right, of which N are waited for -/
def taskQ (x : Task) (N : Nat) (most : Int) : Prop :=
 (1 ≤ x.state ∧ x.state ≤ 6) ∧ x.need = N ∧ (0 ≤ x.try_ ∧ x.try_ ≤ most) ∧ (x.state = 3 → 1 ≤ x.until_ ∧ x.until_ ≤ 1000000000) ∧ (x.state ≠ 3 → x.until_ = 0) ∧
 (x.state = 1 → 0 < x.need) ∧ (x.state = 2 → x.need = 0 ∧ x.try_ < most) ∧ (x.state = 3 ∨ x.state = 4 ∨ x.state = 5 → x.need = 0 ∧ 1 ≤ x.try_)
/-- a task of a run is right -/
def taskP (r : Run) (t : Nat) : Prop := taskQ (taskAt r t) (needOf r t) r.plan.most
/-- how many tasks are in a state -/
def cntS (l : List Task) (s : Int) : Nat := (l.filter fun x => x.state == s).length
theorem cntS_le (l : List Task) (s : Int) : cntS l s ≤ l.length := List.length_filter_le _ _
theorem cntS_snoc (l : List Task) (x : Task) (s : Int) : cntS (l ++ [x]) s = cntS l s + if x.state = s then 1 else 0 := by
 unfold cntS
 rw [List.filter_append, List.length_append]
 congr 1
 by_cases h : x.state = s <;> simp [h]
theorem cntS_yes {l : List Task} {s : Int} {k : Nat} (hk : k < l.length) (h : l[k].state = s) : cntS (l.take (k + 1)) s = cntS (l.take k) s + 1 := by
 rw [take_snoc l k hk, cntS_snoc, if_pos h]
theorem cntS_no {l : List Task} {s : Int} {k : Nat} (hk : k < l.length) (h : ¬ l[k].state = s) : cntS (l.take (k + 1)) s = cntS (l.take k) s := by
 rw [take_snoc l k hk, cntS_snoc, if_neg h, Nat.add_zero]
def restOf (l : List Task) : Nat := cntS l 1 + cntS l 2 + cntS l 3
/-- what the state of a run has to be; 0 when its tasks fit none -/
def stL (l : List Task) : Int :=
 if cntS l 4 = l.length then 2 else if cntS l 5 = 1 ∧ restOf l = 0 then 3 else if cntS l 5 = 0 ∧ 0 < cntS l 6 ∧ restOf l = 0 then 4 else if cntS l 5 = 0 ∧ cntS l 6 = 0 then 1 else 0
/-- a run is right -/
def runP (r : Run) : Prop :=
 (1 ≤ r.id ∧ r.id ≤ 9999) ∧ planFault r.plan = 0 ∧ (r.tasks.length : Int) = r.plan.tasks ∧ (∀ t, t < r.tasks.length → taskP r t) ∧ r.state = stL r.tasks ∧ r.state ≠ 0
def entriesOf (y : Yard) : List Entry := y.shelf.flatten
def runK (y : Yard) (id : Int) : Run := y.runs.getD (runAt y id).toNat ⟨0, ⟨0, 0, 0, 0, []⟩, 0, []⟩
theorem runK_get {y : Yard} {id : Int} {k : Nat} (hk : k < y.runs.length) (h : runAt y id = k) : runK y id = y.runs[k] := by
 unfold runK
 rw [h, Int.toNat_natCast, List.getD_eq_getElem?_getD, List.getElem?_eq_getElem hk]
 rfl
/-- the entry's task stands ready -/
def freshP (y : Yard) (e : Entry) : Prop := 0 ≤ runAt y e.run ∧ (0 ≤ e.task ∧ e.task < (runK y e.run).tasks.length) ∧ (taskAt (runK y e.run) e.task.toNat).state = 2
noncomputable def freshB (y : Yard) (e : Entry) : Bool := tf (freshP y e)
def slotsR (l : List Run) : Nat := ((l.filter fun r => r.state == 1).map fun r => r.tasks.length).sum
noncomputable def staleN (y : Yard) (l : List Entry) : Nat := (l.filter fun e => !freshB y e).length
noncomputable def slotsOf (y : Yard) : Nat := slotsR y.runs + staleN y (entriesOf y)
def mineE (id : Int) (t : Nat) (e : Entry) : Bool := (e.run == id) && (e.task == (t : Int))
def mineN (id : Int) (t : Nat) (l : List Entry) : Nat := (l.filter (mineE id t)).length
/-- a task of a run stands in the yard as it should -/
def laidP (now : Int) (r : Run) (es : List Entry) (t : Nat) : Prop :=
 ((taskAt r t).state = 2 → (∀ e ∈ es, mineE r.id t e = true → e.prio = r.plan.prio) ∧ mineN r.id t es = 1) ∧ ((taskAt r t).state = 3 → now + 1 ≤ (taskAt r t).until_ ∧ (taskAt r t).until_ ≤ now + r.plan.wait)
def standP (now : Int) (r : Run) (es : List Entry) : Prop := ∀ t, t < r.tasks.length → laidP now r es t
def yardP (y : Yard) : Prop :=
 (0 ≤ y.now ∧ y.now ≤ 999999980) ∧ (1 ≤ y.seq ∧ y.seq ≤ 1000000000) ∧ y.shelf.length = 4 ∧ (∀ l ∈ y.shelf, shelfP l) ∧ (∀ e ∈ entriesOf y, 1 ≤ e.seq ∧ e.seq ≤ y.seq - 1) ∧ ((entriesOf y).map (·.seq)).Nodup ∧
 y.runs.length ≤ 8 ∧ (∀ k (h : k < y.runs.length), runP y.runs[k] ∧ runAt y y.runs[k].id = k) ∧ (∀ r ∈ y.runs, standP y.now r (entriesOf y)) ∧ slotsOf y ≤ 40
theorem staleN_yes {y : Yard} {l : List Entry} {k : Nat} (hk : k < l.length) (h : freshB y l[k] = false) : staleN y (l.take (k + 1)) = staleN y (l.take k) + 1 := by
 unfold staleN
 rw [take_snoc l k hk, List.filter_append, List.length_append, List.filter_cons, if_pos (by simp [h])]
 rfl
theorem staleN_no {y : Yard} {l : List Entry} {k : Nat} (hk : k < l.length) (h : freshB y l[k] = true) : staleN y (l.take (k + 1)) = staleN y (l.take k) := by
 unfold staleN
 rw [take_snoc l k hk, List.filter_append, List.length_append, List.filter_cons, if_neg (by simp [h])]
 rfl
theorem staleN_le (y : Yard) (l : List Entry) : staleN y l ≤ l.length := List.length_filter_le _ _
theorem staleN_append (y : Yard) (l l' : List Entry) : staleN y (l ++ l') = staleN y l + staleN y l' := by
 unfold staleN
 rw [List.filter_append, List.length_append]
theorem mineN_yes {id : Int} {t : Nat} {l : List Entry} {k : Nat} (hk : k < l.length) (h : mineE id t l[k] = true) : mineN id t (l.take (k + 1)) = mineN id t (l.take k) + 1 := by
 unfold mineN
 rw [take_snoc l k hk, List.filter_append, List.length_append, List.filter_cons, if_pos h]
 rfl
theorem mineN_no {id : Int} {t : Nat} {l : List Entry} {k : Nat} (hk : k < l.length) (h : mineE id t l[k] = false) : mineN id t (l.take (k + 1)) = mineN id t (l.take k) := by
 unfold mineN
 rw [take_snoc l k hk, List.filter_append, List.length_append, List.filter_cons, if_neg (by simp [h])]
 rfl
theorem mineN_le (id : Int) (t : Nat) (l : List Entry) : mineN id t l ≤ l.length := List.length_filter_le _ _
theorem slotsR_yes {l : List Run} {k : Nat} (hk : k < l.length) (h : l[k].state = 1) : slotsR (l.take (k + 1)) = slotsR (l.take k) + l[k].tasks.length := by
 unfold slotsR
 rw [take_snoc l k hk, List.filter_append, List.map_append, List.sum_append, List.filter_cons, if_pos (by simp [h])]
 simp
theorem slotsR_no {l : List Run} {k : Nat} (hk : k < l.length) (h : ¬ l[k].state = 1) : slotsR (l.take (k + 1)) = slotsR (l.take k) := by
 unfold slotsR
 rw [take_snoc l k hk, List.filter_append, List.map_append, List.sum_append, List.filter_cons, if_neg (by simp [h])]
 simp
theorem slotsR_le (l : List Run) : slotsR l ≤ (l.map fun r => r.tasks.length).sum := by
 unfold slotsR
 induction l with
 | nil => simp
 | cons r l ih =>
  rw [List.filter_cons]
  split
  ·simp only [List.map_cons, List.sum_cons]; omega
  ·simp only [List.map_cons, List.sum_cons]; omega
end Go.Proofs.Ytonlnjdempbfoaa
end
section
namespace Go.Proofs.Ytonlnjdempbfoaa
open Go.RowKit
set_option maxRecDepth 100000
set_option maxHeartbeats 400000
set_option linter.unusedVariables false
set_option linter.unusedSimpArgs false
theorem edge_rd {w : World} {B : Nat} {v : Value} {l : List Edge} (h : RdL edgeD w B v l) : Rd edgeE w B v l := by
 obtain ⟨rs, rfl, ⟨A, c, rfl, hc, hA⟩, _⟩ := h
 refine ⟨A, c, by rw [List.length_map], by rw [List.length_map]; exact hc, fun hl => ?_⟩
 rw [List.length_map] at hl
 obtain ⟨b, o, h1, h2, h3⟩ := hA hl
 refine ⟨b, o, h1, h2, fun k hk j u hu => ?_⟩
 rw [List.getElem_map] at hu
 exact h3 k (by rw [List.length_map] at hk; exact hk) j u hu
theorem edge_ows (w : World) : ∀ l : List Edge, Ows edgeD w [] (l.map fun x => (x, ()))
 | [] => .nil
 | x :: l => by
  have := Ows.cons (d := edgeD) (w := w) (F := []) (r := (x, ())) rfl (edge_ows w l)
  exact this
theorem edge_ow {w : World} {E : TypeId} {base : Nat} {v : Value} {l : List Edge} (h : Ow edgeE E w base v l) : ∃ (s : Sl) (F : List Nat), v = .slice s.a s.n s.c ∧ OwL edgeD w F s.v l ∧ ∀ b ∈ F, base ≤ b := by
 obtain ⟨h1, h2⟩ := Hw.of_ow h
 obtain ⟨⟨A, c, hv, hc, hA⟩, hF, hf⟩ := id h1
 subst hv
 refine ⟨⟨A, l.length, c⟩, _, rfl, ⟨l.map fun x => (x, ()), blocks (.slice A l.length c) l.length, [], by rw [List.map_map]; exact List.map_id _, ⟨⟨A, c, by rw [List.length_map], by rw [List.length_map]; exact hc, fun hl => ?_⟩, by rw [List.length_map], hf⟩, edge_ows w l, (List.append_nil _).symm, h1.nodup⟩, h2⟩
 rw [List.length_map] at hl
 obtain ⟨b, o, h3, h4, h5⟩ := hA hl
 refine ⟨b, o, h3, h4, fun k hk j u hu => ?_⟩
 rw [List.getElem_map] at hu
 exact h5 k (by rw [List.length_map] at hk; exact hk) j u hu
theorem plan_own_of {x : Plan} {w : World} {e : Ending} {w' : World} (h : ToPlanPost x w e w') : OwnPost planD planW x w e w' := by
 obtain ⟨v, rfl, h1, h2⟩ := h
 obtain ⟨s, F, rfl, h3, h4⟩ := edge_ow h1
 exact ⟨s, F, rfl, h3, h4, h2⟩
theorem implCopyPlan_own (x : Plan) (s : Sl) (w : World) (hl : cntPlan x ≤ 2000000) (h : planD.rd w w.heap.size x s) :
  Calls Try.prog 40 #[planW x s] w (OwnPost planD planW x w) :=
 (implCopy_any x s.v w (Nat.le_trans (cntL_len _ _) hl) (edge_rd h)).mono fun _ _ => plan_own_of
theorem specCopyPlan_own (x : Plan) (s : Sl) (w : World) (hl : cntPlan x ≤ 2000000) (h : planD.rd w w.heap.size x s) :
  Calls Try.prog 35 #[planW x s] w (OwnPost planD planW x w) :=
 (specCopy_any x s.v w (Nat.le_trans (cntL_len _ _) hl) (edge_rd h)).mono fun _ _ => plan_own_of
theorem implCopyDeed_own (x : Deed) (s : Sl) (w : World) (hl : cntDeed x ≤ 2000000) (h : deedD.rd w w.heap.size x s) :
  Calls Try.prog 34 #[deedW x s] w (OwnPost deedD deedW x w) := by
 have hbx : ∀ W, Below w.heap.size w W → deedD.rd W W.heap.size x s := fun W hW => deedD.rd_more (deedD.rd_below h hW) hW.size
 go_enter Try.func34, Try.ntmps34
 go_wp2_with fail
 refine (implCopyPlan_own x.plan s _ (by unfold cntDeed at hl; omega) (hbx _ (by repeat (first | exact Below.refl _ _ | refine Below.alloc ?_ (by simp <;> omega) _)))).mono ?_
 rintro e w0 ⟨s0, F0, rfl, o0, n0, hb0⟩
 obtain ⟨q0, p0⟩ := bcell hb0
 have z0 := hb0.size
 simp only [World.size_alloc, World.size_setCell] at z0 n0
 have B0 : Below w.heap.size w w0 := bnext (by repeat (first | exact Below.refl _ _ | refine Below.alloc ?_ (by simp <;> omega) _)) hb0
 have k0 : w0.cell? ⟨w.heap.size, 0, none⟩ = some (.int .i64 x.kind) := by rw [q0 _ _ (by simp <;> omega)]; simp [go_sem]
 have k1 : w0.cell? ⟨w.heap.size, 1, none⟩ = some (.int .i64 x.run) := by rw [q0 _ _ (by simp <;> omega)]; simp [go_sem]
 have k2 : w0.cell? ⟨w.heap.size, 2, none⟩ = some (.int .i64 x.plan.prio) := by rw [q0 _ _ (by simp <;> omega)]; simp [go_sem]
 have k3 : w0.cell? ⟨w.heap.size, 3, none⟩ = some (.int .i64 x.plan.most) := by rw [q0 _ _ (by simp <;> omega)]; simp [go_sem]
 have k4 : w0.cell? ⟨w.heap.size, 4, none⟩ = some (.int .i64 x.plan.wait) := by rw [q0 _ _ (by simp <;> omega)]; simp [go_sem]
 have k5 : w0.cell? ⟨w.heap.size, 5, none⟩ = some (.int .i64 x.plan.tasks) := by rw [q0 _ _ (by simp <;> omega)]; simp [go_sem]
 have k6 : w0.cell? ⟨w.heap.size, 6, none⟩ = some (.slice s.a s.n s.c) := by rw [q0 _ _ (by simp <;> omega)]; simp [go_sem]
 have k7 : w0.cell? ⟨w.heap.size, 7, none⟩ = some (.int .i64 x.task) := by rw [q0 _ _ (by simp <;> omega)]; simp [go_sem]
 have k8 : w0.cell? ⟨w.heap.size, 8, none⟩ = some (.int .i64 x.try_) := by rw [q0 _ _ (by simp <;> omega)]; simp [go_sem]
 have k9 : w0.cell? ⟨w.heap.size, 9, none⟩ = some (.int .i64 x.worker) := by rw [q0 _ _ (by simp <;> omega)]; simp [go_sem]
 have k10 : w0.cell? ⟨w.heap.size, 10, none⟩ = some (.int .i64 x.draw) := by rw [q0 _ _ (by simp <;> omega)]; simp [go_sem]
 go_wp2
 refine bodyPost_ret (v := deedW x s0) ?_ rfl ?_
 ·simp [deedW, results, Try.results34, go_sem, q0]
 ·refine ⟨s0, F0, rfl, ?_, ?_, ?_⟩
  ·repeat (first | (with_reducible exact o0) | refine Dt.ow_set planD ?_ (by intro hm; have := n0 _ hm; (try simp only [World.size_alloc, World.size_setCell] at this); omega) _)
  ·intro b hb
   have := n0 b hb
   omega
  ·repeat (first | (with_reducible exact B0) | (with_reducible exact Below.refl _ _) | refine Below.setCell ?_ (by simp <;> omega) _ | refine Below.alloc ?_ (by simp <;> omega) _)
theorem specNote_own (x : Note) (s : Sl) (w : World) (hl : cntNote x ≤ 2000000) (h : noteD.rd w w.heap.size x s) :
  Calls Try.prog 28 #[noteW x s] w (OwnPost noteD noteW x w) := by
 have hbx : ∀ W, Below w.heap.size w W → noteD.rd W W.heap.size x s := fun W hW => noteD.rd_more (noteD.rd_below h hW) hW.size
 go_enter Try.func28, Try.ntmps28
 go_wp2_with fail
 refine (specCopyPlan_own x.deed.plan s _ (by unfold cntNote cntDeed at hl; omega) (hbx _ (by repeat (first | exact Below.refl _ _ | refine Below.alloc ?_ (by simp <;> omega) _)))).mono ?_
 rintro e w0 ⟨s0, F0, rfl, o0, n0, hb0⟩
 obtain ⟨q0, p0⟩ := bcell hb0
 have z0 := hb0.size
 simp only [World.size_alloc, World.size_setCell] at z0 n0
 have B0 : Below w.heap.size w w0 := bnext (by repeat (first | exact Below.refl _ _ | refine Below.alloc ?_ (by simp <;> omega) _)) hb0
 have k0 : w0.cell? ⟨w.heap.size, 0, none⟩ = some (.int .i64 x.seq) := by rw [q0 _ _ (by simp <;> omega)]; simp [go_sem]
 have k1 : w0.cell? ⟨w.heap.size, 1, none⟩ = some (.int .i64 x.deed.kind) := by rw [q0 _ _ (by simp <;> omega)]; simp [go_sem]
 have k2 : w0.cell? ⟨w.heap.size, 2, none⟩ = some (.int .i64 x.deed.run) := by rw [q0 _ _ (by simp <;> omega)]; simp [go_sem]
 have k3 : w0.cell? ⟨w.heap.size, 3, none⟩ = some (.int .i64 x.deed.plan.prio) := by rw [q0 _ _ (by simp <;> omega)]; simp [go_sem]
 have k4 : w0.cell? ⟨w.heap.size, 4, none⟩ = some (.int .i64 x.deed.plan.most) := by rw [q0 _ _ (by simp <;> omega)]; simp [go_sem]
 have k5 : w0.cell? ⟨w.heap.size, 5, none⟩ = some (.int .i64 x.deed.plan.wait) := by rw [q0 _ _ (by simp <;> omega)]; simp [go_sem]
 have k6 : w0.cell? ⟨w.heap.size, 6, none⟩ = some (.int .i64 x.deed.plan.tasks) := by rw [q0 _ _ (by simp <;> omega)]; simp [go_sem]
 have k7 : w0.cell? ⟨w.heap.size, 7, none⟩ = some (.slice s.a s.n s.c) := by rw [q0 _ _ (by simp <;> omega)]; simp [go_sem]
 have k8 : w0.cell? ⟨w.heap.size, 8, none⟩ = some (.int .i64 x.deed.task) := by rw [q0 _ _ (by simp <;> omega)]; simp [go_sem]
 have k9 : w0.cell? ⟨w.heap.size, 9, none⟩ = some (.int .i64 x.deed.try_) := by rw [q0 _ _ (by simp <;> omega)]; simp [go_sem]
 have k10 : w0.cell? ⟨w.heap.size, 10, none⟩ = some (.int .i64 x.deed.worker) := by rw [q0 _ _ (by simp <;> omega)]; simp [go_sem]
 have k11 : w0.cell? ⟨w.heap.size, 11, none⟩ = some (.int .i64 x.deed.draw) := by rw [q0 _ _ (by simp <;> omega)]; simp [go_sem]
 go_wp2
 refine bodyPost_ret (v := noteW x s0) ?_ rfl ?_
 ·simp [noteW, results, Try.results28, go_sem, q0]
 ·refine ⟨s0, F0, rfl, ?_, ?_, ?_⟩
  ·repeat (first | (with_reducible exact o0) | refine Dt.ow_set planD ?_ (by intro hm; have := n0 _ hm; (try simp only [World.size_alloc, World.size_setCell] at this); omega) _)
  ·intro b hb
   have := n0 b hb
   omega
  ·repeat (first | (with_reducible exact B0) | (with_reducible exact Below.refl _ _) | refine Below.setCell ?_ (by simp <;> omega) _ | refine Below.alloc ?_ (by simp <;> omega) _)
theorem Bld.push1 {α : Type} {d : Dt α} {E : TypeId} {w w1 w2 w5 : World} {base : Nat} {v v5 : Value} {rs : List (α × d.S)} {x : α} {s : d.S} {F : List Nat} (h : Bld d E w base v rs) (hb : Below w.heap.size w w1) (o1 : d.ow w1 F x s) (n1 : ∀ b ∈ F, w.heap.size ≤ b)
  (hbase : base ≤ w.heap.size) (hb2 : Below w1.heap.size w1 w2) (o5 : Ow d.enc E w5 base v5 (rs ++ [(x, s)])) (g5 : w2.grownBy w5 v.ownBlock) (f5 : v5.ownBlock = v.ownBlock ∨ v5.ownBlock = some w2.heap.size) : Bld d E w5 base v5 (rs ++ [(x, s)]) := by
 refine Bld.push h (bnext hb hb2) (Ows.one (r := (x, s)) (d.ow_below o1 hb2)) n1 (d.ow_nodup o1) hbase o5 g5 ?_
 rcases f5 with f5 | f5
 ·exact .inl f5
 ·exact .inr ⟨_, f5, Nat.le_refl _⟩
/-- a list under building -/
def Bls {α : Type} (d : Dt α) (E : TypeId) (w : World) (base : Nat) (v : Value) (l : List α) : Prop := ∃ rs, rs.map (·.1) = l ∧ Bld d E w base v rs
theorem Bls.own {α : Type} {d : Dt α} {E : TypeId} {w w' : World} {v : Value} {l : List α} (h : Bls d E w' w.heap.size v l) (hb : Below w.heap.size w w') : OwnPost (Dt.list d) slV l w (.returned v) w' := by
 obtain ⟨rs, hm, hB⟩ := h
 obtain ⟨F, h1, h2⟩ := hB.owl hm
 obtain ⟨A, c, rfl, _⟩ := h1.form
 exact ⟨⟨A, l.length, c⟩, F, rfl, h1, h2, hb⟩
end Go.Proofs.Ytonlnjdempbfoaa
end
section
namespace Go.Proofs.Ytonlnjdempbfoaa
open Go.RowKit
set_option maxRecDepth 100000
set_option maxHeartbeats 2000000
def earStep (l : List Int) (t : Nat) (o : List Int) (b : Nat) : List Int := o.set t (max (o.getD t 0) (o.getD b 0 + l.getD b 0))
/-- all values are small -/
def Bd (o : List Int) (c : Nat) : Prop := ∀ x ∈ o, 0 ≤ x ∧ x ≤ 1000 * c
theorem Bd.more {o : List Int} {c c' : Nat} (h : Bd o c) (hc : c ≤ c') : Bd o c' := fun x hx => by have := h x hx; omega
theorem getD_bd {o : List Int} {c : Nat} (h : Bd o c) (k : Nat) : 0 ≤ o.getD k 0 ∧ o.getD k 0 ≤ 1000 * c := by
 rw [List.getD_eq_getElem?_getD]
 cases hk : o[k]? with
 | none => simp; omega
 | some x => exact h x (List.mem_of_getElem? hk)
theorem Bd.step {o : List Int} {c : Nat} (h : Bd o c) {l : List Int} (hl : ∀ x ∈ l, 1 ≤ x ∧ x ≤ 1000) (t b : Nat) : Bd (earStep l t o b) (c + 1) := by
 intro x hx
 have hw : 0 ≤ l.getD b 0 ∧ l.getD b 0 ≤ 1000 := by
  rw [List.getD_eq_getElem?_getD]
  cases hk : l[b]? with
  | none => simp
  | some y => have := hl y (List.mem_of_getElem? hk); simp; omega
 rcases List.mem_or_eq_of_mem_set hx with hx | rfl
 ·have := h x hx; omega
 ·have h1 := getD_bd h t
  have h2 := getD_bd h b
  omega
end Go.Proofs.Ytonlnjdempbfoaa
end
section
namespace Go.Proofs.Ytonlnjdempbfoaa
open Go.RowKit
instance : Inhabited Seg := ⟨⟨0, []⟩⟩
def segAt (l : List Seg) (i : Nat) : Seg := l.getD i ⟨0, []⟩
theorem segAt_get {l : List Seg} {i : Nat} (h : i < l.length) : segAt l i = l[i] := by
 unfold segAt
 rw [List.getD_eq_getElem?_getD, List.getElem?_eq_getElem h]
 rfl
def seqAt (l : List Note) (i : Nat) : Int := (l.map (·.seq)).getD i 0
theorem seqAt_get {l : List Note} {i : Nat} (h : i < l.length) : seqAt l i = l[i].seq := by
 unfold seqAt
 rw [List.getD_eq_getElem?_getD, List.getElem?_eq_getElem (by rw [List.length_map]; exact h), List.getElem_map]
 rfl
def noteFit (s : Seg) (j : Nat) : Bool := decide (seqAt s.notes j = s.fr + j) && decide (s.fr + j ≤ 1000000000)
def notesFit (s : Seg) : Bool := (List.range s.notes.length).all (noteFit s)
/-- the number behind a part -/
def endO (s : Seg) : Int := s.fr + s.notes.length
def segFit (l : List Seg) (i : Nat) : Bool := inB (segAt l i).fr 1 1000000000 && (decide (i = 0) || decide ((segAt l i).fr = endO (segAt l (i - 1)))) && notesFit (segAt l i)
def totN (l : List Seg) : Nat := (l.map fun s => s.notes.length).sum
def segsOk (l : List Seg) : Bool := decide (l.length ≤ 60) && decide (totN l ≤ 400) && (List.range l.length).all (segFit l)
theorem allB_true {n : Nat} {p : Nat → Bool} (h : ∀ j, j < n → p j = true) : (List.range n).all p = true := by
 rw [List.all_eq_true]
 intro j hj
 exact h j (by simpa using hj)
theorem allB_false {n k : Nat} {p : Nat → Bool} (hk : k < n) (h : p k = false) : (List.range n).all p = false := by
 rw [List.all_eq_false]
 exact ⟨k, by simpa using hk, by simp [h]⟩
theorem allB_get {n k : Nat} {p : Nat → Bool} (h : (List.range n).all p = true) (hk : k < n) : p k = true := by
 rw [List.all_eq_true] at h
 exact h k (by simpa using hk)
theorem segsOk_len {l : List Seg} (h : ¬ l.length ≤ 60) : segsOk l = false := by simp [segsOk, h]
theorem segsOk_tot {l : List Seg} (h : ¬ totN l ≤ 400) : segsOk l = false := by simp [segsOk, h]
theorem segsOk_fit {l : List Seg} {k : Nat} (hk : k < l.length) (h : segFit l k = false) : segsOk l = false := by
 unfold segsOk
 rw [allB_false hk h]
 simp
theorem segsOk_all {l : List Seg} (h1 : l.length ≤ 60) (h2 : totN l ≤ 400) (h : ∀ j, j < l.length → segFit l j = true) : segsOk l = true := by
 unfold segsOk
 rw [allB_true h]
 simp [h1, h2]
theorem segsOk_get {l : List Seg} (h : segsOk l = true) : l.length ≤ 60 ∧ totN l ≤ 400 ∧ ∀ j, j < l.length → segFit l j = true := by
 unfold segsOk at h
 simp only [Bool.and_eq_true, decide_eq_true_eq] at h
 exact ⟨h.1.1, h.1.2, fun j hj => allB_get h.2 hj⟩
theorem totN_take_succ (l : List Seg) (k : Nat) (h : k < l.length) : totN (l.take (k + 1)) = totN (l.take k) + l[k].notes.length := sum_take_succ _ l k h
theorem totN_take_le (l : List Seg) (k : Nat) : totN (l.take k) ≤ totN l := sum_take_le _ l k
theorem notesFit_get {s : Seg} (h : notesFit s = true) {j : Nat} (hj : j < s.notes.length) : s.notes[j].seq = s.fr + j ∧ s.fr + j ≤ 1000000000 := by
 have := allB_get h hj
 simp only [noteFit, Bool.and_eq_true, decide_eq_true_eq, seqAt_get hj] at this
 exact this
theorem notesFit_false {s : Seg} {j : Nat} (hj : j < s.notes.length) (h : ¬ (s.notes[j].seq = s.fr + j ∧ s.fr + j ≤ 1000000000)) : notesFit s = false := by
 refine allB_false hj ?_
 unfold noteFit
 rw [seqAt_get hj, ← Bool.not_eq_true, Bool.and_eq_true, decide_eq_true_eq, decide_eq_true_eq]
 exact h
theorem notesFit_all {s : Seg} (h : ∀ j (hj : j < s.notes.length), s.notes[j].seq = s.fr + j ∧ s.fr + j ≤ 1000000000) : notesFit s = true := by
 refine allB_true fun j hj => ?_
 simp only [noteFit, Bool.and_eq_true, decide_eq_true_eq, seqAt_get hj]
 exact h j hj
theorem segFit_in {l : List Seg} {k : Nat} (hk : k < l.length) (h : inB l[k].fr 1 1000000000 = false) : segFit l k = false := by
 unfold segFit
 rw [segAt_get hk, h]
 simp
theorem segFit_step {l : List Seg} {k : Nat} (hk : k + 1 < l.length) (h : ¬ l[k + 1].fr = endO l[k]) : segFit l (k + 1) = false := by
 unfold segFit
 rw [segAt_get hk, show k + 1 - 1 = k from rfl, segAt_get (show k < l.length by omega), decide_eq_false h]
 simp
theorem segFit_notes {l : List Seg} {k : Nat} (hk : k < l.length) (h : notesFit l[k] = false) : segFit l k = false := by
 unfold segFit
 rw [segAt_get hk, h]
 simp
theorem segFit_yes {l : List Seg} {k : Nat} (hk : k < l.length) (h1 : inB l[k].fr 1 1000000000 = true) (h2 : 0 < k → l[k].fr = endO (segAt l (k - 1))) (h3 : notesFit l[k] = true) : segFit l k = true := by
 unfold segFit
 rw [segAt_get hk, h1, h3]
 by_cases e : k = 0
 ·simp [e]
 ·simp [e, h2 (by omega)]
theorem segFit_get {l : List Seg} {k : Nat} (hk : k < l.length) (h : segFit l k = true) : inB l[k].fr 1 1000000000 = true ∧ notesFit l[k] = true := by
 unfold segFit at h
 rw [segAt_get hk] at h
 simp only [Bool.and_eq_true] at h
 exact ⟨h.1.1, h.2⟩
/-- the part that has the number -/
def hasNo (q : Int) (s : Seg) : Bool := decide (0 < s.notes.length) && inB q s.fr (endO s - 1)
def segFor (l : List Seg) (q : Int) : Int := if segsOk l = true then idxOf (hasNo q) l else -1
theorem hasNo_iff {s : Seg} (h : notesFit s = true) (q : Int) : hasNo q s = true ↔ ∃ j, ∃ hj : j < s.notes.length, s.notes[j].seq = q := by
 unfold hasNo inB endO
 simp only [Bool.and_eq_true, decide_eq_true_eq]
 constructor
 ·rintro ⟨h1, h2, h3⟩
  exact ⟨(q - s.fr).toNat, by omega, by rw [(notesFit_get h (by omega)).1]; omega⟩
 ·rintro ⟨j, hj, e⟩
  have := (notesFit_get h hj).1
  omega
/-- the notes of all parts -/
def notesOf (l : List Seg) : List Note := l.flatMap (·.notes)
theorem notesOf_take_succ (l : List Seg) (k : Nat) (h : k < l.length) : notesOf (l.take (k + 1)) = notesOf (l.take k) ++ l[k].notes := by
 unfold notesOf
 rw [take_snoc l k h, List.flatMap_append]
 simp
theorem notesOf_len (l : List Seg) : (notesOf l).length = totN l := by
 unfold notesOf totN
 rw [List.length_flatMap]
theorem totN_le : ∀ (l : List Seg), totN l ≤ cntL cntSeg l
 | [] => by simp [totN]
 | s :: l => by
  have h1 := totN_le l
  have h2 := cntL_len cntNote s.notes
  unfold totN cntL at *
  simp only [List.map_cons, List.sum_cons, List.length_cons, cntSeg] at *
  unfold cntL at *
  omega
theorem cnt_notesOf : ∀ (l : List Seg), cntL cntNote (notesOf l) ≤ cntL cntSeg l
 | [] => by simp [notesOf, cntL]
 | s :: l => by
  have h1 := cnt_notesOf l
  unfold notesOf at h1 ⊢
  unfold cntL at *
  simp only [List.flatMap_cons, List.map_append, List.sum_append, List.length_append, List.map_cons, List.sum_cons, List.length_cons, cntSeg] at *
  unfold cntL
  omega
end Go.Proofs.Ytonlnjdempbfoaa
end
section
namespace Go.Proofs.Ytonlnjdempbfoaa
open Go.RowKit
set_option maxRecDepth 100000
set_option maxHeartbeats 2000000
def crossE (t : Int) (a b : Nat) : Edge := ⟨(a : Int), (b : Int) + t⟩
def crossRow (t : Int) (B : List Nat) (a : Nat) : List Edge := B.map (crossE t a)
def crossL (t : Int) (A B : List Nat) : List Edge := A.flatMap (crossRow t B)
noncomputable def moreL (p q : Plan) : List Edge := crossL p.tasks (sinksOf p) (sourcesOf q)
end Go.Proofs.Ytonlnjdempbfoaa
end
section
namespace Go.Proofs.Ytonlnjdempbfoaa
open Go.RowKit
set_option maxRecDepth 100000
set_option maxHeartbeats 1000000
set_option linter.unusedVariables false
set_option linter.unusedSimpArgs false
theorem specAhead_any (a b : Entry) (w : World) :
  Calls Try.prog 99 #[entryW a (), entryW b ()] w fun e w' => e = .returned (.bool (aheadE a b)) ∧ Below w.heap.size w w' := by
 cases t1 : decide (b.prio < a.prio) <;> cases t2 : (a.prio == b.prio) <;> cases t3 : decide (a.seq < b.seq)
 all_goals
  have H := Lib.hid (show (decide (b.prio < a.prio) || ((a.prio == b.prio) && decide (a.seq < b.seq))) = aheadE a b from rfl)
  go_enter Try.func99, Try.ntmps99
  go_wp2
  go_ret
  exact ⟨ret_bool (by rw [← H.out, t1, t2, t3]; rfl), by repeat (first | exact Below.refl _ _ | refine Below.alloc ?_ (by simp <;> omega) _)⟩
theorem shelf_step {l : List Entry} {k : Nat} (hk1 : 1 ≤ k) (hlt : k < l.length) (h : ∀ j (hj : j + 1 < l.length), j + 1 < k → aheadE l[j] l[j + 1] = true) (t : aheadE l[k - 1] l[k] = true) :
  ∀ j (hj : j + 1 < l.length), j + 1 < k + 1 → aheadE l[j] l[j + 1] = true := by
 intro j hj hjk
 by_cases e : j + 1 = k
 ·subst e; simpa using t
 ·exact h j hj (by omega)
theorem shelf_bad {l : List Entry} {k : Nat} (hk1 : 1 ≤ k) (hlt : k < l.length) (t : aheadE l[k - 1] l[k] = false) : ¬ shelfP l := by
 rintro ⟨_, h⟩
 have := h (k - 1) (by omega)
 have e : k - 1 + 1 = k := by omega
 simp only [e] at this
 rw [t] at this
 cases this
theorem specShelfOk_any (l : List Entry) (s : Sl) (w : World) (hl : l.length ≤ 2000000) (h : RdL entryD w w.heap.size s.v l) :
  Calls Try.prog 95 #[.slice s.a s.n s.c] w fun e w' => e = .returned (.bool (tf (shelfP l))) ∧ Below w.heap.size w w' := by
 obtain ⟨A, n, c⟩ := s
 obtain rfl : n = l.length := RdL.at1 (s := ⟨A, n, c⟩) h
 by_cases h8 : 80 < l.length
 ·have H := Lib.hid (tf_false (show ¬ shelfP l from fun h => by have := h.1; omega))
  have h8i : (80 : Int) < (l.length : Int) := by omega
  go_enter Try.func95, Try.ntmps95
  go_wp2
  go_ret
  exact ⟨ret_bool H.out.symm, Below.refl _ _⟩
 have h8i : ¬ (80 : Int) < (l.length : Int) := by omega
 go_enter Try.func95, Try.ntmps95
 go_wp2
 go_loopw [3] (fun i wr => ∃ k : Nat, 1 ≤ k ∧ (k ≤ l.length ∨ k = 1) ∧ i = .int .i64 k ∧ Hid (∀ j (hj : j + 1 < l.length), j + 1 < k → aheadE l[j] l[j + 1] = true) ∧ Below w.heap.size w wr) (fun i _ => l.length - (intOf i).toNat)
 case atStart => exact ⟨1, Nat.le_refl _, .inr rfl, rfl, fun j hj h0 => absurd h0 (by omega), Below.refl _ _⟩
 case round =>
  obtain ⟨k, hk1, hk, rfl, hok, hb⟩ := hrel
  have hki : (0 : Int) < (k : Int) := by omega
  by_cases hlt : k < l.length
  ·have hltI : (k : Int) < (l.length : Int) := by omega
   obtain ⟨b, o, _, rfl, hbb, _, c0, c1, c2, c3⟩ := (h.below hb).entry hlt
   obtain ⟨b', o', _, he, _, _, d0, d1, d2, d3⟩ := (h.below hb).entry (k := k - 1) (by omega)
   simp only [Option.some.injEq, Addr.mk.injEq, and_true] at he
   obtain ⟨rfl, rfl⟩ := he
   have hs : b < wr.heap.size := Nat.lt_of_lt_of_le hbb hb.size
   have hlc := later_cell wr
   cases t2 : aheadE l[k - 1] l[k]
   ·have H := Lib.hid (tf_false (shelf_bad hk1 hlt t2))
    go_wp2
    refine wp_region_pure (by kernel_rfl) (by kernel_rfl) ?_
    repeat (go_big_quiet_step ((go_at_call 99; rename_i x; have h1 := specAhead_any l[k - 1] l[k] x.1; exact pure_of h1)))
    refine wpQuiet_nil ?_
    rintro _ ⟨⟨w1, hb1⟩, rfl⟩
    clear hlc
    go_wp2
    go_ret
    exact ⟨ret_bool H.out.symm, bnext hb hb1⟩
   ·have S := Lib.hid (shelf_step hk1 hlt hok.out t2)
    go_wp2
    refine wp_region_pure (by kernel_rfl) (by kernel_rfl) ?_
    repeat (go_big_quiet_step ((go_at_call 99; rename_i x; have h1 := specAhead_any l[k - 1] l[k] x.1; exact pure_of h1)))
    refine wpQuiet_nil ?_
    rintro _ ⟨⟨w1, hb1⟩, rfl⟩
    clear hlc
    go_wp2
    exact ⟨⟨k + 1, by omega, by omega, by go_num, S, bnext hb hb1⟩, by simp [intOf]; omega⟩
  ·have hltI : ¬ (k : Int) < (l.length : Int) := by omega
   have H := Lib.hid (tf_true (show shelfP l from ⟨by omega, fun j hj => hok.out j hj (by omega)⟩))
   go_wp2
   go_ret
   exact ⟨ret_bool H.out.symm, hb⟩
/-- the tasks ahead of place k in a state -/
def tasksUpto (l : List Task) (s : Int) (k : Nat) : List Nat := (List.range k).filter fun t => (l.getD t ⟨0, 0, 0, 0⟩).state == s
def tasksIn (l : List Task) (s : Int) : List Nat := tasksUpto l s l.length
theorem tasksUpto_succ (l : List Task) (s : Int) (k : Nat) (hk : k < l.length) : tasksUpto l s (k + 1) = tasksUpto l s k ++ (if l[k].state = s then [k] else []) := by
 unfold tasksUpto
 rw [List.range_succ, List.filter_append]
 congr 1
 have : l.getD k ⟨0, 0, 0, 0⟩ = l[k] := by rw [List.getD_eq_getElem?_getD, List.getElem?_eq_getElem hk]; rfl
 by_cases h : l[k].state = s
 ·simp [h, this, hk]
 ·simp [h, this, hk]
theorem tasksUpto_le (l : List Task) (s : Int) (k : Nat) : (tasksUpto l s k).length ≤ k := by
 unfold tasksUpto
 exact Nat.le_trans (List.length_filter_le _ _) (by simp)
theorem beforeL_lt {es : List (Nat × Nat)} {T t x : Nat} (h : x ∈ beforeL es T t) : x < T := by
 unfold beforeL at h
 exact List.mem_range.1 (List.mem_filter.1 h).1
end Go.Proofs.Ytonlnjdempbfoaa
end
section
namespace Go.Proofs.Ytonlnjdempbfoaa
open Go.RowKit
set_option maxRecDepth 100000
theorem DBox.set {b : Nat} {cs : List Value} {w : World} (h : DBox b cs w) (j : Nat) (hj : j < cs.length) (u : Value) : DBox b (cs.set j u) (w.setCell ⟨b, j, none⟩ u) := by
 refine ⟨fun i x hx => ?_, fun i => by rw [setCell_frozen]; exact h.free i, by simpa [World.setCell] using h.lt⟩
 have hi : i < cs.length := by
  have := (List.getElem?_eq_some_iff.1 hx).1
  simpa using this
 rw [setCell_cell w b i j u cs[i] (h.cell i _ (List.getElem?_eq_getElem hi)) ⟨_, h.cell j _ (List.getElem?_eq_getElem hj)⟩]
 by_cases e : i = j
 ·subst e
  rw [List.getElem?_set_self hi] at hx
  rw [if_pos rfl]
  exact hx
 ·rw [List.getElem?_set_ne (Ne.symm e), List.getElem?_eq_getElem hi] at hx
  rw [if_neg e]
  exact hx
theorem DBox.off {b : Nat} {cs : List Value} {w w' : World} {row : Option Nat} (h : DBox b cs w) (hg : w.grownBy w' row) (hne : some b ≠ row) : DBox b cs w' :=
 h.keep hg.size (fun j => hg.cell_far ⟨b, j, none⟩ h.lt hne) (fun j => hg.frozen_far ⟨b, j, none⟩ h.lt hne)
theorem DBox.setOther {b : Nat} {cs : List Value} {w : World} (h : DBox b cs w) {a : Addr} (hne : b ≠ a.block) (u : Value) : DBox b cs (w.setCell a u) :=
 h.off (grown_setCell w a u) (fun e => hne (Option.some.inj e))
theorem Bld.setOther {α : Type} {d : Dt α} {E : TypeId} {w : World} {base : Nat} {v : Value} {rs : List (α × d.S)} (h : Bld d E w base v rs) {a : Addr} (ha : a.block < base) (u : Value) : Bld d E (w.setCell a u) base v rs := by
 obtain ⟨G, h1, h2, h3, h4⟩ := h
 refine ⟨G, h1.setOther (fun e => by have := h1.within _ e; omega) u, h2.keep (by simp [World.setCell]) (fun b hb => Below.heap_setCell w a u b (fun e => by have := (h4 b hb).1; omega)), h3, h4⟩
end Go.Proofs.Ytonlnjdempbfoaa
end
