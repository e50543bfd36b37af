/-
  A plan that is drawn. slices.Sort on a slice of the call's own; BeforeOf and BehindOf of the program. Slots that fit a plan: plain facts. The argument of a law that draws: bytes, read as data. OrderOf of the program. The handing out of tasks to workers, step by step: plain facts. SourcesOf and SinksOf of both.
-/
import Derived.Test.YtnaicippgocdfaaZS2
import Derived.Sort.OwnSortedInts
section
namespace Go.Proofs.Ytnaicippgocdfaa
open Go.RowKit
set_option maxRecDepth 100000
set_option maxHeartbeats 2000000
set_option linter.unusedVariables false

theorem Chg.alloc {F : List Nat} {a w : World} (h : Chg F a w) (o : Obj) : Chg F a (w.alloc o) := h.trans (Chg.of_below F ((Below.refl _ _).alloc (Nat.le_refl _) o))
theorem Chg.setNew {F : List Nat} {a w : World} (h : Chg F a w) {p : Addr} (hp : a.heap.size ≤ p.block) {u : Value} : Chg F a (w.setCell p u) :=
  ⟨h.os, h.tape, h.output, by have := h.size; simpa [World.setCell] using this, fun i hi hn => (Below.heap_setCell w p u i (by omega)).trans (h.block i hi hn)⟩
theorem Chg.grownNew {F : List Nat} {a w w' : World} {row : Option Nat} (h : Chg F a w) (hg : w.grownBy w' row) (hr : ∀ g, row = some g → a.heap.size ≤ g) : Chg F a w' :=
  ⟨hg.os.trans h.os, hg.tape.trans h.tape, hg.output.trans h.output, Nat.le_trans h.size hg.size, fun i hi hn => (hg.block i (Nat.lt_of_lt_of_le hi h.size) (fun e => by have := hr i e.symm; omega)).trans (h.block i hi hn)⟩
theorem Chg.belowNew {F : List Nat} {a w w' : World} (h : Chg F a w) (hb : Below w.heap.size w w') : Chg F a w' := h.trans (Chg.of_below F hb)
theorem Chg.toGrown {b : Nat} {w w' : World} (h : Chg [b] w w') : w.grownBy w' (some b) :=
  ⟨h.os, h.tape, h.output, h.size, fun k hk hn => h.block k hk (fun hm => hn (by simp only [List.mem_singleton] at hm; rw [hm]))⟩
theorem Drw.setNew {b : Nat} {v : Value} {code : List UInt8} {c : Cur} {w : World} (h : Drw b v code c w) {p : Addr} (hp : b < p.block) (u : Value) : Drw b v code c (w.setCell p u) := by
  refine h.chg (F := [p.block]) (w' := w.setCell p u) ⟨rfl, rfl, rfl, by simp [World.setCell], fun i _ hn => Below.heap_setCell w p u i (by simpa using hn)⟩ (fun x hx => by simp only [List.mem_singleton] at hx; omega)
theorem Drw.grownNew {b : Nat} {v : Value} {code : List UInt8} {c : Cur} {w w' : World} {row : Option Nat} (h : Drw b v code c w) (hg : w.grownBy w' row) (hr : ∀ g, row = some g → b < g) : Drw b v code c w' :=
  h.chg (F := row.toList) (Chg.grown hg (fun g e => by simp [e])) (fun x hx => hr x (by simpa using hx))
theorem Drw.alloc {b : Nat} {v : Value} {code : List UInt8} {c : Cur} {w : World} (h : Drw b v code c w) (o : Obj) : Drw b v code c (w.alloc o) := h.below ((Below.refl _ _).alloc (Nat.le_refl _) o)
theorem Drw.drewN {b : Nat} {v : Value} {code : List UInt8} {c : Cur} {w : World} (h : Drw b v code c w) (n : Nat) : Drw b v code c (w.drewN n) := ⟨h.box.drewN n, h.rd, h.small, h.le⟩
theorem BoxAt.chg {F : List Nat} {b : Nat} {p : Plan} {v : Value} {w w' : World} (h : BoxAt b p v w) (hc : Chg F w w') (hn : b ∉ F) : BoxAt b p v w' :=
  h.keep hc.size (fun j => hc.cell (p := ⟨b, j, none⟩) h.lt hn) (fun j => hc.frozen (p := ⟨b, j, none⟩) h.lt hn)
theorem BoxAt.drewN {b : Nat} {p : Plan} {v : Value} {w : World} (h : BoxAt b p v w) (n : Nat) : BoxAt b p v (w.drewN n) := ⟨h.cells, h.free⟩
theorem EdgeAt.chg {F : List Nat} {b : Nat} {e : Edge} {w w' : World} (h : EdgeAt b e w) (hc : Chg F w w') (hn : b ∉ F) : EdgeAt b e w' := by
  obtain ⟨h0, h1, h2⟩ := h.cells
  exact ⟨(hc.cell (p := ⟨b, 0, none⟩) h2 hn).trans h0, (hc.cell (p := ⟨b, 1, none⟩) h2 hn).trans h1, Nat.lt_of_lt_of_le h2 hc.size⟩
theorem Ow.chg {α : Type} {e : Enc α} {E : TypeId} {w w' : World} {base b : Nat} {v : Value} {l : List α} (h : Ow e E w base v l) (hc : Chg [b] w w') (hb : b < base) : Ow e E w' base v l :=
  h.grown hc.toGrown (.inr (fun e' => by have := h.within b e'; omega))

theorem Ow.setLow {α : Type} {e : Enc α} {E : TypeId} {w : World} {base : Nat} {v : Value} {l : List α} (h : Ow e E w base v l) {a : Addr} (ha : a.block < base) (u : Value) : Ow e E (w.setCell a u) base v l :=
  h.setOther (fun e' => by have := h.within _ e'; omega) u

def newTo (code : List UInt8) (T : Int) (c : Cur) : Int := 1 + (curBelow code (T - 1) (curBelow code 9 c).2).1
def newE (code : List UInt8) (T : Int) (c : Cur) : Edge := ⟨(curBelow code (newTo code T c) (curBelow code (T - 1) (curBelow code 9 c).2).2).1, newTo code T c⟩
def newC (code : List UInt8) (T : Int) (c : Cur) : Cur := (curBelow code (newTo code T c) (curBelow code (T - 1) (curBelow code 9 c).2).2).2
def addE (es : List Edge) (e : Edge) : List Edge := if e ∈ es then es else es ++ [e]
/-- the edges that are drawn, i of them gone by -/
def planGo (code : List UInt8) (T : Int) : Nat → Nat → List Edge → Cur → List Edge × Cur
  | 0, _, es, c => (es, c)
  | f + 1, i, es, c => if (i : Int) < (curBelow code 9 c).1 ∧ 1 < T then planGo code T f (i + 1) (addE es (newE code T c)) (newC code T c) else (es, (curBelow code 9 c).2)
def planT (once : Bool) (t : Int) : Int := if once = true then 12 else 1 + t
def curPlan (code : List UInt8) (c : Cur) : Plan × Cur :=
  let a := curBelow code 4 c
  let b := curBelow code 3 a.2
  let d := curBelow code 4 b.2
  let t := curBelow code 6 d.2
  let o := curOnce code 10 t.2
  let g := planGo code (planT o.1 t.1) 10 0 [] o.2
  (⟨a.1, 1 + b.1, 1 + d.1, planT o.1 t.1, g.1⟩, g.2)
def PlanP (b : Nat) (v : Value) (code : List UInt8) (r : Plan × Cur) (w : World) (e : Ending) (w' : World) : Prop :=
  ∃ u, e = .returned (planV r.1 u) ∧ Ow edgeE 52 w' w.heap.size u r.1.edges ∧ Drw b v code r.2 w' ∧ Chg [b] w w'

theorem drawPlan_any (b : Nat) (v : Value) (code : List UInt8) (c : Cur) (w : World) (h : Drw b v code c w) :
    Calls Try.prog 46 #[.pointer (some ⟨b, 0, none⟩)] w (PlanP b v code (curPlan code c) w) := by
  have hb := h.box.lt
  go_enter Try.func46, Try.ntmps46
  go_wp2_with fail
  have C0 := (Chg.refl [b] w).alloc (.cells #[.int .i64 0, .int .i64 0, .int .i64 0, .int .i64 0, .slice none 0 0] 26)
  have h := h.alloc (.cells #[.int .i64 0, .int .i64 0, .int .i64 0, .int .i64 0, .slice none 0 0] 26)
  have R0 := BoxAt.new' 26 ⟨0, 0, 0, 0, []⟩ (.slice none 0 0) w rfl
  have hbz : b < w.heap.size := hb
  refine (below_any 4 b v code c _ (by omega) h).mono ?_
  rintro e w1 ⟨rfl, k1, c1⟩
  have B1 := curBelow_bd code (n := 4) c (by omega)
  generalize hr1 : curBelow code 4 c = r1 at *
  have H1 := Lib.hid hr1
  clear hr1
  have R1 := R0.chg c1 (by simp; omega)
  go_wp2_with fail
  refine (below_any 3 b v code _ _ (by omega) k1).mono ?_
  rintro e w2 ⟨rfl, k2, c2⟩
  have B2 := curBelow_bd code (n := 3) r1.2 (by omega)
  generalize hr2 : curBelow code 3 r1.2 = r2 at *
  have H2 := Lib.hid hr2
  clear hr2
  have R2 := R1.chg c2 (by simp; omega)
  go_wp2_with fail
  refine (below_any 4 b v code _ _ (by omega) k2).mono ?_
  rintro e w3 ⟨rfl, k3, c3⟩
  have B3 := curBelow_bd code (n := 4) r2.2 (by omega)
  generalize hr3 : curBelow code 4 r2.2 = r3 at *
  have H3 := Lib.hid hr3
  clear hr3
  have R3 := R2.chg c3 (by simp; omega)
  go_wp2_with fail
  refine (below_any 6 b v code _ _ (by omega) k3).mono ?_
  rintro e w4 ⟨rfl, k4, c4⟩
  have B4 := curBelow_bd code (n := 6) r3.2 (by omega)
  generalize hr4 : curBelow code 6 r3.2 = r4 at *
  have H4 := Lib.hid hr4
  clear hr4
  have R4 := R3.chg c4 (by simp; omega)
  have C4 := (((C0.trans c1).trans c2).trans c3).trans c4
  have S4 := C4.size
  clear C0 c1 c2 c3 c4 R0 R1 R2 R3 h k1 k2 k3
  go_wp2_with fail
  have P5 := BoxAt.new' 26 ⟨r1.1, 1 + r2.1, 1 + r3.1, 1 + r4.1, []⟩ (.slice none 0 0) w4 rfl
  have R5 := R4.below ((Below.refl _ _).alloc (Nat.le_refl _) (.cells #[.int .i64 r1.1, .int .i64 (1 + r2.1), .int .i64 (1 + r3.1), .int .i64 (1 + r4.1), .slice none 0 0] 26))
  have C5 := C4.alloc (.cells #[.int .i64 r1.1, .int .i64 (1 + r2.1), .int .i64 (1 + r3.1), .int .i64 (1 + r4.1), .slice none 0 0] 26)
  have k5 := k4.alloc (.cells #[.int .i64 r1.1, .int .i64 (1 + r2.1), .int .i64 (1 + r3.1), .int .i64 (1 + r4.1), .slice none 0 0] 26)
  have R4s := R4.lt
  obtain ⟨pb, hpb⟩ : ∃ pb, pb = w4.heap.size := ⟨_, rfl⟩
  rw [← hpb] at P5 R4s ⊢
  generalize (w4.alloc (.cells #[.int .i64 r1.1, .int .i64 (1 + r2.1), .int .i64 (1 + r3.1), .int .i64 (1 + r4.1), .slice none 0 0] 26)) = w5 at *
  clear R4 C4 k4 S4 hpb
  refine (once_any 10 b v code _ _ (by omega) k5).mono ?_
  rintro e w6 ⟨rfl, k6, c6⟩
  generalize hr5 : curOnce code 10 r4.2 = r5 at *
  have H5 := Lib.hid hr5
  clear hr5
  have P6 := P5.chg c6 (by simp; omega)
  have R6 := R5.chg c6 (by simp; omega)
  have C6 := C5.trans c6
  clear c6 P5 R5 C5 k5
  obtain ⟨T, hT, hT1, hT2⟩ : ∃ T : Int, Hid (planT r5.1 r4.1 = T) ∧ 1 ≤ T ∧ T ≤ 12 := ⟨_, Lib.hid rfl, by unfold planT; split <;> omega, by unfold planT; split <;> omega⟩
  have HE : Hid (∀ g, planGo code T 10 0 [] r5.2 = g → curPlan code c = (⟨r1.1, 1 + r2.1, 1 + r3.1, T, g.1⟩, g.2)) := by
    intro g hg
    unfold curPlan
    simp only [H1.out, H2.out, H3.out, H4.out, H5.out, hT.out, hg]
  have P6c := P6.cells
  have P6f := P6.free
  obtain ⟨i0, hi0, hz0, hz1, hz2⟩ := info_parts edge_info
  cases ho : r5.1
  case' false =>
    rw [ho] at hT
    have hT' : 1 + r4.1 = T := hT.out
    rw [hT'] at P6
    clear hT hT' P6c
    have C7 := C6
    have P7 := P6
    have k7 := k6
    have R7 := R6
    have P7c := P7.cells
    go_wp2_with fail
  case' true =>
    rw [ho] at hT
    have hT' : (12 : Int) = T := hT.out
    have C7 := C6.setNew (p := ⟨pb, 3, none⟩) (u := .int .i64 T) (by simp; omega)
    have P7 : BoxAt pb ⟨r1.1, 1 + r2.1, 1 + r3.1, T, []⟩ (.slice none 0 0) (w6.setCell ⟨pb, 3, none⟩ (.int .i64 T)) := P6.setTasks T
    have k7 := k6.setNew (p := ⟨pb, 3, none⟩) (by simp; omega) (.int .i64 T)
    have R7 := R6.other (a := ⟨pb, 3, none⟩) (by simp; omega) (.int .i64 T)
    go_wp2_with fail
    clear hT hT' P6c
    generalize (w6.setCell ⟨pb, 3, none⟩ (.int .i64 T)) = w7 at *
  all_goals
    clear P6 k6 R6 C6 P6f
    try clear P7c
    try clear H1 H2 H3 H4 H5
    go_loopw [4] (fun i wr => ∃ (k : Nat) (es : List Edge) (u : Value) (c' : Cur), k ≤ 9 ∧ i = .int .i64 k ∧ es.length ≤ k ∧ Drw b v code c' wr ∧ BoxAt pb ⟨r1.1, 1 + r2.1, 1 + r3.1, T, es⟩ u wr ∧ Ow edgeE 52 wr (pb + 1) u es ∧ Chg [b] w wr ∧ BoxAt w.heap.size ⟨0, 0, 0, 0, []⟩ (.slice none 0 0) wr ∧ Hid (planGo code T (10 - k) k es c' = planGo code T 10 0 [] r5.2)) (fun i _ => 9 - (intOf i).toNat)
    case atStart => exact ⟨0, [], _, _, by omega, rfl, by simp, k7, P7, Ow.nil _ _ _ _, C7, R7, rfl⟩
    case round =>
      clear C7 P7 k7 R7
      obtain ⟨k, es, u, c', hk, rfl, hes, K, P, O, C, R, G⟩ := hrel
      go_wp2_with fail
      refine (below_any 9 b v code _ _ (by omega) K).mono ?_
      rintro e wa ⟨rfl, ka, ca⟩
      have Ba := curBelow_bd code (n := 9) c' (by omega)
      generalize hq1 : curBelow code 9 c' = q1 at *
      have Hq1 := Lib.hid hq1
      clear hq1
      have Pa := P.chg ca (by simp; omega)
      have Ra := R.chg ca (by simp; omega)
      have Oa := O.chg ca (by omega)
      have Ca := C.trans ca
      clear K P R O C ca
      obtain ⟨p0, p1, p2, p3, p4, ps⟩ := Pa.cells
      obtain ⟨z0, z1, z2, z3, z4, zs⟩ := Ra.cells
      have pf := Pa.free
      have zf := Ra.free
      by_cases hgo : (k : Int) < q1.1 ∧ 1 < T
      · obtain ⟨g1, g2⟩ := hgo
        go_wp2_with fail
        refine (below_any (T - 1) b v code _ _ (by omega) ka).mono ?_
        rintro e wb ⟨rfl, kb, cb⟩
        have Bb := curBelow_bd code (n := T - 1) q1.2 (by omega)
        generalize hq2 : curBelow code (T - 1) q1.2 = q2 at *
        have Hq2 := Lib.hid hq2
        clear hq2 p0 p1 p2 p3 p4 ps z0 z1 z2 z3 z4 zs pf zf
        have Pb := Pa.chg cb (by simp; omega)
        have Rb := Ra.chg cb (by simp; omega)
        have Ob := Oa.chg cb (by omega)
        have Cb := Ca.trans cb
        clear ka Pa Ra Oa Ca cb
        go_wp2_with fail
        refine (below_any (1 + q2.1) b v code _ _ (by omega) kb).mono ?_
        rintro e wc ⟨rfl, kc, cc⟩
        have Bc := curBelow_bd code (n := 1 + q2.1) q2.2 (by omega)
        generalize hq3 : curBelow code (1 + q2.1) q2.2 = q3 at *
        have Hq3 := Lib.hid hq3
        clear hq3
        have Pc := Pb.chg cc (by simp; omega)
        have Rc := Rb.chg cc (by simp; omega)
        have Oc := Ob.chg cc (by omega)
        have Cc := Cb.trans cc
        clear kb Pb Rb Ob Cb cc
        go_wp2_with fail
        have ha : Below wc.heap.size wc (wc.alloc (.cells #[.int .i64 q3.1, .int .i64 (1 + q2.1)] 52)) := (Below.refl _ _).alloc (Nat.le_refl _) _
        have D := EdgeAt.new 52 ⟨q3.1, 1 + q2.1⟩ wc
        have eb : pb < wc.heap.size := Pc.lt
        have Pd := Pc.below ha
        have Re := Rc.below ha
        have Od := Oc.below ha
        have Cd := Cc.belowNew ha
        have kd := kc.below ha
        obtain ⟨ep, hep⟩ : ∃ ep, ep = wc.heap.size := ⟨_, rfl⟩
        rw [← hep] at D eb ⊢
        generalize (wc.alloc (.cells #[.int .i64 q3.1, .int .i64 (1 + q2.1)] 52)) = wd at *
        have eO : Hid (∀ g, u.ownBlock = some g → g < ep) := fun g hg => by have := Oc.within g hg; omega
        clear Pc Rc Oc Cc kc ha hep
        obtain ⟨A, cap, rfl, -⟩ := id (Rd.of_own Od)
        obtain ⟨p0, p1, p2, p3, p4, ps⟩ := Pd.cells
        obtain ⟨d0, d1, ds⟩ := D.cells
        go_loopw [7, 8] (fun tw j wq => ∃ m n : Nat, m ≤ es.length ∧ j = .int .i64 m ∧ tw = .bool (decide ((⟨q3.1, 1 + q2.1⟩ : Edge) ∈ es.take m)) ∧ wq = wd.drewN n) (fun _ j _ => es.length - (intOf j).toNat)
        case atStart => exact ⟨0, 0, Nat.zero_le _, rfl, by simp, rfl⟩
        case round =>
          obtain ⟨m, nd, hm, rfl, rfl, rfl⟩ := hrel
          by_cases hlt : m < es.length
          · have hltI : (m : Int) < (es.length : Int) := by omega
            have hm0 : (0 : Int) ≤ (m : Int) := by omega
            obtain ⟨g, oo, rfl, hgg, x0, x1⟩ := (Rd.of_own Od).edge hlt
            obtain ⟨z0, z1, z2⟩ : True ∧ True ∧ True := ⟨trivial, trivial, trivial⟩
            have hnx : Hid (∀ t, t = decide ((⟨q3.1, 1 + q2.1⟩ : Edge) ∈ es.take (m + 1)) → Value.bool t = .bool (decide ((⟨q3.1, 1 + q2.1⟩ : Edge) ∈ es.take (m + 1)))) := fun t h => by rw [h]
            cases hd : decide ((⟨q3.1, 1 + q2.1⟩ : Edge) ∈ es.take m)
            · by_cases e0 : es[m].fr = q3.1
              · by_cases e1 : es[m].to = 1 + q2.1
                · have S : Hid (decide ((⟨q3.1, 1 + q2.1⟩ : Edge) ∈ es.take (m + 1)) = true) := by
                    refine decide_eq_true ?_
                    rw [take_snoc es m hlt]
                    refine List.mem_append_right _ (List.mem_singleton.2 ?_)
                    cases hx : es[m]
                    rw [hx] at e0 e1
                    simp only at e0 e1
                    rw [e0, e1]
                  rw [e0] at x0
                  rw [e1] at x1
                  clear e0 e1 hd
                  go_wp2
                  go_quiet (fail)
                  go_wp2
                  exact ⟨⟨m + 1, _, by omega, by go_num, by rw [S.out], rfl⟩, by simp [intOf]; omega⟩
                · have S : Hid (decide ((⟨q3.1, 1 + q2.1⟩ : Edge) ∈ es.take (m + 1)) = false) := by
                    refine decide_eq_false ?_
                    rw [take_snoc es m hlt, List.mem_append, List.mem_singleton]
                    rintro (h | h)
                    · exact of_decide_eq_false hd h
                    · rw [← h] at e1; exact e1 rfl
                  have e1' : (es[m].to == 1 + q2.1) = false := beq_eq_false_iff_ne.2 e1
                  rw [e0] at x0
                  clear e0 e1 hd
                  go_wp2
                  go_quiet (fail)
                  go_wp2
                  exact ⟨⟨m + 1, _, by omega, by go_num, by rw [S.out], rfl⟩, by simp [intOf]; omega⟩
              · have S : Hid (decide ((⟨q3.1, 1 + q2.1⟩ : Edge) ∈ es.take (m + 1)) = false) := by
                  refine decide_eq_false ?_
                  rw [take_snoc es m hlt, List.mem_append, List.mem_singleton]
                  rintro (h | h)
                  · exact of_decide_eq_false hd h
                  · rw [← h] at e0; exact e0 rfl
                have e0' : (es[m].fr == q3.1) = false := beq_eq_false_iff_ne.2 e0
                clear e0 hd
                go_wp2
                go_quiet (fail)
                go_wp2
                exact ⟨⟨m + 1, _, by omega, by go_num, by rw [S.out], rfl⟩, by simp [intOf]; omega⟩
            · have S : Hid (decide ((⟨q3.1, 1 + q2.1⟩ : Edge) ∈ es.take (m + 1)) = true) := by
                refine decide_eq_true ?_
                rw [take_snoc es m hlt]
                exact List.mem_append_left _ (of_decide_eq_true hd)
              clear hd
              go_wp2
              go_quiet (fail)
              go_wp2
              exact ⟨⟨m + 1, _, by omega, by go_num, by rw [S.out], rfl⟩, by simp [intOf]; omega⟩
          · have hme : m = es.length := by omega
            subst hme
            have hltI : ¬ (es.length : Int) < (es.length : Int) := by omega
            rw [List.take_length]
            have H1' : 10 - k = (9 - k) + 1 := by omega
            have GO : ∀ g, planGo code T (9 - k) (k + 1) (addE es ⟨q3.1, 1 + q2.1⟩) q3.2 = g → planGo code T 10 0 [] r5.2 = g := by
              intro g hg
              rw [← G.out, H1', planGo, if_pos (by rw [Hq1.out]; exact ⟨g1, g2⟩)]
              unfold newE newC newTo
              rw [Hq1.out, Hq2.out, Hq3.out]
              exact hg
            have GO := Lib.hid GO
            cases hd : decide ((⟨q3.1, 1 + q2.1⟩ : Edge) ∈ es)
            · have S : Hid (addE es ⟨q3.1, 1 + q2.1⟩ = es ++ [⟨q3.1, 1 + q2.1⟩]) := by
                show addE _ _ = _
                unfold addE
                rw [if_neg (of_decide_eq_false hd)]
              clear hd H1'
              have kx := kd.drewN nd
              have Px := Pd.drewN nd
              have Ox := Od.below (bdrewN (Below.refl _ wd) nd)
              have Cx := Cd.drewN nd
              have Rx := Re.drewN nd
              have hzx : ep < (wd.drewN nd).heap.size := ds
              have q0 : (wd.drewN nd).cell? ⟨pb, 4, none⟩ = some (.slice A es.length cap) := p4
              have q1' : (wd.drewN nd).cell? ⟨ep, 0, none⟩ = some (.int .i64 q3.1) := d0
              have q2' : (wd.drewN nd).cell? ⟨ep, 1, none⟩ = some (.int .i64 (1 + q2.1)) := d1
              clear p0 p1 p2 p3 p4 ps d0 d1 ds D Od kd Pd Cd Re eO
              generalize wd.drewN nd = wx at *
              have hax : Below wx.heap.size wx (wx.alloc (.cells #[.int .i64 q3.1, .int .i64 (1 + q2.1)] 52)) := (Below.refl _ _).alloc (Nat.le_refl _) _
              have hne : Hid (some pb ≠ (Value.slice A es.length cap).ownBlock) := fun e => by have := Ox.within pb e.symm; omega
              go_wp2_with (at_builtin; refine wpList_push_all _ edgeE (by decide) rfl (.tmp 66) (.tmp 68) rfl Try.underlying24 hi0 hz0 hz1 hz2 rfl (v := .slice A es.length cap) (l := es) rfl (Ox.below hax) rfl (Rd.one edgeE _ _ ⟨q3.1, 1 + q2.1⟩ rfl rfl 1 (Nat.le_refl _) (Nat.lt_succ_self _)) (by omega) (by simp) (by decide) (by simp; omega) ?_; intro v5 w5 o5 g5 f5; obtain ⟨A5, c5, rfl, -⟩ := id (Rd.of_own o5); have P5 := (Px.below hax).far g5 hne.out; have pf5 := P5.free; have pc5 := P5.cells)
              have hb5 : ∀ g, (Value.slice A es.length cap).ownBlock = some g → pb < g := fun g hg => by have := Ox.within g hg; omega
              have e9 : 9 - k = 10 - (k + 1) := by omega
              refine ⟨⟨k + 1, es ++ [⟨q3.1, 1 + q2.1⟩], _, q3.2, by omega, by go_num, by simp; omega, ((kx.below hax).grownNew g5 (fun g hg => by have := hb5 g hg; omega)).setNew (by show b < pb; omega) _, P5.setEdges _ _, (by have := o5.setLow (a := ⟨pb, 4, none⟩) (Nat.lt_succ_self pb) (.slice A5 (es.length + 1) c5); simp only [List.length_append, List.length_singleton] at this; exact this), ((Cx.belowNew hax).grownNew g5 (fun g hg => by have := hb5 g hg; omega)).setNew (by show w.heap.size ≤ pb; omega), ((Rx.below hax).far g5 (fun e => by have := hb5 _ e.symm; omega)).other (by show w.heap.size ≠ pb; omega) _, ?_⟩, by simp [intOf]; omega⟩
              show planGo code T (10 - (k + 1)) (k + 1) (es ++ [⟨q3.1, 1 + q2.1⟩]) q3.2 = _
              have := GO.out _ rfl
              rw [S.out] at this
              rw [this, e9]
            · have S : Hid (addE es ⟨q3.1, 1 + q2.1⟩ = es) := by
                show addE _ _ = _
                unfold addE
                rw [if_pos (of_decide_eq_true hd)]
              clear hd H1'
              go_wp2
              refine ⟨⟨k + 1, es, _, q3.2, by omega, by go_num, by omega, kd.drewN _, Pd.drewN _, Od.below (bdrewN (Below.refl _ _) _), Cd.drewN _, Re.drewN _, ?_⟩, by simp [intOf]; omega⟩
              show planGo code T (10 - (k + 1)) (k + 1) es q3.2 = _
              have := GO.out _ rfl
              rw [S.out] at this
              rw [this]
              congr 1
              omega
      · have GE : Hid (planGo code T 10 0 [] r5.2 = (es, q1.2)) := by
          show planGo code T 10 0 [] r5.2 = (es, q1.2)
          rw [← G.out, show 10 - k = (9 - k) + 1 by omega, planGo, if_neg (by rw [Hq1.out]; exact hgo), Hq1.out]
        have E := Lib.hid (HE.out _ GE.out)
        obtain ⟨A, cap, rfl, -⟩ := id (Rd.of_own Oa)
        clear HE G Hq1 GE hk hes
        have hfin : ∀ W, W = ((((wa.setCell ⟨w.heap.size, 0, none⟩ (.int .i64 r1.1)).setCell ⟨w.heap.size, 1, none⟩ (.int .i64 (1 + r2.1))).setCell ⟨w.heap.size, 2, none⟩ (.int .i64 (1 + r3.1))).setCell ⟨w.heap.size, 3, none⟩ (.int .i64 T)).setCell ⟨w.heap.size, 4, none⟩ (.slice A es.length cap) →
            PlanP b v code (curPlan code c) w (.returned (planV ⟨r1.1, 1 + r2.1, 1 + r3.1, T, es⟩ (.slice A es.length cap))) W := by
          rintro W rfl
          rw [E.out]
          have hO : ∀ {W : World}, Ow edgeE 52 W (pb + 1) (.slice A es.length cap) es → ∀ j u', Ow edgeE 52 (W.setCell ⟨w.heap.size, j, none⟩ u') (pb + 1) (.slice A es.length cap) es := fun h j u' => h.setLow (a := ⟨w.heap.size, j, none⟩) (Nat.lt_succ_of_lt R4s) _
          refine ⟨_, rfl, (hO (hO (hO (hO (hO Oa 0 _) 1 _) 2 _) 3 _) 4 _).more (by omega), ?_, ?_⟩
          · repeat (first | exact ka | refine Drw.setNew ?_ (by simp; omega) _)
          · repeat (first | exact Ca | refine Chg.setNew ?_ (by simp))
        by_cases g1 : (k : Int) < q1.1
        · have g2 : ¬ 1 < T := fun h => hgo ⟨g1, h⟩
          clear hgo
          go_wp2
          refine bodyPost_ret (v := planV ⟨r1.1, 1 + r2.1, 1 + r3.1, T, es⟩ (.slice A es.length cap)) ?_ rfl (hfin _ rfl)
          simp [planV, results, Try.results46, go_sem, *]
        · clear hgo
          go_wp2
          refine bodyPost_ret (v := planV ⟨r1.1, 1 + r2.1, 1 + r3.1, T, es⟩ (.slice A es.length cap)) ?_ rfl (hfin _ rfl)
          simp [planV, results, Try.results46, go_sem, *]
end Go.Proofs.Ytnaicippgocdfaa
end
section
namespace Go.Proofs.Ytnaicippgocdfaa
open Go.RowKit
set_option maxRecDepth 100000
set_option maxHeartbeats 2000000

theorem natE_flat (l : List Nat) : l.flatMap natE.cells = (l.map fun (x : Nat) => (x : Int)).map (Value.int .i64) := by
  induction l with
  | nil => rfl
  | cons a l ih => rw [List.flatMap_cons, ih]; rfl

theorem sorted_nat {l l' : List Nat} (hp : l'.Perm l) (hs : l'.Pairwise (· ≤ ·)) : ((l.map fun (x : Nat) => (x : Int)).mergeSort fun x y => decide (x ≤ y)) = l'.map fun (x : Nat) => (x : Int) := by
  have h1 := List.mergeSort_perm (l.map fun (x : Nat) => (x : Int)) (fun x y => decide (x ≤ y))
  have h2 := List.pairwise_mergeSort (le := fun x y : Int => decide (x ≤ y)) (fun a b c h1 h2 => by simp at *; omega) (fun a b => by simp; omega) (l.map fun (x : Nat) => (x : Int))
  have h3 : (l'.map fun (x : Nat) => (x : Int)).Pairwise (fun x y => decide (x ≤ y) = true) := by
    rw [List.pairwise_map]
    exact hs.imp (fun h => by simpa using h)
  refine List.Perm.eq_of_pairwise (le := fun x y => decide (x ≤ y) = true) ?_ h2 h3 (h1.trans (hp.symm.map _))
  intro a b _ _ h h'
  simp at h h'
  omega

theorem sortInt_any (v : Value) (l l' : List Nat) (base : Nat) (w : World) (hl : l.length ≤ 2000000) (hp : l'.Perm l) (hs : l'.Pairwise (· ≤ ·)) (ho : Ow natE 3 w base v l) :
    Calls Try.prog 72 #[v] w fun e w' => e = .returned (.tuple #[]) ∧ Ow natE 3 w' base v l' ∧ w.grownBy w' v.ownBlock := by
  rcases ho.2 with ⟨rfl, hn⟩ | ⟨g, cap, cur, rfl, hg, hh, hc, hm, hsz, ht⟩
  · have hl0 : l = [] := List.eq_nil_of_length_eq_zero hn
    subst hl0
    have : l' = [] := List.Perm.eq_nil hp
    subst this
    refine (Try.slices_Sort_int_none none 0 w).mono ?_
    rintro e w' ⟨he, rfl⟩
    exact ⟨he, ho, World.grownBy.refl _ _⟩
  · have hll : (l.map fun (x : Nat) => (x : Int)).length = l.length := List.length_map _
    have ht' : cur.toList.take (l.map fun (x : Nat) => (x : Int)).length = (l.map fun (x : Nat) => (x : Int)).map (Value.int .i64) := by
      rw [hll, ← natE_flat, ← ht]
      simp [natE]
    have hH := holds_of_blockI hh ht'
    have hgl : g < w.heap.size := (Array.getElem?_eq_some_iff.1 hh).1
    have h := Try.slices_Sort_int g 0 cap (l.map fun (x : Nat) => (x : Int)) w hH hgl (by rw [hll]; omega)
    rw [hll] at h
    refine h.mono ?_
    rintro e w' ⟨he, n, os, rfl⟩
    rw [sorted_nat hp hs]
    refine ⟨he, ?_, grownBy_sortedI _⟩
    have hlen : l'.length = l.length := hp.length_eq
    have := ownsRow_sortedI (n := n) (os := os) (ss := l.map fun (x : Nat) => (x : Int)) (ts := l'.map fun (x : Nat) => (x : Int)) (by simp [hlen]) hg hh (by rw [hll]; exact hc) hm hsz
    unfold Ow
    rw [hlen, natE_flat]
    rw [hll] at this
    exact this

theorem beforeL_sorted (es : List (Nat × Nat)) (T t : Nat) : (beforeL es T t).Pairwise (· ≤ ·) := (List.pairwise_lt_range.imp (fun h => Nat.le_of_lt h)).filter _
theorem behindL_sorted (es : List (Nat × Nat)) (T t : Nat) : (behindL es T t).Pairwise (· ≤ ·) := (List.pairwise_lt_range.imp (fun h => Nat.le_of_lt h)).filter _

/-- the ends that edges to t come from, in the edges' order; those that edges from t go to -/
def fromsL (es : List (Nat × Nat)) (t : Nat) : List Nat := (es.filter fun e => decide (e.2 = t)).map (·.1)
def tosL (es : List (Nat × Nat)) (t : Nat) : List Nat := (es.filter fun e => decide (e.1 = t)).map (·.2)
theorem fromsL_len (es : List (Nat × Nat)) (t : Nat) : (fromsL es t).length ≤ es.length := by
  simp only [fromsL, List.length_map]; exact List.length_filter_le _ _
theorem tosL_len (es : List (Nat × Nat)) (t : Nat) : (tosL es t).length ≤ es.length := by
  simp only [tosL, List.length_map]; exact List.length_filter_le _ _
theorem fromsL_yes {l l' : List (Nat × Nat)} {a d : Nat} (h : l' = l ++ [(a, d)]) : fromsL l' d = fromsL l d ++ [a] := by
  subst h; simp [fromsL, List.filter_append]
theorem tosL_yes {l l' : List (Nat × Nat)} {a d : Nat} (h : l' = l ++ [(a, d)]) : tosL l' a = tosL l a ++ [d] := by
  subst h; simp [tosL, List.filter_append]
theorem fromsL_no {l l' : List (Nat × Nat)} {a d t : Nat} (h : l' = l ++ [(a, d)]) (hx : ¬ d = t) : fromsL l' t = fromsL l t := by
  subst h; simp [fromsL, List.filter_append, hx]
theorem tosL_no {l l' : List (Nat × Nat)} {a d t : Nat} (h : l' = l ++ [(a, d)]) (hx : ¬ a = t) : tosL l' t = tosL l t := by
  subst h; simp [tosL, List.filter_append, hx]
theorem esOf_nodup {p : Plan} (he : edgesIn p) (hn : p.edges.Nodup) : (esOf p).Nodup := by
  unfold esOf esL
  show List.Pairwise _ _
  rw [List.pairwise_map]
  refine List.Pairwise.imp_of_mem ?_ hn
  intro x y hx hy hne e
  have h1 := he x hx
  have h2 := he y hy
  simp only [edgeIn, Bool.and_eq_true, inB_iff] at h1 h2
  simp only [Prod.mk.injEq] at e
  apply hne
  cases x; cases y
  simp only [Edge.mk.injEq] at *
  omega
theorem fromsL_perm {p : Plan} (he : edgesIn p) (hn : p.edges.Nodup) (t : Nat) : (beforeL (esOf p) p.tasks.toNat t).Perm (fromsL (esOf p) t) := by
  refine (List.perm_ext_iff_of_nodup (List.nodup_range.filter _) ?_).2 ?_
  · unfold fromsL
    show List.Pairwise _ _
    rw [List.pairwise_map]
    refine List.Pairwise.imp_of_mem ?_ ((esOf_nodup he hn).filter _)
    intro x y hx hy hne e
    simp only [List.mem_filter, decide_eq_true_eq] at hx hy
    exact hne (Prod.ext e (hx.2.trans hy.2.symm))
  · intro x
    simp only [fromsL, List.mem_filter, List.mem_range, decide_eq_true_eq, List.mem_map, Prod.exists]
    constructor
    · rintro ⟨_, h⟩; exact ⟨x, t, ⟨h, rfl⟩, rfl⟩
    · rintro ⟨a, b, ⟨h, rfl⟩, rfl⟩; exact ⟨(esOf_lt he).1 _ h, h⟩
theorem tosL_perm {p : Plan} (he : edgesIn p) (hn : p.edges.Nodup) (t : Nat) : (behindL (esOf p) p.tasks.toNat t).Perm (tosL (esOf p) t) := by
  refine (List.perm_ext_iff_of_nodup (List.nodup_range.filter _) ?_).2 ?_
  · unfold tosL
    show List.Pairwise _ _
    rw [List.pairwise_map]
    refine List.Pairwise.imp_of_mem ?_ ((esOf_nodup he hn).filter _)
    intro x y hx hy hne e
    simp only [List.mem_filter, decide_eq_true_eq] at hx hy
    exact hne (Prod.ext (hx.2.trans hy.2.symm) e)
  · intro x
    simp only [tosL, List.mem_filter, List.mem_range, decide_eq_true_eq, List.mem_map, Prod.exists]
    constructor
    · rintro ⟨_, h⟩; exact ⟨t, x, ⟨h, rfl⟩, rfl⟩
    · rintro ⟨a, b, ⟨h, rfl⟩, rfl⟩; exact ⟨(esOf_lt he).2 _ h, h⟩

theorem implBefore_any (p : Plan) (ve : Value) (t : Nat) (w : World) (hf : planFault p = 0) (h : Rd edgeE w w.heap.size ve p.edges) :
    Calls Try.prog 56 #[planV p ve, .int .i64 (t : Int)] w fun e w' => ∃ v, e = .returned v ∧ Ow natE 3 w' w.heap.size v (beforeL (esOf p) p.tasks.toNat t) ∧ Below w.heap.size w w' := by
  obtain ⟨A, c, rfl, -⟩ := id h
  have G := Lib.hid (planFault_zero.1 hf)
  have hlen := manyOk_edges G.out.1
  have hl : p.edges.length ≤ 2000000 := by omega
  have hfb : (planFault p != 0) = false := by simp [hf]
  clear hf
  obtain ⟨j0, hj0, jz0, jz1, jz2⟩ := info_parts int_info
  have hb0 := planBox_below 26 p (.slice A p.edges.length c) w
  have D0 := BoxAt.new 26 p (.slice A p.edges.length c) w
  have hw0 := planBox_size 26 p (.slice A p.edges.length c) w
  have Hw0 := Lib.hid hw0
  clear hw0
  unfold planV
  go_enter Try.func56, Try.ntmps56
  go_wp2_with fail
  refine (implPlanFault_any p _ _ hl ((h.below hb0).more hb0.size)).mono ?_
  rintro e w1 ⟨rfl, hb1⟩
  have D := D0.below hb1
  have hb := bnext hb0 hb1
  obtain ⟨x0, x1, x2, x3, x4, xs⟩ := D.cells
  go_wp2
  clear x0 x1 x2 x3 x4
  go_loopw [5, 14] (fun vl i wr => ∃ k : Nat, k ≤ p.edges.length ∧ i = .int .i64 k ∧ Ow natE 3 wr (w.heap.size + 1) vl (fromsL (esL (p.edges.take k)) t) ∧ Below w.heap.size w wr ∧ w.heap.size < wr.heap.size) (fun _ i _ => p.edges.length - (intOf i).toNat)
  case atStart => exact ⟨0, Nat.zero_le _, rfl, by simpa [fromsL, esL] using Ow.nil natE 3 w1 (w.heap.size + 1), hb, xs⟩
  case round =>
    clear D hb hb1 D0 xs
    obtain ⟨k, hk, rfl, ho, hb, hsz⟩ := hrel
    by_cases hlt : k < p.edges.length
    · have hltI : (k : Int) < (p.edges.length : Int) := by omega
      obtain ⟨b, o, rfl, hbb, c0, c1⟩ := (h.below hb).edge hlt
      obtain ⟨f1, f2, f3, f4⟩ := edgesIn_get G.out.2.1 hlt
      have htk := Lib.hid (show esL (p.edges.take (k + 1)) = esL (p.edges.take k) ++ [(p.edges[k].fr.toNat, p.edges[k].to.toNat)] by unfold esL; rw [take_snoc _ k hlt, List.map_append]; rfl)
      generalize p.edges[k].fr = fx at *
      generalize p.edges[k].to = tx at *
      obtain ⟨a, rfl⟩ := Int.eq_ofNat_of_zero_le f1
      obtain ⟨d, rfl⟩ := Int.eq_ofNat_of_zero_le f3
      simp only [Int.toNat_natCast] at htk
      by_cases hx : d = t
      · subst hx
        have S := Lib.hid (fromsL_yes (l := esL (p.edges.take k)) htk.out)
        have Hl := Lib.hid (show (fromsL (esL (p.edges.take k)) d).length ≤ 3000000 by
          have h1 := fromsL_len (esL (p.edges.take k)) d
          rw [esL_length, List.length_take] at h1
          omega)
        have hab : ((d : Int) == (d : Int)) = true := by simp
        have ha : Hid (∀ w : World, Below w.heap.size w ((w.alloc (.cells #[.int .i64 (a : Int), .int .i64 (d : Int)] 52)).alloc (.cells #[.int .i64 (a : Int)] 3))) := fun w => ((Below.refl _ _).alloc (Nat.le_refl _) _).alloc (by simp) _
        go_wp2_with (at_builtin; refine wpList_push_all _ natE (by decide) rfl (.tmp 22) (.tmp 25) rfl Try.underlying27 hj0 jz0 jz1 jz2 rfl (l := fromsL (esL (p.edges.take k)) d) rfl (ho.below (ha.out wr)) rfl (Rd.one natE _ _ a (by simp) rfl 1 (Nat.le_refl _) (Nat.lt_succ_self _)) Hl.out (by simp) (by decide) (by simp; omega) ?_; intro v5 w5 o5 g5 _)
        have hb' := bnext hb (ha.out wr)
        have W5 := hb'.grown g5 hb'.size (fun g hg => by have := ho.within _ hg; omega)
        have hz5 := g5.size
        simp only [World.size_alloc] at hz5
        refine ⟨⟨k + 1, by omega, by go_num, ?_, W5, by omega⟩, by simp [intOf]; omega⟩
        rw [S.out]
        exact o5
      · have S := Lib.hid (fromsL_no (l := esL (p.edges.take k)) (t := t) htk.out hx)
        have hab : ((d : Int) == (t : Int)) = false := beq_eq_false_iff_ne.2 (by omega)
        have ha : Hid (∀ w : World, Below w.heap.size w (w.alloc (.cells #[.int .i64 (a : Int), .int .i64 (d : Int)] 52))) := fun w => (Below.refl _ _).alloc (Nat.le_refl _) _
        clear hx
        go_wp2
        refine ⟨⟨k + 1, by omega, by go_num, ?_, bnext hb (ha.out wr), by simp; omega⟩, by simp [intOf]; omega⟩
        rw [S.out]
        exact ho.below (ha.out wr)
    · have hltI : ¬ (k : Int) < (p.edges.length : Int) := by omega
      have hk' : k = p.edges.length := by omega
      subst hk'
      rw [List.take_length] at ho
      go_wp2_with fail
      have hL : (fromsL (esOf p) t).length ≤ 2000000 := by
        have h1 := fromsL_len (esOf p) t
        unfold esOf at h1 ⊢
        rw [esL_length] at h1
        omega
      refine (sortInt_any _ (fromsL (esOf p) t) (beforeL (esOf p) p.tasks.toNat t) _ _ hL (fromsL_perm G.out.2.1 G.out.2.2.1 t) (beforeL_sorted _ _ _) ho).mono ?_
      rintro e w2 ⟨rfl, o2, g2⟩
      have hb2 := hb.grown g2 hb.size (fun g hg => by have := ho.within _ hg; omega)
      go_wp2
      go_ret
      exact ⟨_, rfl, o2.more (by omega), hb2⟩

theorem implBehind_any (p : Plan) (ve : Value) (t : Nat) (w : World) (hf : planFault p = 0) (h : Rd edgeE w w.heap.size ve p.edges) :
    Calls Try.prog 59 #[planV p ve, .int .i64 (t : Int)] w fun e w' => ∃ v, e = .returned v ∧ Ow natE 3 w' w.heap.size v (behindL (esOf p) p.tasks.toNat t) ∧ Below w.heap.size w w' := by
  obtain ⟨A, c, rfl, -⟩ := id h
  have G := Lib.hid (planFault_zero.1 hf)
  have hlen := manyOk_edges G.out.1
  have hl : p.edges.length ≤ 2000000 := by omega
  have hfb : (planFault p != 0) = false := by simp [hf]
  clear hf
  obtain ⟨j0, hj0, jz0, jz1, jz2⟩ := info_parts int_info
  have hb0 := planBox_below 26 p (.slice A p.edges.length c) w
  have D0 := BoxAt.new 26 p (.slice A p.edges.length c) w
  have hw0 := planBox_size 26 p (.slice A p.edges.length c) w
  have Hw0 := Lib.hid hw0
  clear hw0
  unfold planV
  go_enter Try.func59, Try.ntmps59
  go_wp2_with fail
  refine (implPlanFault_any p _ _ hl ((h.below hb0).more hb0.size)).mono ?_
  rintro e w1 ⟨rfl, hb1⟩
  have D := D0.below hb1
  have hb := bnext hb0 hb1
  obtain ⟨x0, x1, x2, x3, x4, xs⟩ := D.cells
  go_wp2
  clear x0 x1 x2 x3 x4
  go_loopw [5, 14] (fun vl i wr => ∃ k : Nat, k ≤ p.edges.length ∧ i = .int .i64 k ∧ Ow natE 3 wr (w.heap.size + 1) vl (tosL (esL (p.edges.take k)) t) ∧ Below w.heap.size w wr ∧ w.heap.size < wr.heap.size) (fun _ i _ => p.edges.length - (intOf i).toNat)
  case atStart => exact ⟨0, Nat.zero_le _, rfl, by simpa [tosL, esL] using Ow.nil natE 3 w1 (w.heap.size + 1), hb, xs⟩
  case round =>
    clear D hb hb1 D0 xs
    obtain ⟨k, hk, rfl, ho, hb, hsz⟩ := hrel
    by_cases hlt : k < p.edges.length
    · have hltI : (k : Int) < (p.edges.length : Int) := by omega
      obtain ⟨b, o, rfl, hbb, c0, c1⟩ := (h.below hb).edge hlt
      obtain ⟨f1, f2, f3, f4⟩ := edgesIn_get G.out.2.1 hlt
      have htk := Lib.hid (show esL (p.edges.take (k + 1)) = esL (p.edges.take k) ++ [(p.edges[k].fr.toNat, p.edges[k].to.toNat)] by unfold esL; rw [take_snoc _ k hlt, List.map_append]; rfl)
      generalize p.edges[k].fr = fx at *
      generalize p.edges[k].to = tx at *
      obtain ⟨a, rfl⟩ := Int.eq_ofNat_of_zero_le f1
      obtain ⟨d, rfl⟩ := Int.eq_ofNat_of_zero_le f3
      simp only [Int.toNat_natCast] at htk
      by_cases hx : a = t
      · subst hx
        have S := Lib.hid (tosL_yes (l := esL (p.edges.take k)) htk.out)
        have Hl := Lib.hid (show (tosL (esL (p.edges.take k)) a).length ≤ 3000000 by
          have h1 := tosL_len (esL (p.edges.take k)) a
          rw [esL_length, List.length_take] at h1
          omega)
        have hab : ((a : Int) == (a : Int)) = true := by simp
        have ha : Hid (∀ w : World, Below w.heap.size w ((w.alloc (.cells #[.int .i64 (a : Int), .int .i64 (d : Int)] 52)).alloc (.cells #[.int .i64 (d : Int)] 3))) := fun w => ((Below.refl _ _).alloc (Nat.le_refl _) _).alloc (by simp) _
        go_wp2_with (at_builtin; refine wpList_push_all _ natE (by decide) rfl (.tmp 22) (.tmp 25) rfl Try.underlying27 hj0 jz0 jz1 jz2 rfl (l := tosL (esL (p.edges.take k)) a) rfl (ho.below (ha.out wr)) rfl (Rd.one natE _ _ d (by simp) rfl 1 (Nat.le_refl _) (Nat.lt_succ_self _)) Hl.out (by simp) (by decide) (by simp; omega) ?_; intro v5 w5 o5 g5 _)
        have hb' := bnext hb (ha.out wr)
        have W5 := hb'.grown g5 hb'.size (fun g hg => by have := ho.within _ hg; omega)
        have hz5 := g5.size
        simp only [World.size_alloc] at hz5
        refine ⟨⟨k + 1, by omega, by go_num, ?_, W5, by omega⟩, by simp [intOf]; omega⟩
        rw [S.out]
        exact o5
      · have S := Lib.hid (tosL_no (l := esL (p.edges.take k)) (t := t) htk.out hx)
        have hab : ((a : Int) == (t : Int)) = false := beq_eq_false_iff_ne.2 (by omega)
        have ha : Hid (∀ w : World, Below w.heap.size w (w.alloc (.cells #[.int .i64 (a : Int), .int .i64 (d : Int)] 52))) := fun w => (Below.refl _ _).alloc (Nat.le_refl _) _
        clear hx
        go_wp2
        refine ⟨⟨k + 1, by omega, by go_num, ?_, bnext hb (ha.out wr), by simp; omega⟩, by simp [intOf]; omega⟩
        rw [S.out]
        exact ho.below (ha.out wr)
    · have hltI : ¬ (k : Int) < (p.edges.length : Int) := by omega
      have hk' : k = p.edges.length := by omega
      subst hk'
      rw [List.take_length] at ho
      go_wp2_with fail
      have hL : (tosL (esOf p) t).length ≤ 2000000 := by
        have h1 := tosL_len (esOf p) t
        unfold esOf at h1 ⊢
        rw [esL_length] at h1
        omega
      refine (sortInt_any _ (tosL (esOf p) t) (behindL (esOf p) p.tasks.toNat t) _ _ hL (tosL_perm G.out.2.1 G.out.2.2.1 t) (behindL_sorted _ _ _) ho).mono ?_
      rintro e w2 ⟨rfl, o2, g2⟩
      have hb2 := hb.grown g2 hb.size (fun g hg => by have := ho.within _ hg; omega)
      go_wp2
      go_ret
      exact ⟨_, rfl, o2.more (by omega), hb2⟩
end Go.Proofs.Ytnaicippgocdfaa
end
section
namespace Go.Proofs.Ytnaicippgocdfaa
open Go.RowKit

def clash (s o : Slot) : Bool := (s.worker == o.worker && decide (s.fr < o.to)) && decide (o.fr < s.to)
def slotOk1 (T : Int) (l : List Int) (many : Int) (prev : List Slot) (s : Slot) : Bool :=
  inB s.task 0 (T - 1) && !(prev.any fun x => x.task == s.task) && inB s.fr 0 1000000000 && (s.to == s.fr + l.getD s.task.toNat 0) && inB s.worker 0 (many - 1) && prev.all fun o => !clash s o
/-- the first k slots fit -/
def slsOk (T : Int) (l : List Int) (many : Int) (s : List Slot) (k : Nat) : Prop := ∀ j (h : j < s.length), j < k → slotOk1 T l many (s.take j) s[j] = true
/-- the slot of a task -/
def taskSlot (s : List Slot) (t : Int) : Slot := (s.find? fun x => x.task == t).getD ⟨0, 0, 0, 0⟩
/-- the first k edges fit -/
def edOk (p : Plan) (s : List Slot) (k : Nat) : Prop := ∀ j (h : j < p.edges.length), j < k → ¬ (taskSlot s p.edges[j].to).fr < (taskSlot s p.edges[j].fr).to
def SlotsFit (p : Plan) (l : List Int) (many : Int) (s : List Slot) : Prop :=
  weightsOk p l = true ∧ inB many 1 8 = true ∧ (s.length : Int) = p.tasks ∧ slsOk p.tasks l many s s.length ∧ edOk p s p.edges.length
open Classical in
noncomputable def slotsOk (p : Plan) (l : List Int) (many : Int) (s : List Slot) : Bool := decide (SlotsFit p l many s)
theorem slotsOk_iff {p : Plan} {l : List Int} {many : Int} {s : List Slot} : slotsOk p l many s = true ↔ SlotsFit p l many s := by simp [slotsOk]
theorem slotsOk_no {p : Plan} {l : List Int} {many : Int} {s : List Slot} (h : ¬ SlotsFit p l many s) : slotsOk p l many s = false := by simp [slotsOk, h]

theorem slsOk_zero (T : Int) (l : List Int) (many : Int) (s : List Slot) : slsOk T l many s 0 := fun j _ h => absurd h (by omega)
theorem slsOk_next {T : Int} {l : List Int} {many : Int} {s : List Slot} {k : Nat} (h : slsOk T l many s k) (hk : k < s.length) (h1 : slotOk1 T l many (s.take k) s[k] = true) : slsOk T l many s (k + 1) := by
  intro j hj hjk
  by_cases e : j = k
  · subst e; exact h1
  · exact h j hj (by omega)
theorem slsOk_bad {p : Plan} {l : List Int} {many : Int} {s : List Slot} {k : Nat} (hk : k < s.length) (h1 : slotOk1 p.tasks l many (s.take k) s[k] = false) : slotsOk p l many s = false :=
  slotsOk_no fun h => by
    have := h.2.2.2.1 k hk hk
    rw [h1] at this
    cases this
theorem slotOk1_parts {T : Int} {l : List Int} {many : Int} {prev : List Slot} {s : Slot} (h : slotOk1 T l many prev s = true) :
    (0 ≤ s.task ∧ s.task ≤ T - 1) ∧ (∀ x ∈ prev, x.task ≠ s.task) ∧ (0 ≤ s.fr ∧ s.fr ≤ 1000000000) ∧ s.to = s.fr + l.getD s.task.toNat 0 ∧ (0 ≤ s.worker ∧ s.worker ≤ many - 1) ∧ ∀ o ∈ prev, clash s o = false := by
  simp only [slotOk1, Bool.and_eq_true, inB_iff, Bool.not_eq_true', List.any_eq_false, List.all_eq_true, beq_iff_eq] at h
  obtain ⟨⟨⟨⟨⟨h1, h2⟩, h3⟩, h4⟩, h5⟩, h6⟩ := h
  exact ⟨h1, h2, h3, h4, h5, h6⟩
theorem slotOk1_mk {T : Int} {l : List Int} {many : Int} {prev : List Slot} {s : Slot} (h1 : 0 ≤ s.task ∧ s.task ≤ T - 1) (h2 : ∀ x ∈ prev, x.task ≠ s.task) (h3 : 0 ≤ s.fr ∧ s.fr ≤ 1000000000) (h4 : s.to = s.fr + l.getD s.task.toNat 0)
    (h5 : 0 ≤ s.worker ∧ s.worker ≤ many - 1) (h6 : ∀ o ∈ prev, clash s o = false) : slotOk1 T l many prev s = true := by
  simp only [slotOk1, Bool.and_eq_true, inB_iff, Bool.not_eq_true', List.any_eq_false, List.all_eq_true, beq_iff_eq]
  exact ⟨⟨⟨⟨⟨h1, h2⟩, h3⟩, h4⟩, h5⟩, h6⟩

/-! the tables that the two make -/
def slotTab (T : Nat) (s : List Slot) : List Slot := (List.range T).map fun (t : Nat) => taskSlot s (t : Int)
theorem slotTab_len (T : Nat) (s : List Slot) : (slotTab T s).length = T := by simp [slotTab]
theorem slotTab_nil (T : Nat) : slotTab T [] = List.replicate T ⟨0, 0, 0, 0⟩ := by
  apply List.ext_getElem (by simp [slotTab])
  intro i h1 h2
  simp [slotTab, taskSlot]
theorem slotTab_get {T : Nat} {s : List Slot} {t : Nat} (h : t < (slotTab T s).length) : (slotTab T s)[t] = taskSlot s (t : Int) := by simp [slotTab]
theorem slotTab_snoc {T : Nat} {s : List Slot} {k : Nat} (hk : k < s.length) {t : Nat} (ht : s[k].task = (t : Int)) (hno : ∀ x ∈ s.take k, x.task ≠ s[k].task) : slotTab T (s.take (k + 1)) = (slotTab T (s.take k)).set t s[k] := by
  apply List.ext_getElem (by simp [slotTab])
  intro i h1 h2
  rw [slotTab_get, List.getElem_set]
  rw [take_snoc s k hk]
  unfold taskSlot
  rw [List.find?_append]
  by_cases e : t = i
  · subst e
    rw [if_pos rfl]
    have : (s.take k).find? (fun x => x.task == (t : Int)) = none := by
      rw [List.find?_eq_none]
      intro x hx
      have := hno x hx
      rw [ht] at this
      simpa using this
    rw [this]
    simp [ht]
  · rw [if_neg e, slotTab_get]
    have : [s[k]].find? (fun x => x.task == (i : Int)) = none := by
      rw [List.find?_eq_none]
      intro x hx
      simp only [List.mem_singleton] at hx
      subst hx
      rw [ht]
      simp
      omega
    rw [this, Option.or_none]
    rfl

/-- the bits of the tasks that were met -/
def metN : List Slot → Nat
  | [] => 0
  | x :: s => metN s ||| 1 <<< x.task.toNat
theorem metN_bit : ∀ (s : List Slot) (t : Nat), (∀ x ∈ s, 0 ≤ x.task) → ((metN s).testBit t = s.any fun x => x.task == (t : Int))
  | [], t, _ => by simp [metN]
  | x :: s, t, h => by
    have h0 := h x List.mem_cons_self
    rw [metN, Nat.testBit_or, Pg.bit_one, metN_bit s t (fun y hy => h y (List.mem_cons_of_mem _ hy)), List.any_cons, Bool.or_comm]
    congr 1
    rw [Bool.eq_iff_iff]
    simp only [decide_eq_true_eq, beq_iff_eq]
    omega
theorem metN_lt : ∀ (s : List Slot) (T : Nat), (∀ x ∈ s, x.task.toNat < T) → metN s < 2 ^ T
  | [], T, _ => Nat.two_pow_pos T
  | x :: s, T, h => by
    have h0 := h x List.mem_cons_self
    rw [metN]
    refine Nat.or_lt_two_pow (metN_lt s T fun y hy => h y (List.mem_cons_of_mem _ hy)) ?_
    rw [Nat.shiftLeft_eq, Nat.one_mul]
    exact Nat.pow_lt_pow_right (by omega) h0

/-- where a task stands, from 1 on; 0: it was not met -/
def atOf (s : List Slot) (t : Int) : Int := match s.findIdx? fun x => x.task == t with | some i => i + 1 | none => 0
def atTab (T : Nat) (s : List Slot) : List Int := (List.range T).map fun (t : Nat) => atOf s (t : Int)
theorem atTab_len (T : Nat) (s : List Slot) : (atTab T s).length = T := by simp [atTab]
theorem atTab_nil (T : Nat) : atTab T [] = List.replicate T 0 := by
  apply List.ext_getElem (by simp [atTab])
  intro i h1 h2
  simp [atTab, atOf]
theorem atTab_get {T : Nat} {s : List Slot} {t : Nat} (h : t < (atTab T s).length) : (atTab T s)[t] = atOf s (t : Int) := by simp [atTab]
theorem atOf_zero {s : List Slot} {t : Int} : atOf s t = 0 ↔ ∀ x ∈ s, x.task ≠ t := by
  unfold atOf
  cases h : s.findIdx? fun x => x.task == t with
  | none =>
    rw [List.findIdx?_eq_none_iff] at h
    simp only [true_iff]
    intro x hx
    simpa using h x hx
  | some i =>
    rw [List.findIdx?_eq_some_iff_getElem] at h
    obtain ⟨hi, hp, _⟩ := h
    simp only
    refine ⟨fun h => absurd h (by omega), fun h => ?_⟩
    exact absurd (by simpa using hp) (h _ (List.getElem_mem hi))
theorem atOf_pos {s : List Slot} {t : Int} (h : ∃ x ∈ s, x.task = t) : ∃ i : Nat, ∃ hi : i < s.length, atOf s t = (i : Int) + 1 ∧ s[i] = taskSlot s t := by
  unfold atOf taskSlot
  cases hf : s.findIdx? fun x => x.task == t with
  | none =>
    rw [List.findIdx?_eq_none_iff] at hf
    obtain ⟨x, hx, he⟩ := h
    have := hf x hx
    simp [he] at this
  | some i =>
    rw [List.findIdx?_eq_some_iff_getElem] at hf
    obtain ⟨hi, hp, hno⟩ := hf
    refine ⟨i, hi, rfl, ?_⟩
    have : s.find? (fun x => x.task == t) = some s[i] := by
      rw [List.find?_eq_some_iff_getElem]
      exact ⟨hp, i, hi, rfl, fun j hj => by simpa using hno j hj⟩
    rw [this]
    rfl
theorem atTab_snoc {T : Nat} {s : List Slot} {k : Nat} (hk : k < s.length) {t : Nat} (ht : s[k].task = (t : Int)) (hno : ∀ x ∈ s.take k, x.task ≠ s[k].task) : atTab T (s.take (k + 1)) = (atTab T (s.take k)).set t ((k : Int) + 1) := by
  apply List.ext_getElem (by simp [atTab])
  intro i h1 h2
  rw [atTab_get, List.getElem_set]
  rw [take_snoc s k hk]
  unfold atOf
  rw [List.findIdx?_append]
  by_cases e : t = i
  · subst e
    rw [if_pos rfl]
    have : (s.take k).findIdx? (fun x => x.task == (t : Int)) = none := by
      rw [List.findIdx?_eq_none_iff]
      intro x hx
      have := hno x hx
      rw [ht] at this
      simpa using this
    rw [this]
    simp [ht, List.findIdx?_cons]
    omega
  · rw [if_neg e, atTab_get]
    have : [s[k]].findIdx? (fun x => x.task == (i : Int)) = none := by
      rw [List.findIdx?_eq_none_iff]
      intro x hx
      simp only [List.mem_singleton] at hx
      subst hx
      rw [ht]
      simp
      omega
    rw [this]
    simp [atOf]

/-- as many slots as tasks, no task twice: each task has one -/
theorem all_met {T : Int} {l : List Int} {many : Int} {s : List Slot} (h : slsOk T l many s s.length) (hT : (s.length : Int) = T) (t : Int) (h0 : 0 ≤ t) (h1 : t < T) : ∃ x ∈ s, x.task = t := by
  have hp : ∀ j (hj : j < s.length), (0 ≤ s[j].task ∧ s[j].task ≤ T - 1) ∧ ∀ x ∈ s.take j, x.task ≠ s[j].task := fun j hj => by
    have := slotOk1_parts (h j hj hj)
    exact ⟨this.1, this.2.1⟩
  have hall : ∀ x ∈ s, 0 ≤ x.task ∧ x.task ≤ T - 1 := fun x hx => by
    obtain ⟨j, hj, rfl⟩ := List.getElem_of_mem hx
    exact (hp j hj).1
  apply Classical.byContradiction
  intro hno
  have hnd : (t.toNat :: s.map fun x => x.task.toNat).Nodup := by
    rw [List.nodup_cons]
    constructor
    · intro hm
      obtain ⟨x, hx, he⟩ := List.mem_map.1 hm
      have := hall x hx
      exact hno ⟨x, hx, by omega⟩
    · rw [List.nodup_iff_pairwise_ne, List.pairwise_map, List.pairwise_iff_getElem]
      intro i j hi hj hij he
      have h2 := (hp j hj).2 s[i] (by
        rw [List.mem_take_iff_getElem]
        exact ⟨i, by omega, rfl⟩)
      have h3 := hall _ (List.getElem_mem hi)
      have h4 := hall _ (List.getElem_mem hj)
      exact h2 (by omega)
  have := Pg.nodup_le T.toNat _ hnd (by
    intro x hx
    rcases List.mem_cons.1 hx with rfl | hx
    · omega
    · obtain ⟨y, hy, rfl⟩ := List.mem_map.1 hx
      have := hall y hy
      omega)
  simp at this
  omega
end Go.Proofs.Ytnaicippgocdfaa
end
section
namespace Go.Proofs.Ytnaicippgocdfaa
open Go.ChangeShapes Go.WideShapes Go.ChangeAt Go.RowKit Go.Deep
set_option maxRecDepth 100000

section
variable {H : Type} {enc : TypeId × Value → H} {w : World} {spare : Nat → Bool} {held : Bool} {fuel : Nat} {cs : List Value} {x : DataW H × List MemPlace}
theorem u8_of {a : Int} (h : (Lit.int .u8 a).wf = true) : 0 ≤ a ∧ a ≤ 255 := by
  simp [Lit.wf, IntKind.min, IntKind.max, IntKind.signed, IntKind.bits] at h
  exact ⟨by omega, by omega⟩
theorem read_byteS (h : DataW.trod enc Try.prog w 0 spare held fuel 22 cs = some x) : ∃ (v : Value) (l : List UInt8), cs = [v] ∧ Rd byteE w w.heap.size v l ∧ l.length ≤ maxLen := by
  obtain ⟨v, l, h1, h2, _, h3⟩ := read_slice byteE (fun _ => True) Try.underlying22 (by kernel_rfl) (by decide) (fun n cs' y hy => by
    obtain ⟨a0, e0, _, hw⟩ := DataW.trod_int Try.underlying5 hy
    have hb := u8_of hw
    refine ⟨UInt8.ofNat a0.toNat, ?_, trivial⟩
    rw [e0]
    have : ((UInt8.ofNat a0.toNat).toNat : Int) = a0 := by
      rw [UInt8.toNat_ofNat']
      omega
    show [Value.int .u8 a0] = [Value.int .u8 ((UInt8.ofNat a0.toNat).toNat : Int)]
    rw [this]) h
  exact ⟨v, l, h1, h2, h3⟩
end
end Go.Proofs.Ytnaicippgocdfaa
end
section
namespace Go.Proofs.Ytnaicippgocdfaa
open Go.RowKit
set_option maxRecDepth 100000
set_option maxHeartbeats 2000000

open Classical in
noncomputable def orderOf (p : Plan) : List Nat := if planFault p = 0 then orderL (esOf p) p.tasks.toNat p.tasks.toNat else []
/-- the length in a slot -/
def slen : Value → Nat | .slice _ n _ => n | _ => 0

theorem mayCome_before {es : List (Nat × Nat)} {T : Nat} {out : List Nat} {t : Nat} (h1 : ∀ e ∈ es, e.1 < T) : mayCome es out t = (!decide (t ∈ out) && decide (∀ x ∈ beforeL es T t, x ∈ out)) := by
  rw [Bool.eq_iff_iff, mayCome_iff, Bool.and_eq_true, Bool.not_eq_true', decide_eq_false_iff_not, decide_eq_true_iff]
  have hm : ∀ x, x ∈ beforeL es T t ↔ x < T ∧ (x, t) ∈ es := fun x => by simp [beforeL]
  constructor
  · rintro ⟨a, b⟩
    exact ⟨a, fun x hx => b x ((hm x).1 hx).2⟩
  · rintro ⟨a, b⟩
    exact ⟨a, fun s hs => b s ((hm s).2 ⟨h1 _ hs, hs⟩)⟩

theorem plan_ac {p : Plan} (hf : planFault p = 0) : ∀ t, t < p.tasks.toNat → ¬ Pg.Reach (esOf p) t t := fun t ht hr => (planFault_zero.1 hf).2.2.2 ⟨t, ht, hr⟩

theorem implOrder_any (p : Plan) (ve : Value) (w : World) (hl : p.edges.length ≤ 2000000) (h : Rd edgeE w w.heap.size ve p.edges) :
    Calls Try.prog 67 #[planV p ve] w fun e w' => ∃ v, e = .returned v ∧ Ow natE 3 w' w.heap.size v (orderOf p) ∧ Below w.heap.size w w' := by
  have hb0 := planBox_below 26 p ve w
  have D0 := BoxAt.new 26 p ve w
  have hw0 := planBox_size 26 p ve w
  have Hw0 := Lib.hid hw0
  clear hw0
  by_cases hf : planFault p = 0
  case neg =>
    have hfb : (planFault p != 0) = true := by simp [hf]
    have H := Lib.hid (show orderOf p = [] by unfold orderOf; rw [if_neg hf])
    clear hf
    unfold planV
    go_enter Try.func67, Try.ntmps67
    go_wp2_with fail
    refine (implPlanFault_any p ve _ hl ((h.below hb0).more hb0.size)).mono ?_
    rintro e w1 ⟨rfl, hb1⟩
    go_wp2
    go_ret
    exact ⟨_, rfl, by rw [H.out]; exact Ow.nil _ _ _ _, bnext hb0 hb1⟩
  have hfb : (planFault p != 0) = false := by simp [hf]
  have G := Lib.hid (planFault_zero.1 hf)
  have HF := Lib.hid hf
  have hac := Lib.hid (plan_ac hf)
  obtain ⟨t1, t2⟩ := manyOk_tasks G.out.1
  obtain ⟨T, hT⟩ := Int.eq_ofNat_of_zero_le (show 0 ≤ p.tasks by omega)
  have HT := Lib.hid hT
  have HTn := Lib.hid (show p.tasks.toNat = T by omega)
  have hT12 : T ≤ 12 := by omega
  have H := Lib.hid (show orderOf p = orderL (esOf p) T T by unfold orderOf; rw [if_pos hf, HTn.out])
  have he1 := Lib.hid (show ∀ e ∈ esOf p, e.1 < T by have := (esOf_lt G.out.2.1).1; rw [HTn.out] at this; exact this)
  have hac' := Lib.hid (show ∀ t, t < T → ¬ Pg.Reach (esOf p) t t by have := hac.out; rw [HTn.out] at this; exact this)
  clear hf hT hac
  obtain ⟨j0, hj0, jz0, jz1, jz2⟩ := info_parts int_info
  unfold planV
  go_enter Try.func67, Try.ntmps67
  go_wp2_with fail
  refine (implPlanFault_any p ve _ hl ((h.below hb0).more hb0.size)).mono ?_
  rintro e w1 ⟨rfl, hb1⟩
  have D := D0.below hb1
  have hb := bnext hb0 hb1
  go_wp2
  clear D0 hb1
  go_loopw [3] (fun vl wr => ∃ n : Nat, n ≤ T ∧ Ow natE 3 wr (w.heap.size + 1) vl (orderL (esOf p) T n) ∧ BoxAt w.heap.size p ve wr ∧ Below w.heap.size w wr) (fun vl _ => T - slen vl)
  case atStart => exact ⟨0, Nat.zero_le _, Ow.nil _ _ _ _, D, hb⟩
  case round =>
    clear D hb
    obtain ⟨n, hn, ho, D, hb⟩ := hrel
    have hinv := Lib.hid (orderL_inv he1.out hac'.out n hn)
    obtain ⟨A, c, rfl, -⟩ := id (Rd.of_own ho)
    have hlen : (orderL (esOf p) T n).length = n := hinv.out.len
    rw [hlen] at ho ⊢
    obtain ⟨x0, x1, x2, x3, x4, xs⟩ := D.cells
    have hlen2 : (orderL (esOf p) T n).length ≤ 2000000 := by omega
    have HL := Lib.hid hlen
    have HL2 := Lib.hid hlen2
    clear hlen hlen2
    by_cases hlt : n < T
    · have hltI : (n : Int) < p.tasks := by rw [HT.out]; omega
      obtain ⟨wo, rfl⟩ : ∃ wo : World, wo = wr := ⟨_, rfl⟩
      go_wp2
      clear x0 x1 x2 x3 x4 xs
      go_loopw [3, 4] (fun vl i wr => ∃ k : Nat, k ≤ T ∧ vl = .slice A n c ∧ i = .int .i64 k ∧ Hid (∀ s, s < k → mayCome (esOf p) (orderL (esOf p) T n) s = false) ∧ Ow natE 3 wr (w.heap.size + 1) (.slice A n c) (orderL (esOf p) T n) ∧ BoxAt w.heap.size p ve wr ∧ Below w.heap.size w wr) (fun _ i _ => T - (intOf i).toNat)
      case atStart => exact ⟨0, Nat.zero_le _, rfl, rfl, fun s hs => absurd hs (by omega), ho, D, hb⟩
      case round =>
        clear ho D hb
        obtain ⟨k, hk, rfl, rfl, hno, ho, D, hb⟩ := hrel
        obtain ⟨x0, x1, x2, x3, x4, xs⟩ := D.cells
        by_cases hkt : k < T
        · have hktI : (k : Int) < p.tasks := by rw [HT.out]; omega
          have hmc := Lib.hid (mayCome_before (out := orderL (esOf p) T n) (t := k) he1.out)
          have hnext : mayCome (esOf p) (orderL (esOf p) T n) k = false → Hid (∀ s, s < k + 1 → mayCome (esOf p) (orderL (esOf p) T n) s = false) := fun hm s hs => by
            by_cases e : s = k
            · subst e; exact hm
            · exact hno.out s (by omega)
          cases hin : decide (k ∈ orderL (esOf p) T n)
          · have Hin := Lib.hid hin
            clear hin
            go_wp2_with fail
            refine (containsInt_any (.slice A n c) (orderL (esOf p) T n) k _ _ HL2.out (Rd.of_own ho)).mono ?_
            rintro e w2 ⟨rfl, rfl⟩
            rw [Hin.out]
            go_wp2_with fail
            refine (implBefore_any p ve k _ HF.out ((h.below hb).more hb.size)).mono ?_
            rintro e w3 ⟨v3, rfl, o3, b3⟩
            rw [HTn.out] at o3
            have ho := ho.below b3
            have D := D.below b3
            have hb := bnext hb b3
            clear x0 x1 x2 x3 x4 xs
            go_wp2_with fail
            refine (allIn_any v3 (beforeL (esOf p) T k) (.slice A n c) (orderL (esOf p) T n) _ HL2.out (by have := beforeL_len (esOf p) T k; omega) (Rd.of_own o3) (Rd.of_own ho)).mono ?_
            rintro e w4 ⟨rfl, b4⟩
            have ho := ho.below b4
            have D := D.below b4
            have hb := bnext hb b4
            cases hall : decide (∀ x ∈ beforeL (esOf p) T k, x ∈ orderL (esOf p) T n)
            · have S := hnext (by rw [hmc.out, hall]; simp)
              clear hnext
              go_wp2
              exact ⟨⟨k + 1, by omega, rfl, by go_num, S, ho, D, hb⟩, by simp [intOf]; omega⟩
            · have S := Lib.hid (orderL_succ (pickT_first hkt (show mayCome (esOf p) (orderL (esOf p) T n) k = true by rw [hmc.out, hall, Hin.out]; rfl) hno.out))
              have ha : Hid (∀ w : World, Below w.heap.size w (w.alloc (.cells #[.int .i64 (k : Int)] 3))) := fun w => (Below.refl _ _).alloc (Nat.le_refl _) _
              clear hnext
              go_wp2_with (at_builtin; refine wpList_push_all _ natE (by decide) rfl (.tmp 30) (.tmp 32) rfl Try.underlying27 hj0 jz0 jz1 jz2 rfl (l := orderL (esOf p) T n) rfl (ho.below (ha.out w4)) rfl (Rd.one natE _ _ k rfl rfl 1 (Nat.le_refl _) (Nat.lt_succ_self _)) (by have := HL2.out; omega) (by simp) (by decide) (by have := D.lt; simp; omega) ?_; intro v5 w5 o5 g5 _; obtain ⟨A5, c5, rfl, -⟩ := id (Rd.of_own o5))
              have D5 := (D.below (ha.out w4)).far g5 (fun e => by have := ho.within _ e.symm; omega)
              have hb' := bnext hb (ha.out w4)
              have W5 := hb'.grown g5 hb'.size (fun g hg => by have := ho.within _ hg; omega)
              have hlen5 : (orderL (esOf p) T n ++ [k]).length = n + 1 := by rw [List.length_append, HL.out]; rfl
              refine ⟨⟨n + 1, by omega, ?_, D5, W5⟩, ?_⟩
              · rw [S.out]
                simpa using o5
              · simp only [slen]
                have := HL.out
                first | omega | (simp; omega)
          · have Hin := Lib.hid hin
            have S := hnext (by rw [hmc.out, hin]; rfl)
            clear hin hnext
            go_wp2_with fail
            refine (containsInt_any (.slice A n c) (orderL (esOf p) T n) k _ _ HL2.out (Rd.of_own ho)).mono ?_
            rintro e w2 ⟨rfl, rfl⟩
            rw [Hin.out]
            go_wp2
            exact ⟨⟨k + 1, by omega, rfl, by go_num, S, ho, D, hb⟩, by simp [intOf]; omega⟩
        · exfalso
          obtain ⟨t, _, ht, hm⟩ := pick_some he1.out hac'.out (exists_out (T := T) (o := orderL (esOf p) T n) (by rw [HL.out]; exact hlt))
          rw [hno.out t (by omega)] at hm
          cases hm
    · have hltI : ¬ (n : Int) < p.tasks := by rw [HT.out]; omega
      have hn' : n = T := by omega
      subst hn'
      go_wp2
      go_ret
      refine ⟨_, rfl, ?_, hb⟩
      rw [H.out]
      exact ho.more (by omega)
end Go.Proofs.Ytnaicippgocdfaa
end
section
namespace Go.Proofs.Ytnaicippgocdfaa
open Go.RowKit
set_option linter.unusedVariables false

structure Sst where
  out : List Slot
  ends : List Int
  busy : List Int

/-- t was not taken and all that it waits for has ended -/
def beforeOk (ends : List Int) (now : Int) (s : Nat) : Bool := decide (0 ≤ ends.getD s 0) && decide (ends.getD s 0 ≤ now)
def mayStart (es : List (Nat × Nat)) (T : Nat) (ends : List Int) (now : Int) (t : Nat) : Bool := decide (ends.getD t 0 < 0) && (beforeL es T t).all (beforeOk ends now)
def nextT (es : List (Nat × Nat)) (T : Nat) (ends : List Int) (now : Int) : Option Nat := (List.range T).find? (mayStart es T ends now)
def sTake (l : List Int) (now : Int) (st : Sst) (k t : Nat) : Sst := ⟨st.out ++ [⟨(t : Int), (k : Int), now, now + l.getD t 0⟩], st.ends.set t (now + l.getD t 0), st.busy.set k (now + l.getD t 0)⟩
def sStep (es : List (Nat × Nat)) (T : Nat) (l : List Int) (now : Int) (st : Sst) (k : Nat) : Sst :=
  if now < st.busy.getD k 0 then st else match nextT es T st.ends now with
    | none => st
    | some t => sTake l now st k t
def sPart (es : List (Nat × Nat)) (T : Nat) (l : List Int) (now : Int) (st : Sst) : Nat → Sst
  | 0 => st
  | k + 1 => sStep es T l now (sPart es T l now st k) k
def nextI (now : Int) (L : List Int) : Int := L.foldl (fun n x => if now < x ∧ (n = 0 ∨ x < n) then x else n) 0
def nextS (now : Int) (L : List Int) : Int := L.foldl (fun n x => if now < x ∧ (n < 0 ∨ x < n) then x else n) (-1)
def sGo (es : List (Nat × Nat)) (T : Nat) (l : List Int) (m : Nat) : Nat → Int → Sst → List Slot
  | 0, _, st => st.out
  | f + 1, now, st => if T ≤ st.out.length then st.out else sGo es T l m f (nextI now (sPart es T l now st m).busy) (sPart es T l now st m)
def sStart (T m : Nat) : Sst := ⟨[], List.replicate T (-1), List.replicate m 0⟩

theorem nextT_some {es : List (Nat × Nat)} {T : Nat} {ends : List Int} {now : Int} {t : Nat} (h : nextT es T ends now = some t) : t < T ∧ mayStart es T ends now t = true := by
  have hm := List.find?_some h
  have hr := List.mem_of_find?_eq_some h
  exact ⟨by simpa using hr, hm⟩
theorem nextT_first {es : List (Nat × Nat)} {T t : Nat} {ends : List Int} {now : Int} (htT : t < T) (hm : mayStart es T ends now t = true) (hno : ∀ s, s < t → mayStart es T ends now s = false) : nextT es T ends now = some t := by
  unfold nextT
  rw [List.find?_eq_some_iff_getElem]
  refine ⟨hm, t, by simpa using htT, by simp, fun j hj => ?_⟩
  simp [hno j hj]
theorem nextT_none {es : List (Nat × Nat)} {T : Nat} {ends : List Int} {now : Int} (hno : ∀ s, s < T → mayStart es T ends now s = false) : nextT es T ends now = none := by
  unfold nextT
  rw [List.find?_eq_none]
  intro x hx
  simp [hno x (by simpa using hx)]
theorem sStep_busy {es : List (Nat × Nat)} {T : Nat} {l : List Int} {now : Int} {st : Sst} {k : Nat} (h : now < st.busy.getD k 0) : sStep es T l now st k = st := by rw [sStep, if_pos h]
theorem sStep_none {es : List (Nat × Nat)} {T : Nat} {l : List Int} {now : Int} {st : Sst} {k : Nat} (h : nextT es T st.ends now = none) : sStep es T l now st k = st := by
  rw [sStep, h]
  split <;> rfl
theorem sStep_some {es : List (Nat × Nat)} {T : Nat} {l : List Int} {now : Int} {st : Sst} {k t : Nat} (hb : ¬ now < st.busy.getD k 0) (h : nextT es T st.ends now = some t) : sStep es T l now st k = sTake l now st k t := by
  rw [sStep, if_neg hb, h]
theorem sPart_none {es : List (Nat × Nat)} {T : Nat} {l : List Int} {now : Int} {st : Sst} {k : Nat} (h : nextT es T (sPart es T l now st k).ends now = none) : ∀ n, sPart es T l now st (k + n) = sPart es T l now st k
  | 0 => rfl
  | n + 1 => by
    have ih := sPart_none h n
    show sStep es T l now (sPart es T l now st (k + n)) (k + n) = _
    rw [ih]
    exact sStep_none h

theorem setD {α : Type} (L : List α) (i j : Nat) (x d : α) (h : i < L.length) : (L.set i x).getD j d = if i = j then x else L.getD j d := by
  rw [List.getD_eq_getElem?_getD, List.getElem?_set, List.getD_eq_getElem?_getD]
  by_cases e : i = j
  · subst e; simp [h]
  · simp [e]
theorem getD_at {α : Type} {L : List α} {i : Nat} (h : i < L.length) (d : α) : L.getD i d = L[i] := by simp [List.getD_eq_getElem?_getD, h]
theorem getD_mem {α : Type} {L : List α} {i : Nat} (h : i < L.length) (d : α) : L.getD i d ∈ L := by rw [getD_at h]; exact List.getElem_mem h

/-- the plan's graph and weights are right -/
structure SOk (es : List (Nat × Nat)) (T : Nat) (l : List Int) (m : Nat) : Prop where
  lt1 : ∀ e ∈ es, e.1 < T
  lt2 : ∀ e ∈ es, e.2 < T
  ac : ∀ t, t < T → ¬ Pg.Reach es t t
  T12 : T ≤ 12
  len : l.length = T
  wt : ∀ x ∈ l, 1 ≤ x ∧ x ≤ 1000
  m1 : 1 ≤ m
  m8 : m ≤ 8
theorem SOk.w {es : List (Nat × Nat)} {T : Nat} {l : List Int} {m : Nat} (h : SOk es T l m) {t : Nat} (ht : t < T) : 1 ≤ l.getD t 0 ∧ l.getD t 0 ≤ 1000 := h.wt _ (getD_mem (by rw [h.len]; exact ht) 0)

/-- what holds at each step -/
structure SInv (es : List (Nat × Nat)) (T : Nat) (l : List Int) (m : Nat) (now : Int) (st : Sst) : Prop where
  le : st.ends.length = T
  lb : st.busy.length = m
  now0 : 0 ≤ now
  nowL : now ≤ 1000 * st.out.length
  busyL : ∀ k, k < m → 0 ≤ st.busy.getD k 0 ∧ st.busy.getD k 0 ≤ 1000 * st.out.length
  endsL : ∀ t, t < T → -1 ≤ st.ends.getD t 0 ∧ st.ends.getD t 0 ≤ 1000 * st.out.length
  fit : slsOk T l m st.out st.out.length
  ended : ∀ x ∈ st.out, st.ends.getD x.task.toNat 0 = x.to
  begun : ∀ t, t < T → 0 ≤ st.ends.getD t 0 → ∃ x ∈ st.out, x.task = t
  byWho : ∀ x ∈ st.out, x.to ≤ st.busy.getD x.worker.toNat 0 ∧ x.fr ≤ now
  ahead : ∀ e ∈ es, ∀ y ∈ st.out, y.task = (e.2 : Int) → ∃ x ∈ st.out, x.task = (e.1 : Int) ∧ x.to ≤ y.fr
  b2e : ∀ k, k < m → now < st.busy.getD k 0 → ∃ t, t < T ∧ st.ends.getD t 0 = st.busy.getD k 0
  e2b : ∀ t, t < T → now < st.ends.getD t 0 → ∃ k, k < m ∧ st.busy.getD k 0 = st.ends.getD t 0

section
variable {es : List (Nat × Nat)} {T : Nat} {l : List Int} {m : Nat} {now : Int} {st : Sst}

theorem SInv.parts (h : SInv es T l m now st) {x : Slot} (hx : x ∈ st.out) : (0 ≤ x.task ∧ x.task < T) ∧ (0 ≤ x.fr ∧ x.fr ≤ 1000000000) ∧ x.to = x.fr + l.getD x.task.toNat 0 ∧ (0 ≤ x.worker ∧ x.worker < m) := by
  obtain ⟨j, hj, rfl⟩ := List.getElem_of_mem hx
  obtain ⟨h1, _, h3, h4, h5, _⟩ := slotOk1_parts (h.fit j hj hj)
  exact ⟨by omega, h3, h4, by omega⟩
theorem SInv.short (h : SInv es T l m now st) : st.out.length ≤ T := by
  have hp : ∀ j (hj : j < st.out.length), ∀ x ∈ st.out.take j, x.task ≠ st.out[j].task := fun j hj => (slotOk1_parts (h.fit j hj hj)).2.1
  have hnd : (st.out.map fun x => x.task.toNat).Nodup := by
    rw [List.nodup_iff_pairwise_ne, List.pairwise_map, List.pairwise_iff_getElem]
    intro i j hi hj hij he
    have h2 := hp j hj st.out[i] (by
      rw [List.mem_take_iff_getElem]
      exact ⟨i, by omega, rfl⟩)
    have h3 := h.parts (List.getElem_mem hi)
    have h4 := h.parts (List.getElem_mem hj)
    exact h2 (by omega)
  have := Pg.nodup_le T _ hnd (by
    intro x hx
    obtain ⟨y, hy, rfl⟩ := List.mem_map.1 hx
    have := h.parts hy
    omega)
  simpa using this
theorem SInv.start (ho : SOk es T l m) : SInv es T l m 0 (sStart T m) := by
  have hb : ∀ k, (List.replicate m (0 : Int)).getD k 0 = 0 := fun k => by
    rw [List.getD_eq_getElem?_getD, List.getElem?_replicate]
    split <;> rfl
  have he : ∀ t, t < T → (List.replicate T (-1 : Int)).getD t 0 = -1 := fun t ht => by
    rw [List.getD_eq_getElem?_getD, List.getElem?_replicate, if_pos ht]
    rfl
  refine ⟨by simp [sStart], by simp [sStart], by omega, by simp [sStart], ?_, ?_, fun j hj => absurd hj (by simp [sStart]), ?_, ?_, ?_, ?_, ?_, ?_⟩
  · intro k _
    show 0 ≤ (List.replicate m (0 : Int)).getD k 0 ∧ (List.replicate m (0 : Int)).getD k 0 ≤ _
    rw [hb]; simp [sStart]
  · intro t ht
    show -1 ≤ (List.replicate T (-1 : Int)).getD t 0 ∧ (List.replicate T (-1 : Int)).getD t 0 ≤ _
    rw [he t ht]; simp [sStart]
  · intro x hx; simp [sStart] at hx
  · intro t ht h
    change 0 ≤ (List.replicate T (-1 : Int)).getD t 0 at h
    rw [he t ht] at h; omega
  · intro x hx; simp [sStart] at hx
  · intro e _ y hy; simp [sStart] at hy
  · intro k _ h
    change 0 < (List.replicate m (0 : Int)).getD k 0 at h
    rw [hb] at h; omega
  · intro t ht h
    change 0 < (List.replicate T (-1 : Int)).getD t 0 at h
    rw [he t ht] at h; omega

theorem mayStart_iff (ho : ∀ e ∈ es, e.1 < T) {ends : List Int} {t : Nat} : mayStart es T ends now t = true ↔ ends.getD t 0 < 0 ∧ ∀ s, (s, t) ∈ es → 0 ≤ ends.getD s 0 ∧ ends.getD s 0 ≤ now := by
  unfold mayStart beforeOk beforeL
  simp only [Bool.and_eq_true, decide_eq_true_eq, List.all_eq_true, List.mem_filter, List.mem_range, and_imp]
  exact ⟨fun h => ⟨h.1, fun s hs => h.2 s (ho _ hs) hs⟩, fun h => ⟨h.1, fun s _ hs => h.2 s hs⟩⟩

theorem SInv.take (ho : SOk es T l m) (h : SInv es T l m now st) {k t : Nat} (hk : k < m) (hb : ¬ now < st.busy.getD k 0) (hn : nextT es T st.ends now = some t) (h12 : st.out.length < T) : SInv es T l m now (sTake l now st k t) := by
  obtain ⟨htT, hm⟩ := nextT_some hn
  obtain ⟨h0, hpre⟩ := (mayStart_iff ho.lt1).1 hm
  have hw := ho.w htT
  have hs := h.short
  have hT := ho.T12
  have hnl := h.nowL
  have hn0 := h.now0
  have hlen : (sTake l now st k t).out.length = st.out.length + 1 := by simp [sTake]
  have hE : ∀ s, (sTake l now st k t).ends.getD s 0 = if t = s then now + l.getD t 0 else st.ends.getD s 0 := fun s => setD _ _ _ _ _ (by rw [h.le]; exact htT)
  have hB : ∀ s, (sTake l now st k t).busy.getD s 0 = if k = s then now + l.getD t 0 else st.busy.getD s 0 := fun s => setD _ _ _ _ _ (by rw [h.lb]; exact hk)
  have hmem : ∀ x, x ∈ (sTake l now st k t).out ↔ x ∈ st.out ∨ x = ⟨(t : Int), (k : Int), now, now + l.getD t 0⟩ := fun x => by simp [sTake]
  have hnew : ∀ x ∈ st.out, x.task ≠ (t : Int) := by
    intro x hx he
    have h1 := h.ended x hx
    have h2 := h.parts hx
    rw [he, Int.toNat_natCast] at h1
    have h3 := ho.w (t := x.task.toNat) (by omega)
    omega
  refine ⟨by simp [sTake, h.le], by simp [sTake, h.lb], hn0, by rw [hlen]; omega, ?_, ?_, ?_, ?_, ?_, ?_, ?_, ?_, ?_⟩
  · intro i hi
    have := h.busyL i hi
    rw [hB, hlen]
    split <;> omega
  · intro i hi
    have := h.endsL i hi
    rw [hE, hlen]
    split <;> omega
  · have hso : (sTake l now st k t).out = st.out ++ [⟨(t : Int), (k : Int), now, now + l.getD t 0⟩] := rfl
    intro j hj hjk
    by_cases e : j < st.out.length
    · have := h.fit j e e
      rw [show (sTake l now st k t).out[j] = st.out[j] from by simp [hso, List.getElem_append_left e]]
      rw [show (sTake l now st k t).out.take j = st.out.take j from by rw [hso, List.take_append_of_le_length (by omega)]]
      exact this
    · have hj' : j = st.out.length := by omega
      subst hj'
      rw [show (sTake l now st k t).out[st.out.length] = ⟨(t : Int), (k : Int), now, now + l.getD t 0⟩ from by simp [hso]]
      rw [show (sTake l now st k t).out.take st.out.length = st.out from by rw [hso, List.take_append_of_le_length (Nat.le_refl _), List.take_length]]
      refine slotOk1_mk ?_ ?_ ?_ ?_ ?_ ?_
      · simp only; omega
      · intro x hx; exact hnew x hx
      · simp only; omega
      · simp
      · simp only; omega
      · intro o hox
        have h1 := h.byWho o hox
        have h2 := h.parts hox
        simp only [clash, Bool.and_eq_false_iff, beq_eq_false_iff_ne, decide_eq_false_iff_not]
        by_cases e : (k : Int) = o.worker
        · have : o.worker.toNat = k := by omega
          rw [this] at h1
          left; right; omega
        · left; left; exact e
  · intro x hx
    rw [hE]
    rcases (hmem x).1 hx with hx | rfl
    · have h1 := hnew x hx
      have h2 := h.parts hx
      rw [if_neg (by omega)]
      exact h.ended x hx
    · simp
  · intro i hi h1
    rw [hE] at h1
    by_cases e : t = i
    · subst e; exact ⟨_, (hmem _).2 (.inr rfl), rfl⟩
    · rw [if_neg e] at h1
      obtain ⟨x, hx, hxt⟩ := h.begun i hi h1
      exact ⟨x, (hmem _).2 (.inl hx), hxt⟩
  · intro x hx
    rw [hB]
    rcases (hmem x).1 hx with hx | rfl
    · have := h.byWho x hx
      split
      · rename_i e
        rw [← e] at this
        omega
      · exact this
    · simp
  · intro e he y hy hye
    rcases (hmem y).1 hy with hy | rfl
    · obtain ⟨x, hx, h1, h2⟩ := h.ahead e he y hy hye
      exact ⟨x, (hmem _).2 (.inl hx), h1, h2⟩
    · simp only at hye
      have het : e.2 = t := by omega
      obtain ⟨h1, h2⟩ := hpre e.1 (by rw [← het]; exact he)
      obtain ⟨x, hx, hxt⟩ := h.begun e.1 (ho.lt1 e he) h1
      refine ⟨x, (hmem _).2 (.inl hx), hxt, ?_⟩
      have h3 := h.ended x hx
      rw [hxt, Int.toNat_natCast] at h3
      simp only
      omega
  · intro i hi h1
    rw [hB] at h1 ⊢
    by_cases e : k = i
    · rw [if_pos e]
      exact ⟨t, htT, by rw [hE, if_pos rfl]⟩
    · rw [if_neg e] at h1 ⊢
      obtain ⟨s, hs1, hs2⟩ := h.b2e i hi h1
      refine ⟨s, hs1, ?_⟩
      rw [hE, if_neg (by rintro rfl; omega)]
      exact hs2
  · intro s hs1 h1
    rw [hE] at h1 ⊢
    by_cases e : t = s
    · rw [if_pos e]
      exact ⟨k, hk, by rw [hB, if_pos rfl]⟩
    · rw [if_neg e] at h1 ⊢
      obtain ⟨i, hi1, hi2⟩ := h.e2b s hs1 h1
      refine ⟨i, hi1, ?_⟩
      rw [hB, if_neg (by rintro rfl; omega)]
      exact hi2

/-- a task that may be taken was not taken, so not all are -/
theorem next_room (ho : SOk es T l m) (h : SInv es T l m now st) {t : Nat} (hn : nextT es T st.ends now = some t) : st.out.length < T := by
  obtain ⟨htT, hm⟩ := nextT_some hn
  obtain ⟨h0, _⟩ := (mayStart_iff ho.lt1).1 hm
  refine Classical.byContradiction fun hge => ?_
  have hs := h.short
  obtain ⟨x, hx, he⟩ := all_met (T := T) h.fit (by omega) (t : Int) (by omega) (by omega)
  have h1 := h.ended x hx
  have h2 := h.parts hx
  rw [he, Int.toNat_natCast] at h1
  have h3 := ho.w (t := x.task.toNat) (by omega)
  omega
theorem SInv.step (ho : SOk es T l m) (h : SInv es T l m now st) {k : Nat} (hk : k < m) : SInv es T l m now (sStep es T l now st k) := by
  by_cases hb : now < st.busy.getD k 0
  · rw [sStep_busy hb]; exact h
  · cases hn : nextT es T st.ends now with
    | none => rw [sStep_none hn]; exact h
    | some t => rw [sStep_some hb hn]; exact h.take ho hk hb hn (next_room ho h hn)
theorem SInv.part (ho : SOk es T l m) (h : SInv es T l m now st) : ∀ k, k ≤ m → SInv es T l m now (sPart es T l now st k)
  | 0, _ => h
  | k + 1, hk => (SInv.part ho h k (by omega)).step ho (by omega)

theorem sStep_keeps (ho : SOk es T l m) (h : SInv es T l m now st) {k i : Nat} (hk : k < m) (hi : now < st.busy.getD i 0) : now < (sStep es T l now st k).busy.getD i 0 := by
  by_cases hb : now < st.busy.getD k 0
  · rw [sStep_busy hb]; exact hi
  · cases hn : nextT es T st.ends now with
    | none => rw [sStep_none hn]; exact hi
    | some t =>
      rw [sStep_some hb hn]
      have hw := ho.w (nextT_some hn).1
      show now < (st.busy.set k (now + l.getD t 0)).getD i 0
      rw [setD _ _ _ _ _ (by rw [h.lb]; exact hk)]
      split <;> omega
/-- behind a pass some worker works, or nothing was done and nothing may be taken -/
theorem part_works (ho : SOk es T l m) (h : SInv es T l m now st) : ∀ k, k ≤ m → (∃ i, i < m ∧ now < (sPart es T l now st k).busy.getD i 0) ∨ (sPart es T l now st k = st ∧ (k = 0 ∨ nextT es T st.ends now = none))
  | 0, _ => .inr ⟨rfl, .inl rfl⟩
  | k + 1, hk => by
    have hi := SInv.part ho h k (by omega)
    rcases part_works ho h k (by omega) with ⟨i, hi1, hi2⟩ | ⟨he, _⟩
    · exact .inl ⟨i, hi1, sStep_keeps ho hi (by omega) hi2⟩
    · show (∃ i, i < m ∧ now < (sStep es T l now (sPart es T l now st k) k).busy.getD i 0) ∨ _
      have e1 : sPart es T l now st (k + 1) = sStep es T l now st k := by
        show sStep es T l now (sPart es T l now st k) k = _
        rw [he]
      rw [he]
      by_cases hb : now < st.busy.getD k 0
      · exact .inl ⟨k, by omega, by rw [sStep_busy hb]; exact hb⟩
      · cases hn : nextT es T st.ends now with
        | none => exact .inr ⟨by rw [e1, sStep_none hn], .inr rfl⟩
        | some t =>
          refine .inl ⟨k, by omega, ?_⟩
          rw [sStep_some hb hn]
          have hw := ho.w (nextT_some hn).1
          show now < (st.busy.set k (now + l.getD t 0)).getD k 0
          rw [setD _ _ _ _ _ (by rw [h.lb]; omega), if_pos rfl]
          omega
theorem pass_works (ho : SOk es T l m) (h : SInv es T l m now st) (hlt : st.out.length < T) : ∃ i, i < m ∧ now < (sPart es T l now st m).busy.getD i 0 := by
  rcases part_works ho h m (Nat.le_refl _) with h1 | ⟨he, h2⟩
  · exact h1
  · rcases h2 with h2 | h2
    · have := ho.m1; omega
    refine Classical.byContradiction fun hno => ?_
    rw [he] at hno
    have hle : ∀ t, t < T → st.ends.getD t 0 ≤ now := by
      intro t ht
      refine Classical.byContradiction fun hgt => ?_
      obtain ⟨k, hk1, hk2⟩ := h.e2b t ht (by omega)
      exact hno ⟨k, hk1, by omega⟩
    have hex : ∃ t, t < T ∧ t ∉ st.out.map (fun x => x.task.toNat) := exists_out (by simpa using hlt)
    obtain ⟨t, _, htT, hm⟩ := pick_some (out := st.out.map fun x => x.task.toNat) ho.lt1 ho.ac hex
    obtain ⟨m1, m2⟩ := mayCome_iff.1 hm
    have hmay : mayStart es T st.ends now t = true := by
      rw [mayStart_iff ho.lt1]
      constructor
      · refine Classical.byContradiction fun hge => ?_
        obtain ⟨x, hx, hxt⟩ := h.begun t htT (by omega)
        exact m1 (List.mem_map.2 ⟨x, hx, by omega⟩)
      · intro s hs
        have hsT := ho.lt1 _ hs
        obtain ⟨x, hx, hxs⟩ := List.mem_map.1 (m2 s hs)
        have h3 := h.ended x hx
        have h4 := h.parts hx
        rw [hxs] at h3
        have h5 := ho.w (t := x.task.toNat) (by omega)
        have h6 := hle s hsT
        omega
    unfold nextT at h2
    rw [List.find?_eq_none] at h2
    exact h2 t (by simpa using htT) hmay

/-! the next time -/
/-- r is the least of L above now -/
def IsNext (now : Int) (L : List Int) (r : Int) : Prop := r ∈ L ∧ now < r ∧ ∀ x ∈ L, now < x → r ≤ x
theorem IsNext.same {L L' : List Int} {r r' : Int} (h : IsNext now L r) (h' : IsNext now L' r') (hs : ∀ x, now < x → (x ∈ L ↔ x ∈ L')) : r = r' := by
  have h1 := h.2.2 r' ((hs r' h'.2.1).2 h'.1) h'.2.1
  have h2 := h'.2.2 r ((hs r h.2.1).1 h.1) h.2.1
  omega
theorem nextI_is (h0 : 0 ≤ now) (L : List Int) (hex : ∃ x ∈ L, now < x) : IsNext now L (nextI now L) := by
  have key : ∀ (M : List Int) (n : Int), (n = 0 ∨ now < n) → let r := M.foldl (fun n x => if now < x ∧ (n = 0 ∨ x < n) then x else n) n; (r = n ∨ r ∈ M) ∧ (r = 0 ∨ now < r) ∧ (n ≠ 0 → r ≠ 0 ∧ r ≤ n) ∧ (∀ x ∈ M, now < x → r ≠ 0 ∧ r ≤ x) := by
    intro M
    induction M with
    | nil => intro n hn; exact ⟨.inl rfl, hn, fun h => ⟨h, Int.le_refl _⟩, fun x hx => by cases hx⟩
    | cons y M ih =>
      intro n hn
      simp only [List.foldl_cons]
      by_cases hc : now < y ∧ (n = 0 ∨ y < n)
      · rw [if_pos hc]
        obtain ⟨a1, a2, a3, a4⟩ := ih y (.inr hc.1)
        have hy : y ≠ 0 := by omega
        obtain ⟨b1, b2⟩ := a3 hy
        refine ⟨.inr ?_, a2, fun hn0 => ⟨b1, by rcases hc.2 with h | h; exact absurd h hn0; omega⟩, ?_⟩
        · rcases a1 with a1 | a1
          · rw [a1]; exact List.mem_cons_self
          · exact List.mem_cons_of_mem _ a1
        · intro x hx hxn
          rcases List.mem_cons.1 hx with rfl | hx
          · exact ⟨b1, b2⟩
          · exact a4 x hx hxn
      · rw [if_neg hc]
        obtain ⟨a1, a2, a3, a4⟩ := ih n hn
        refine ⟨?_, a2, a3, ?_⟩
        · rcases a1 with a1 | a1
          · exact .inl a1
          · exact .inr (List.mem_cons_of_mem _ a1)
        · intro x hx hxn
          rcases List.mem_cons.1 hx with rfl | hx
          · have hn0 : n ≠ 0 ∧ n ≤ x := by
              refine ⟨fun e => hc ⟨hxn, .inl e⟩, ?_⟩
              refine Classical.byContradiction fun hgt => hc ⟨hxn, .inr (by omega)⟩
            obtain ⟨b1, b2⟩ := a3 hn0.1
            exact ⟨b1, by omega⟩
          · exact a4 x hx hxn
  obtain ⟨a1, a2, _, a4⟩ := key L 0 (.inl rfl)
  obtain ⟨x, hx, hxn⟩ := hex
  obtain ⟨c1, _⟩ := a4 x hx hxn
  refine ⟨?_, ?_, fun y hy hyn => (a4 y hy hyn).2⟩
  · rcases a1 with a1 | a1
    · exact absurd a1 c1
    · exact a1
  · rcases a2 with a2 | a2
    · exact absurd a2 c1
    · exact a2
theorem nextS_is (h0 : 0 ≤ now) (L : List Int) (hex : ∃ x ∈ L, now < x) : IsNext now L (nextS now L) := by
  have key : ∀ (M : List Int) (n : Int), (n = -1 ∨ now < n) → let r := M.foldl (fun n x => if now < x ∧ (n < 0 ∨ x < n) then x else n) n; (r = n ∨ r ∈ M) ∧ (r = -1 ∨ now < r) ∧ (n ≠ -1 → r ≠ -1 ∧ r ≤ n) ∧ (∀ x ∈ M, now < x → r ≠ -1 ∧ r ≤ x) := by
    intro M
    induction M with
    | nil => intro n hn; exact ⟨.inl rfl, hn, fun h => ⟨h, Int.le_refl _⟩, fun x hx => by cases hx⟩
    | cons y M ih =>
      intro n hn
      simp only [List.foldl_cons]
      by_cases hc : now < y ∧ (n < 0 ∨ y < n)
      · rw [if_pos hc]
        obtain ⟨a1, a2, a3, a4⟩ := ih y (.inr hc.1)
        have hy : y ≠ -1 := by omega
        obtain ⟨b1, b2⟩ := a3 hy
        refine ⟨.inr ?_, a2, fun hn0 => ⟨b1, by omega⟩, ?_⟩
        · rcases a1 with a1 | a1
          · rw [a1]; exact List.mem_cons_self
          · exact List.mem_cons_of_mem _ a1
        · intro x hx hxn
          rcases List.mem_cons.1 hx with rfl | hx
          · exact ⟨b1, b2⟩
          · exact a4 x hx hxn
      · rw [if_neg hc]
        obtain ⟨a1, a2, a3, a4⟩ := ih n hn
        refine ⟨?_, a2, a3, ?_⟩
        · rcases a1 with a1 | a1
          · exact .inl a1
          · exact .inr (List.mem_cons_of_mem _ a1)
        · intro x hx hxn
          rcases List.mem_cons.1 hx with rfl | hx
          · have hn0 : n ≠ -1 ∧ n ≤ x := by omega
            obtain ⟨b1, b2⟩ := a3 hn0.1
            exact ⟨b1, by omega⟩
          · exact a4 x hx hxn
  obtain ⟨a1, a2, _, a4⟩ := key L (-1) (.inl rfl)
  obtain ⟨x, hx, hxn⟩ := hex
  obtain ⟨c1, _⟩ := a4 x hx hxn
  refine ⟨?_, ?_, fun y hy hyn => (a4 y hy hyn).2⟩
  · rcases a1 with a1 | a1
    · exact absurd a1 c1
    · exact a1
  · rcases a2 with a2 | a2
    · exact absurd a2 c1
    · exact a2
theorem mem_getD {L : List Int} {x : Int} (h : x ∈ L) : ∃ k, k < L.length ∧ L.getD k 0 = x := by
  obtain ⟨k, hk, rfl⟩ := List.getElem_of_mem h
  exact ⟨k, hk, getD_at hk 0⟩
/-- the next time, of a pass -/
theorem SInv.next (h : SInv es T l m now st) (hex : ∃ i, i < m ∧ now < st.busy.getD i 0) : IsNext now st.busy (nextI now st.busy) ∧ nextS now st.ends = nextI now st.busy := by
  obtain ⟨i, hi1, hi2⟩ := hex
  have e1 : ∃ x ∈ st.busy, now < x := ⟨_, getD_mem (by rw [h.lb]; exact hi1) 0, hi2⟩
  obtain ⟨t, ht1, ht2⟩ := h.b2e i hi1 hi2
  have e2 : ∃ x ∈ st.ends, now < x := ⟨_, getD_mem (by rw [h.le]; exact ht1) 0, by rw [ht2]; exact hi2⟩
  have n1 := nextI_is h.now0 st.busy e1
  have n2 := nextS_is h.now0 st.ends e2
  refine ⟨n1, n2.same n1 fun x hx => ⟨fun hm => ?_, fun hm => ?_⟩⟩
  · obtain ⟨s, hs1, hs2⟩ := mem_getD hm
    obtain ⟨k, hk1, hk2⟩ := h.e2b s (by rw [← h.le]; exact hs1) (by omega)
    rw [← hs2, ← hk2]
    exact getD_mem (by rw [h.lb]; exact hk1) 0
  · obtain ⟨s, hs1, hs2⟩ := mem_getD hm
    obtain ⟨k, hk1, hk2⟩ := h.b2e s (by rw [← h.lb]; exact hs1) (by omega)
    rw [← hs2, ← hk2]
    exact getD_mem (by rw [h.le]; exact hk1) 0
theorem SInv.onward (h : SInv es T l m now st) {r : Int} (hr : IsNext now st.busy r) : SInv es T l m r st := by
  obtain ⟨h1, h2, h3⟩ := hr
  obtain ⟨k, hk1, hk2⟩ := mem_getD h1
  have hk := h.busyL k (by rw [← h.lb]; exact hk1)
  have hn0 := h.now0
  refine ⟨h.le, h.lb, by omega, by omega, h.busyL, h.endsL, h.fit, h.ended, h.begun, fun x hx => ?_, h.ahead, fun k hk h1 => h.b2e k hk (by omega), fun t ht h1 => h.e2b t ht (by omega)⟩
  have := h.byWho x hx
  exact ⟨this.1, by omega⟩
/-- one round -/
theorem SInv.round (ho : SOk es T l m) (h : SInv es T l m now st) (hlt : st.out.length < T) :
    SInv es T l m (nextI now (sPart es T l now st m).busy) (sPart es T l now st m) ∧ now < nextI now (sPart es T l now st m).busy ∧ nextS now (sPart es T l now st m).ends = nextI now (sPart es T l now st m).busy := by
  have hp := h.part ho m (Nat.le_refl _)
  have hn := hp.next (pass_works ho h hlt)
  exact ⟨hp.onward hn.1, hn.1.2.1, hn.2⟩
theorem sGo_done {f : Nat} (h : T ≤ st.out.length) : sGo es T l m f now st = st.out := by
  cases f with
  | zero => rfl
  | succ f => rw [sGo, if_pos h]
theorem sGo_more {f : Nat} (h : st.out.length < T) : sGo es T l m (f + 1) now st = sGo es T l m f (nextI now (sPart es T l now st m).busy) (sPart es T l now st m) := by
  rw [sGo, if_neg (by omega)]
end
end Go.Proofs.Ytnaicippgocdfaa
end
section
namespace Go.Proofs.Ytnaicippgocdfaa
open Go.RowKit
set_option maxRecDepth 100000
set_option maxHeartbeats 2000000

/-- the tasks whose list is empty -/
def endsL (f : Nat → List Nat) (k : Nat) : List Nat := (List.range k).filter fun t => (f t).isEmpty
theorem endsL_succ (f : Nat → List Nat) (k : Nat) : endsL f (k + 1) = endsL f k ++ if (f k).isEmpty then [k] else [] := by
  unfold endsL
  rw [List.range_succ, List.filter_append, List.filter_cons, List.filter_nil]
theorem endsL_len (f : Nat → List Nat) (k : Nat) : (endsL f k).length ≤ k := by
  have := List.length_filter_le (fun t => (f t).isEmpty) (List.range k)
  simpa [endsL] using this
open Classical in
noncomputable def sourcesOf (p : Plan) : List Nat := if planFault p = 0 then endsL (fun t => beforeL (esOf p) p.tasks.toNat t) p.tasks.toNat else []
open Classical in
noncomputable def sinksOf (p : Plan) : List Nat := if planFault p = 0 then endsL (fun t => behindL (esOf p) p.tasks.toNat t) p.tasks.toNat else []
theorem sourcesOf_len (p : Plan) : (sourcesOf p).length ≤ 12 := by
  unfold sourcesOf
  split
  · rename_i hf
    have := manyOk_tasks (planFault_zero.1 hf).1
    have := endsL_len (fun t => beforeL (esOf p) p.tasks.toNat t) p.tasks.toNat
    omega
  · simp
theorem sinksOf_len (p : Plan) : (sinksOf p).length ≤ 12 := by
  unfold sinksOf
  split
  · rename_i hf
    have := manyOk_tasks (planFault_zero.1 hf).1
    have := endsL_len (fun t => behindL (esOf p) p.tasks.toNat t) p.tasks.toNat
    omega
  · simp

theorem implSources_any (p : Plan) (ve : Value) (w : World) (hl : p.edges.length ≤ 2000000) (h : Rd edgeE w w.heap.size ve p.edges) :
    Calls Try.prog 21 #[planV p ve] w fun e w' => ∃ v, e = .returned v ∧ Ow natE 3 w' w.heap.size v (sourcesOf p) ∧ Below w.heap.size w w' := by
  have hb0 := planBox_below 26 p ve w
  have D0 := BoxAt.new 26 p ve w
  have hw0 := planBox_size 26 p ve w
  have O0 := Ow.nil natE 3 (planBox 26 p ve w) (w.heap.size + 1)
  by_cases hf : planFault p = 0
  case neg =>
    have hfb : (planFault p == 0) = false := by simp [hf]
    have H := Lib.hid (show sourcesOf p = [] by unfold sourcesOf; rw [if_neg hf])
    clear hf
    unfold planV
    go_enter Try.func21, Try.ntmps21
    go_wp2
    go_loopw [3, 4] (fun vl i wr => ∃ k : Nat, k = 0 ∧ i = .int .i64 k ∧ Ow natE 3 wr (w.heap.size + 1) vl [] ∧ BoxAt w.heap.size p ve wr ∧ Below w.heap.size w wr) (fun _ _ _ => 0)
    case atStart => exact ⟨0, rfl, rfl, O0, D0, hb0⟩
    case round =>
      clear O0 D0 hb0
      obtain ⟨k, rfl, rfl, ho, D, hb⟩ := hrel
      obtain ⟨x0, x1, x2, x3, x4, xs⟩ := D.cells
      go_wp2_with fail
      refine (implPlanFault_any p ve _ hl ((h.below hb).more hb.size)).mono ?_
      rintro e w1 ⟨rfl, hb1⟩
      go_wp2
      go_ret
      exact ⟨_, rfl, by rw [H.out]; exact (ho.below hb1).more (by omega), bnext hb hb1⟩
  have hfb : (planFault p == 0) = true := by simp [hf]
  have G := Lib.hid (planFault_zero.1 hf)
  have HF := Lib.hid hf
  obtain ⟨t1, t2⟩ := manyOk_tasks G.out.1
  obtain ⟨T, hT⟩ := Int.eq_ofNat_of_zero_le (show 0 ≤ p.tasks by omega)
  have HT := Lib.hid hT
  have HTn := Lib.hid (show p.tasks.toNat = T by omega)
  have hT12 : T ≤ 12 := by omega
  have H := Lib.hid (show sourcesOf p = endsL (fun t => beforeL (esOf p) T t) T by unfold sourcesOf; rw [if_pos hf, HTn.out])
  obtain ⟨j0, hj0, jz0, jz1, jz2⟩ := info_parts int_info
  clear hf hT
  unfold planV
  go_enter Try.func21, Try.ntmps21
  go_wp2
  go_loopw [3, 4] (fun vl i wr => ∃ k : Nat, k ≤ T ∧ i = .int .i64 k ∧ Ow natE 3 wr (w.heap.size + 1) vl (endsL (fun t => beforeL (esOf p) T t) k) ∧ BoxAt w.heap.size p ve wr ∧ Below w.heap.size w wr) (fun _ i _ => T - (intOf i).toNat)
  case atStart => exact ⟨0, Nat.zero_le _, rfl, O0, D0, hb0⟩
  case round =>
    clear O0 D0 hb0
    obtain ⟨k, hk, rfl, ho, D, hb⟩ := hrel
    obtain ⟨x0, x1, x2, x3, x4, xs⟩ := D.cells
    go_wp2_with fail
    clear x0 x1 x2 x3 x4 xs
    refine (implPlanFault_any p ve _ hl ((h.below hb).more hb.size)).mono ?_
    rintro e w1 ⟨rfl, hb1⟩
    have ho := ho.below hb1
    have D := D.below hb1
    have hb := bnext hb hb1
    obtain ⟨x0, x1, x2, x3, x4, xs⟩ := D.cells
    by_cases hlt : k < T
    · have hltI : (k : Int) < p.tasks := by rw [HT.out]; omega
      go_wp2_with fail
      clear x0 x1 x2 x3 x4 xs
      refine (implBefore_any p ve k _ HF.out ((h.below hb).more hb.size)).mono ?_
      rintro e w2 ⟨v2, rfl, o2, hb2⟩
      rw [HTn.out] at o2
      have ho := ho.below hb2
      have D := D.below hb2
      have hb := bnext hb hb2
      have hun := Lib.hid (endsL_succ (fun t => beforeL (esOf p) T t) k)
      have Hl := Lib.hid (endsL_len (fun t => beforeL (esOf p) T t) k)
      have hDl := D.lt
      generalize hL : beforeL (esOf p) T k = L at *
      clear hL
      obtain ⟨A2, c2, rfl, -⟩ := id (Rd.of_own o2)
      cases L with
      | nil =>
        have S := Lib.hid (show endsL (fun t => beforeL (esOf p) T t) (k + 1) = endsL (fun t => beforeL (esOf p) T t) k ++ [k] by rw [hun.out]; simp)
        have ha : Hid (∀ w : World, Below w.heap.size w (w.alloc (.cells #[.int .i64 (k : Int)] 3))) := fun w => (Below.refl _ _).alloc (Nat.le_refl _) _
        go_wp2_with (at_builtin; refine wpList_push_all _ natE (by decide) rfl (.tmp 21) (.tmp 23) rfl Try.underlying27 hj0 jz0 jz1 jz2 rfl (l := endsL (fun t => beforeL (esOf p) T t) k) rfl (ho.below (ha.out _)) rfl (Rd.one natE _ _ k rfl rfl 1 (Nat.le_refl _) (Nat.lt_succ_self _)) (by have := Hl.out; omega) (by simp) (by decide) (by simp; omega) ?_; intro v5 w5 o5 g5 _)
        have D5 := (D.below (ha.out _)).far g5 (fun e => by have := ho.within _ e.symm; omega)
        have hb' := bnext hb (ha.out _)
        have W5 := hb'.grown g5 hb'.size (fun g hg => by have := ho.within _ hg; omega)
        exact ⟨⟨k + 1, by omega, by go_num, by rw [S.out]; exact o5, D5, W5⟩, by simp [intOf]; omega⟩
      | cons a L =>
        have S := Lib.hid (show endsL (fun t => beforeL (esOf p) T t) (k + 1) = endsL (fun t => beforeL (esOf p) T t) k by rw [hun.out]; simp)
        have hcb : (((a :: L).length : Int) == 0) = false := beq_eq_false_iff_ne.2 (by simp only [List.length_cons]; omega)
        generalize (a :: L).length = m at *
        go_wp2
        exact ⟨⟨k + 1, by omega, by go_num, by rw [S.out]; exact ho, D, hb⟩, by simp [intOf]; omega⟩
    · have hltI : ¬ (k : Int) < p.tasks := by rw [HT.out]; omega
      have hk' : k = T := by omega
      subst hk'
      go_wp2
      go_ret
      exact ⟨_, rfl, by rw [H.out]; exact ho.more (by omega), hb⟩

theorem implSinks_any (p : Plan) (ve : Value) (w : World) (hl : p.edges.length ≤ 2000000) (h : Rd edgeE w w.heap.size ve p.edges) :
    Calls Try.prog 23 #[planV p ve] w fun e w' => ∃ v, e = .returned v ∧ Ow natE 3 w' w.heap.size v (sinksOf p) ∧ Below w.heap.size w w' := by
  have hb0 := planBox_below 26 p ve w
  have D0 := BoxAt.new 26 p ve w
  have hw0 := planBox_size 26 p ve w
  have O0 := Ow.nil natE 3 (planBox 26 p ve w) (w.heap.size + 1)
  by_cases hf : planFault p = 0
  case neg =>
    have hfb : (planFault p == 0) = false := by simp [hf]
    have H := Lib.hid (show sinksOf p = [] by unfold sinksOf; rw [if_neg hf])
    clear hf
    unfold planV
    go_enter Try.func23, Try.ntmps23
    go_wp2
    go_loopw [3, 4] (fun vl i wr => ∃ k : Nat, k = 0 ∧ i = .int .i64 k ∧ Ow natE 3 wr (w.heap.size + 1) vl [] ∧ BoxAt w.heap.size p ve wr ∧ Below w.heap.size w wr) (fun _ _ _ => 0)
    case atStart => exact ⟨0, rfl, rfl, O0, D0, hb0⟩
    case round =>
      clear O0 D0 hb0
      obtain ⟨k, rfl, rfl, ho, D, hb⟩ := hrel
      obtain ⟨x0, x1, x2, x3, x4, xs⟩ := D.cells
      go_wp2_with fail
      refine (implPlanFault_any p ve _ hl ((h.below hb).more hb.size)).mono ?_
      rintro e w1 ⟨rfl, hb1⟩
      go_wp2
      go_ret
      exact ⟨_, rfl, by rw [H.out]; exact (ho.below hb1).more (by omega), bnext hb hb1⟩
  have hfb : (planFault p == 0) = true := by simp [hf]
  have G := Lib.hid (planFault_zero.1 hf)
  have HF := Lib.hid hf
  obtain ⟨t1, t2⟩ := manyOk_tasks G.out.1
  obtain ⟨T, hT⟩ := Int.eq_ofNat_of_zero_le (show 0 ≤ p.tasks by omega)
  have HT := Lib.hid hT
  have HTn := Lib.hid (show p.tasks.toNat = T by omega)
  have hT12 : T ≤ 12 := by omega
  have H := Lib.hid (show sinksOf p = endsL (fun t => behindL (esOf p) T t) T by unfold sinksOf; rw [if_pos hf, HTn.out])
  obtain ⟨j0, hj0, jz0, jz1, jz2⟩ := info_parts int_info
  clear hf hT
  unfold planV
  go_enter Try.func23, Try.ntmps23
  go_wp2
  go_loopw [3, 4] (fun vl i wr => ∃ k : Nat, k ≤ T ∧ i = .int .i64 k ∧ Ow natE 3 wr (w.heap.size + 1) vl (endsL (fun t => behindL (esOf p) T t) k) ∧ BoxAt w.heap.size p ve wr ∧ Below w.heap.size w wr) (fun _ i _ => T - (intOf i).toNat)
  case atStart => exact ⟨0, Nat.zero_le _, rfl, O0, D0, hb0⟩
  case round =>
    clear O0 D0 hb0
    obtain ⟨k, hk, rfl, ho, D, hb⟩ := hrel
    obtain ⟨x0, x1, x2, x3, x4, xs⟩ := D.cells
    go_wp2_with fail
    clear x0 x1 x2 x3 x4 xs
    refine (implPlanFault_any p ve _ hl ((h.below hb).more hb.size)).mono ?_
    rintro e w1 ⟨rfl, hb1⟩
    have ho := ho.below hb1
    have D := D.below hb1
    have hb := bnext hb hb1
    obtain ⟨x0, x1, x2, x3, x4, xs⟩ := D.cells
    by_cases hlt : k < T
    · have hltI : (k : Int) < p.tasks := by rw [HT.out]; omega
      go_wp2_with fail
      clear x0 x1 x2 x3 x4 xs
      refine (implBehind_any p ve k _ HF.out ((h.below hb).more hb.size)).mono ?_
      rintro e w2 ⟨v2, rfl, o2, hb2⟩
      rw [HTn.out] at o2
      have ho := ho.below hb2
      have D := D.below hb2
      have hb := bnext hb hb2
      have hun := Lib.hid (endsL_succ (fun t => behindL (esOf p) T t) k)
      have Hl := Lib.hid (endsL_len (fun t => behindL (esOf p) T t) k)
      have hDl := D.lt
      generalize hL : behindL (esOf p) T k = L at *
      clear hL
      obtain ⟨A2, c2, rfl, -⟩ := id (Rd.of_own o2)
      cases L with
      | nil =>
        have S := Lib.hid (show endsL (fun t => behindL (esOf p) T t) (k + 1) = endsL (fun t => behindL (esOf p) T t) k ++ [k] by rw [hun.out]; simp)
        have ha : Hid (∀ w : World, Below w.heap.size w (w.alloc (.cells #[.int .i64 (k : Int)] 3))) := fun w => (Below.refl _ _).alloc (Nat.le_refl _) _
        go_wp2_with (at_builtin; refine wpList_push_all _ natE (by decide) rfl (.tmp 21) (.tmp 23) rfl Try.underlying27 hj0 jz0 jz1 jz2 rfl (l := endsL (fun t => behindL (esOf p) T t) k) rfl (ho.below (ha.out _)) rfl (Rd.one natE _ _ k rfl rfl 1 (Nat.le_refl _) (Nat.lt_succ_self _)) (by have := Hl.out; omega) (by simp) (by decide) (by simp; omega) ?_; intro v5 w5 o5 g5 _)
        have D5 := (D.below (ha.out _)).far g5 (fun e => by have := ho.within _ e.symm; omega)
        have hb' := bnext hb (ha.out _)
        have W5 := hb'.grown g5 hb'.size (fun g hg => by have := ho.within _ hg; omega)
        exact ⟨⟨k + 1, by omega, by go_num, by rw [S.out]; exact o5, D5, W5⟩, by simp [intOf]; omega⟩
      | cons a L =>
        have S := Lib.hid (show endsL (fun t => behindL (esOf p) T t) (k + 1) = endsL (fun t => behindL (esOf p) T t) k by rw [hun.out]; simp)
        have hcb : (((a :: L).length : Int) == 0) = false := beq_eq_false_iff_ne.2 (by simp only [List.length_cons]; omega)
        generalize (a :: L).length = m at *
        go_wp2
        exact ⟨⟨k + 1, by omega, by go_num, by rw [S.out]; exact ho, D, hb⟩, by simp [intOf]; omega⟩
    · have hltI : ¬ (k : Int) < p.tasks := by rw [HT.out]; omega
      have hk' : k = T := by omega
      subst hk'
      go_wp2
      go_ret
      exact ⟨_, rfl, by rw [H.out]; exact ho.more (by omega), hb⟩

theorem specSources_any (p : Plan) (ve : Value) (w : World) (hl : p.edges.length ≤ 2000000) (h : Rd edgeE w w.heap.size ve p.edges) :
    Calls Try.prog 24 #[planV p ve] w fun e w' => ∃ v, e = .returned v ∧ Ow natE 3 w' w.heap.size v (sourcesOf p) ∧ Below w.heap.size w w' := by
  have ha0 : ∀ w : World, Below w.heap.size w (w.alloc (.cells #[] 3)) := fun w => (Below.refl _ _).alloc (Nat.le_refl _) _
  have hb0 := bnext (planBox_below 26 p ve w) (ha0 _)
  have D0 := (BoxAt.new 26 p ve w).below (ha0 _)
  have O0 := Ow.empty natE 3 (planBox 26 p ve w) (g := w.heap.size + 1) (by rw [planBox_size])
  clear ha0
  by_cases hf : planFault p = 0
  case neg =>
    have hfb : (planFault p == 0) = false := by simp [hf]
    have H := Lib.hid (show sourcesOf p = [] by unfold sourcesOf; rw [if_neg hf])
    clear hf
    unfold planV
    go_enter Try.func24, Try.ntmps24
    go_wp2
    go_loopw [3, 4] (fun vl i wr => ∃ k : Nat, k = 0 ∧ i = .int .i64 k ∧ Ow natE 3 wr (w.heap.size + 1) vl [] ∧ BoxAt w.heap.size p ve wr ∧ Below w.heap.size w wr) (fun _ _ _ => 0)
    case atStart => exact ⟨0, rfl, rfl, O0, D0, hb0⟩
    case round =>
      clear O0 D0 hb0
      obtain ⟨k, rfl, rfl, ho, D, hb⟩ := hrel
      obtain ⟨x0, x1, x2, x3, x4, xs⟩ := D.cells
      go_wp2_with fail
      refine (specPlanFault_any p ve _ hl ((h.below hb).more hb.size)).mono ?_
      rintro e w1 ⟨rfl, hb1⟩
      go_wp2
      go_ret
      exact ⟨_, rfl, by rw [H.out]; exact (ho.below hb1).more (by omega), bnext hb hb1⟩
  have hfb : (planFault p == 0) = true := by simp [hf]
  have G := Lib.hid (planFault_zero.1 hf)
  have HF := Lib.hid hf
  obtain ⟨t1, t2⟩ := manyOk_tasks G.out.1
  obtain ⟨T, hT⟩ := Int.eq_ofNat_of_zero_le (show 0 ≤ p.tasks by omega)
  have HT := Lib.hid hT
  have HTn := Lib.hid (show p.tasks.toNat = T by omega)
  have hT12 : T ≤ 12 := by omega
  have H := Lib.hid (show sourcesOf p = endsL (fun t => beforeL (esOf p) T t) T by unfold sourcesOf; rw [if_pos hf, HTn.out])
  obtain ⟨j0, hj0, jz0, jz1, jz2⟩ := info_parts int_info
  clear hf hT
  unfold planV
  go_enter Try.func24, Try.ntmps24
  go_wp2
  go_loopw [3, 4] (fun vl i wr => ∃ k : Nat, k ≤ T ∧ i = .int .i64 k ∧ Ow natE 3 wr (w.heap.size + 1) vl (endsL (fun t => beforeL (esOf p) T t) k) ∧ BoxAt w.heap.size p ve wr ∧ Below w.heap.size w wr) (fun _ i _ => T - (intOf i).toNat)
  case atStart => exact ⟨0, Nat.zero_le _, rfl, O0, D0, hb0⟩
  case round =>
    clear O0 D0 hb0
    obtain ⟨k, hk, rfl, ho, D, hb⟩ := hrel
    obtain ⟨x0, x1, x2, x3, x4, xs⟩ := D.cells
    go_wp2_with fail
    clear x0 x1 x2 x3 x4 xs
    refine (specPlanFault_any p ve _ hl ((h.below hb).more hb.size)).mono ?_
    rintro e w1 ⟨rfl, hb1⟩
    have ho := ho.below hb1
    have D := D.below hb1
    have hb := bnext hb hb1
    obtain ⟨x0, x1, x2, x3, x4, xs⟩ := D.cells
    by_cases hlt : k < T
    · have hltI : (k : Int) < p.tasks := by rw [HT.out]; omega
      go_wp2_with fail
      clear x0 x1 x2 x3 x4 xs
      refine (specBefore_any p ve k _ G.out.1 G.out.2.1 G.out.2.2.1 ((h.below hb).more hb.size)).mono ?_
      rintro e w2 ⟨v2, rfl, o2, hb2⟩
      rw [HTn.out] at o2
      have ho := ho.below hb2
      have D := D.below hb2
      have hb := bnext hb hb2
      have hun := Lib.hid (endsL_succ (fun t => beforeL (esOf p) T t) k)
      have Hl := Lib.hid (endsL_len (fun t => beforeL (esOf p) T t) k)
      have hDl := D.lt
      generalize hL : beforeL (esOf p) T k = L at *
      clear hL
      obtain ⟨A2, c2, rfl, -⟩ := id (Rd.of_own o2)
      cases L with
      | nil =>
        have S := Lib.hid (show endsL (fun t => beforeL (esOf p) T t) (k + 1) = endsL (fun t => beforeL (esOf p) T t) k ++ [k] by rw [hun.out]; simp)
        have ha : Hid (∀ w : World, Below w.heap.size w (w.alloc (.cells #[.int .i64 (k : Int)] 3))) := fun w => (Below.refl _ _).alloc (Nat.le_refl _) _
        go_wp2_with (at_builtin; refine wpList_push_all _ natE (by decide) rfl (.tmp 22) (.tmp 24) rfl Try.underlying27 hj0 jz0 jz1 jz2 rfl (l := endsL (fun t => beforeL (esOf p) T t) k) rfl (ho.below (ha.out _)) rfl (Rd.one natE _ _ k rfl rfl 1 (Nat.le_refl _) (Nat.lt_succ_self _)) (by have := Hl.out; omega) (by simp) (by decide) (by simp; omega) ?_; intro v5 w5 o5 g5 _)
        have D5 := (D.below (ha.out _)).far g5 (fun e => by have := ho.within _ e.symm; omega)
        have hb' := bnext hb (ha.out _)
        have W5 := hb'.grown g5 hb'.size (fun g hg => by have := ho.within _ hg; omega)
        exact ⟨⟨k + 1, by omega, by go_num, by rw [S.out]; exact o5, D5, W5⟩, by simp [intOf]; omega⟩
      | cons a L =>
        have S := Lib.hid (show endsL (fun t => beforeL (esOf p) T t) (k + 1) = endsL (fun t => beforeL (esOf p) T t) k by rw [hun.out]; simp)
        have hcb : (((a :: L).length : Int) == 0) = false := beq_eq_false_iff_ne.2 (by simp only [List.length_cons]; omega)
        generalize (a :: L).length = m at *
        go_wp2
        exact ⟨⟨k + 1, by omega, by go_num, by rw [S.out]; exact ho, D, hb⟩, by simp [intOf]; omega⟩
    · have hltI : ¬ (k : Int) < p.tasks := by rw [HT.out]; omega
      have hk' : k = T := by omega
      subst hk'
      go_wp2
      go_ret
      exact ⟨_, rfl, by rw [H.out]; exact ho.more (by omega), hb⟩

theorem specSinks_any (p : Plan) (ve : Value) (w : World) (hl : p.edges.length ≤ 2000000) (h : Rd edgeE w w.heap.size ve p.edges) :
    Calls Try.prog 22 #[planV p ve] w fun e w' => ∃ v, e = .returned v ∧ Ow natE 3 w' w.heap.size v (sinksOf p) ∧ Below w.heap.size w w' := by
  have ha0 : ∀ w : World, Below w.heap.size w (w.alloc (.cells #[] 3)) := fun w => (Below.refl _ _).alloc (Nat.le_refl _) _
  have hb0 := bnext (planBox_below 26 p ve w) (ha0 _)
  have D0 := (BoxAt.new 26 p ve w).below (ha0 _)
  have O0 := Ow.empty natE 3 (planBox 26 p ve w) (g := w.heap.size + 1) (by rw [planBox_size])
  clear ha0
  by_cases hf : planFault p = 0
  case neg =>
    have hfb : (planFault p == 0) = false := by simp [hf]
    have H := Lib.hid (show sinksOf p = [] by unfold sinksOf; rw [if_neg hf])
    clear hf
    unfold planV
    go_enter Try.func22, Try.ntmps22
    go_wp2
    go_loopw [3, 4] (fun vl i wr => ∃ k : Nat, k = 0 ∧ i = .int .i64 k ∧ Ow natE 3 wr (w.heap.size + 1) vl [] ∧ BoxAt w.heap.size p ve wr ∧ Below w.heap.size w wr) (fun _ _ _ => 0)
    case atStart => exact ⟨0, rfl, rfl, O0, D0, hb0⟩
    case round =>
      clear O0 D0 hb0
      obtain ⟨k, rfl, rfl, ho, D, hb⟩ := hrel
      obtain ⟨x0, x1, x2, x3, x4, xs⟩ := D.cells
      go_wp2_with fail
      refine (specPlanFault_any p ve _ hl ((h.below hb).more hb.size)).mono ?_
      rintro e w1 ⟨rfl, hb1⟩
      go_wp2
      go_ret
      exact ⟨_, rfl, by rw [H.out]; exact (ho.below hb1).more (by omega), bnext hb hb1⟩
  have hfb : (planFault p == 0) = true := by simp [hf]
  have G := Lib.hid (planFault_zero.1 hf)
  have HF := Lib.hid hf
  obtain ⟨t1, t2⟩ := manyOk_tasks G.out.1
  obtain ⟨T, hT⟩ := Int.eq_ofNat_of_zero_le (show 0 ≤ p.tasks by omega)
  have HT := Lib.hid hT
  have HTn := Lib.hid (show p.tasks.toNat = T by omega)
  have hT12 : T ≤ 12 := by omega
  have H := Lib.hid (show sinksOf p = endsL (fun t => behindL (esOf p) T t) T by unfold sinksOf; rw [if_pos hf, HTn.out])
  obtain ⟨j0, hj0, jz0, jz1, jz2⟩ := info_parts int_info
  clear hf hT
  unfold planV
  go_enter Try.func22, Try.ntmps22
  go_wp2
  go_loopw [3, 4] (fun vl i wr => ∃ k : Nat, k ≤ T ∧ i = .int .i64 k ∧ Ow natE 3 wr (w.heap.size + 1) vl (endsL (fun t => behindL (esOf p) T t) k) ∧ BoxAt w.heap.size p ve wr ∧ Below w.heap.size w wr) (fun _ i _ => T - (intOf i).toNat)
  case atStart => exact ⟨0, Nat.zero_le _, rfl, O0, D0, hb0⟩
  case round =>
    clear O0 D0 hb0
    obtain ⟨k, hk, rfl, ho, D, hb⟩ := hrel
    obtain ⟨x0, x1, x2, x3, x4, xs⟩ := D.cells
    go_wp2_with fail
    clear x0 x1 x2 x3 x4 xs
    refine (specPlanFault_any p ve _ hl ((h.below hb).more hb.size)).mono ?_
    rintro e w1 ⟨rfl, hb1⟩
    have ho := ho.below hb1
    have D := D.below hb1
    have hb := bnext hb hb1
    obtain ⟨x0, x1, x2, x3, x4, xs⟩ := D.cells
    by_cases hlt : k < T
    · have hltI : (k : Int) < p.tasks := by rw [HT.out]; omega
      go_wp2_with fail
      clear x0 x1 x2 x3 x4 xs
      refine (specBehind_any p ve k _ G.out.1 G.out.2.1 G.out.2.2.1 ((h.below hb).more hb.size)).mono ?_
      rintro e w2 ⟨v2, rfl, o2, hb2⟩
      rw [HTn.out] at o2
      have ho := ho.below hb2
      have D := D.below hb2
      have hb := bnext hb hb2
      have hun := Lib.hid (endsL_succ (fun t => behindL (esOf p) T t) k)
      have Hl := Lib.hid (endsL_len (fun t => behindL (esOf p) T t) k)
      have hDl := D.lt
      generalize hL : behindL (esOf p) T k = L at *
      clear hL
      obtain ⟨A2, c2, rfl, -⟩ := id (Rd.of_own o2)
      cases L with
      | nil =>
        have S := Lib.hid (show endsL (fun t => behindL (esOf p) T t) (k + 1) = endsL (fun t => behindL (esOf p) T t) k ++ [k] by rw [hun.out]; simp)
        have ha : Hid (∀ w : World, Below w.heap.size w (w.alloc (.cells #[.int .i64 (k : Int)] 3))) := fun w => (Below.refl _ _).alloc (Nat.le_refl _) _
        go_wp2_with (at_builtin; refine wpList_push_all _ natE (by decide) rfl (.tmp 22) (.tmp 24) rfl Try.underlying27 hj0 jz0 jz1 jz2 rfl (l := endsL (fun t => behindL (esOf p) T t) k) rfl (ho.below (ha.out _)) rfl (Rd.one natE _ _ k rfl rfl 1 (Nat.le_refl _) (Nat.lt_succ_self _)) (by have := Hl.out; omega) (by simp) (by decide) (by simp; omega) ?_; intro v5 w5 o5 g5 _)
        have D5 := (D.below (ha.out _)).far g5 (fun e => by have := ho.within _ e.symm; omega)
        have hb' := bnext hb (ha.out _)
        have W5 := hb'.grown g5 hb'.size (fun g hg => by have := ho.within _ hg; omega)
        exact ⟨⟨k + 1, by omega, by go_num, by rw [S.out]; exact o5, D5, W5⟩, by simp [intOf]; omega⟩
      | cons a L =>
        have S := Lib.hid (show endsL (fun t => behindL (esOf p) T t) (k + 1) = endsL (fun t => behindL (esOf p) T t) k by rw [hun.out]; simp)
        have hcb : (((a :: L).length : Int) == 0) = false := beq_eq_false_iff_ne.2 (by simp only [List.length_cons]; omega)
        generalize (a :: L).length = m at *
        go_wp2
        exact ⟨⟨k + 1, by omega, by go_num, by rw [S.out]; exact ho, D, hb⟩, by simp [intOf]; omega⟩
    · have hltI : ¬ (k : Int) < p.tasks := by rw [HT.out]; omega
      have hk' : k = T := by omega
      subst hk'
      go_wp2
      go_ret
      exact ⟨_, rfl, by rw [H.out]; exact ho.more (by omega), hb⟩

theorem natE_intE (l : List Nat) : l.flatMap natE.cells = (l.map fun (x : Nat) => (x : Int)).flatMap intE.cells := by
  induction l with
  | nil => rfl
  | cons a l ih => rw [List.flatMap_cons, ih]; rfl
theorem Ow.toInt {w : World} {base : Nat} {v : Value} {l : List Nat} (h : Ow natE 3 w base v l) : Ow intE 3 w base v (l.map fun (x : Nat) => (x : Int)) := by
  unfold Ow at *
  rw [← natE_intE, List.length_map]
  exact h
noncomputable def sourcesI (p : Plan) : List Int := (sourcesOf p).map fun (x : Nat) => (x : Int)
noncomputable def sinksI (p : Plan) : List Int := (sinksOf p).map fun (x : Nat) => (x : Int)
theorem implSourcesI_any (p : Plan) (ve : Value) (w : World) (hl : p.edges.length ≤ 2000000) (h : Rd edgeE w w.heap.size ve p.edges) :
    Calls Try.prog 21 #[planV p ve] w fun e w' => ∃ v, e = .returned v ∧ Ow intE 3 w' w.heap.size v (sourcesI p) ∧ Below w.heap.size w w' :=
  (implSources_any p ve w hl h).mono fun _ _ ⟨v, he, ho, hb⟩ => ⟨v, he, ho.toInt, hb⟩
theorem implSinksI_any (p : Plan) (ve : Value) (w : World) (hl : p.edges.length ≤ 2000000) (h : Rd edgeE w w.heap.size ve p.edges) :
    Calls Try.prog 23 #[planV p ve] w fun e w' => ∃ v, e = .returned v ∧ Ow intE 3 w' w.heap.size v (sinksI p) ∧ Below w.heap.size w w' :=
  (implSinks_any p ve w hl h).mono fun _ _ ⟨v, he, ho, hb⟩ => ⟨v, he, ho.toInt, hb⟩
theorem specSourcesI_any (p : Plan) (ve : Value) (w : World) (hl : p.edges.length ≤ 2000000) (h : Rd edgeE w w.heap.size ve p.edges) :
    Calls Try.prog 24 #[planV p ve] w fun e w' => ∃ v, e = .returned v ∧ Ow intE 3 w' w.heap.size v (sourcesI p) ∧ Below w.heap.size w w' :=
  (specSources_any p ve w hl h).mono fun _ _ ⟨v, he, ho, hb⟩ => ⟨v, he, ho.toInt, hb⟩
theorem specSinksI_any (p : Plan) (ve : Value) (w : World) (hl : p.edges.length ≤ 2000000) (h : Rd edgeE w w.heap.size ve p.edges) :
    Calls Try.prog 22 #[planV p ve] w fun e w' => ∃ v, e = .returned v ∧ Ow intE 3 w' w.heap.size v (sinksI p) ∧ Below w.heap.size w w' :=
  (specSinks_any p ve w hl h).mono fun _ _ ⟨v, he, ho, hb⟩ => ⟨v, he, ho.toInt, hb⟩
theorem sourcesI_len (p : Plan) : (sourcesI p).length ≤ 2000000 := by
  have := sourcesOf_len p
  simp only [sourcesI, List.length_map]
  omega
theorem sinksI_len (p : Plan) : (sinksI p).length ≤ 2000000 := by
  have := sinksOf_len p
  simp only [sinksI, List.length_map]
  omega
end Go.Proofs.Ytnaicippgocdfaa
end
