/-
  A plan that is drawn. slices.Sort on a slice of the call's own; BeforeOf and BehindOf of the program. Slots that fit a plan: plain facts. Beside of the reference. Reduced of the reference. The argument of a law that draws: bytes, read as data. OrderOf of the program.
-/
import Derived.Test.YtnaicippgocdfaaZJ2
import Derived.Sort.OwnSortedInts
section
namespace Go.Proofs.Ytnaicippgocdfaa
open Go.RowKit
set_option maxRecDepth 100000
set_option maxHeartbeats 2000000
set_option linter.unusedVariables false

theorem Chg.alloc {F : List Nat} {a w : World} (h : Chg F a w) (o : Obj) : Chg F a (w.alloc o) := h.trans (Chg.of_below F ((Below.refl _ _).alloc (Nat.le_refl _) o))
theorem Chg.setNew {F : List Nat} {a w : World} (h : Chg F a w) {p : Addr} (hp : a.heap.size ≤ p.block) {u : Value} : Chg F a (w.setCell p u) :=
  ⟨h.os, h.tape, h.output, by have := h.size; simpa [World.setCell] using this, fun i hi hn => (Below.heap_setCell w p u i (by omega)).trans (h.block i hi hn)⟩
theorem Chg.grownNew {F : List Nat} {a w w' : World} {row : Option Nat} (h : Chg F a w) (hg : w.grownBy w' row) (hr : ∀ g, row = some g → a.heap.size ≤ g) : Chg F a w' :=
  ⟨hg.os.trans h.os, hg.tape.trans h.tape, hg.output.trans h.output, Nat.le_trans h.size hg.size, fun i hi hn => (hg.block i (Nat.lt_of_lt_of_le hi h.size) (fun e => by have := hr i e.symm; omega)).trans (h.block i hi hn)⟩
theorem Chg.belowNew {F : List Nat} {a w w' : World} (h : Chg F a w) (hb : Below w.heap.size w w') : Chg F a w' := h.trans (Chg.of_below F hb)
theorem Chg.toGrown {b : Nat} {w w' : World} (h : Chg [b] w w') : w.grownBy w' (some b) :=
  ⟨h.os, h.tape, h.output, h.size, fun k hk hn => h.block k hk (fun hm => hn (by simp only [List.mem_singleton] at hm; rw [hm]))⟩
theorem Drw.setNew {b : Nat} {v : Value} {code : List UInt8} {c : Cur} {w : World} (h : Drw b v code c w) {p : Addr} (hp : b < p.block) (u : Value) : Drw b v code c (w.setCell p u) := by
  refine h.chg (F := [p.block]) (w' := w.setCell p u) ⟨rfl, rfl, rfl, by simp [World.setCell], fun i _ hn => Below.heap_setCell w p u i (by simpa using hn)⟩ (fun x hx => by simp only [List.mem_singleton] at hx; omega)
theorem Drw.grownNew {b : Nat} {v : Value} {code : List UInt8} {c : Cur} {w w' : World} {row : Option Nat} (h : Drw b v code c w) (hg : w.grownBy w' row) (hr : ∀ g, row = some g → b < g) : Drw b v code c w' :=
  h.chg (F := row.toList) (Chg.grown hg (fun g e => by simp [e])) (fun x hx => hr x (by simpa using hx))
theorem Drw.alloc {b : Nat} {v : Value} {code : List UInt8} {c : Cur} {w : World} (h : Drw b v code c w) (o : Obj) : Drw b v code c (w.alloc o) := h.below ((Below.refl _ _).alloc (Nat.le_refl _) o)
theorem Drw.drewN {b : Nat} {v : Value} {code : List UInt8} {c : Cur} {w : World} (h : Drw b v code c w) (n : Nat) : Drw b v code c (w.drewN n) := ⟨h.box.drewN n, h.rd, h.small, h.le⟩
theorem BoxAt.chg {F : List Nat} {b : Nat} {p : Plan} {v : Value} {w w' : World} (h : BoxAt b p v w) (hc : Chg F w w') (hn : b ∉ F) : BoxAt b p v w' :=
  h.keep hc.size (fun j => hc.cell (p := ⟨b, j, none⟩) h.lt hn) (fun j => hc.frozen (p := ⟨b, j, none⟩) h.lt hn)
theorem BoxAt.drewN {b : Nat} {p : Plan} {v : Value} {w : World} (h : BoxAt b p v w) (n : Nat) : BoxAt b p v (w.drewN n) := ⟨h.cells, h.free⟩
theorem EdgeAt.chg {F : List Nat} {b : Nat} {e : Edge} {w w' : World} (h : EdgeAt b e w) (hc : Chg F w w') (hn : b ∉ F) : EdgeAt b e w' := by
  obtain ⟨h0, h1, h2⟩ := h.cells
  exact ⟨(hc.cell (p := ⟨b, 0, none⟩) h2 hn).trans h0, (hc.cell (p := ⟨b, 1, none⟩) h2 hn).trans h1, Nat.lt_of_lt_of_le h2 hc.size⟩
theorem Ow.chg {α : Type} {e : Enc α} {E : TypeId} {w w' : World} {base b : Nat} {v : Value} {l : List α} (h : Ow e E w base v l) (hc : Chg [b] w w') (hb : b < base) : Ow e E w' base v l :=
  h.grown hc.toGrown (.inr (fun e' => by have := h.within b e'; omega))

theorem Ow.setLow {α : Type} {e : Enc α} {E : TypeId} {w : World} {base : Nat} {v : Value} {l : List α} (h : Ow e E w base v l) {a : Addr} (ha : a.block < base) (u : Value) : Ow e E (w.setCell a u) base v l :=
  h.setOther (fun e' => by have := h.within _ e'; omega) u

def newTo (code : List UInt8) (T : Int) (c : Cur) : Int := 1 + (curBelow code (T - 1) (curBelow code 9 c).2).1
def newE (code : List UInt8) (T : Int) (c : Cur) : Edge := ⟨(curBelow code (newTo code T c) (curBelow code (T - 1) (curBelow code 9 c).2).2).1, newTo code T c⟩
def newC (code : List UInt8) (T : Int) (c : Cur) : Cur := (curBelow code (newTo code T c) (curBelow code (T - 1) (curBelow code 9 c).2).2).2
def addE (es : List Edge) (e : Edge) : List Edge := if e ∈ es then es else es ++ [e]
/-- the edges that are drawn, i of them gone by -/
def planGo (code : List UInt8) (T : Int) : Nat → Nat → List Edge → Cur → List Edge × Cur
  | 0, _, es, c => (es, c)
  | f + 1, i, es, c => if (i : Int) < (curBelow code 9 c).1 ∧ 1 < T then planGo code T f (i + 1) (addE es (newE code T c)) (newC code T c) else (es, (curBelow code 9 c).2)
def planT (once : Bool) (t : Int) : Int := if once = true then 12 else 1 + t
def curPlan (code : List UInt8) (c : Cur) : Plan × Cur :=
  let a := curBelow code 4 c
  let b := curBelow code 3 a.2
  let d := curBelow code 4 b.2
  let t := curBelow code 6 d.2
  let o := curOnce code 10 t.2
  let g := planGo code (planT o.1 t.1) 10 0 [] o.2
  (⟨a.1, 1 + b.1, 1 + d.1, planT o.1 t.1, g.1⟩, g.2)
def PlanP (b : Nat) (v : Value) (code : List UInt8) (r : Plan × Cur) (w : World) (e : Ending) (w' : World) : Prop :=
  ∃ u, e = .returned (planV r.1 u) ∧ Ow edgeE 52 w' w.heap.size u r.1.edges ∧ Drw b v code r.2 w' ∧ Chg [b] w w'

theorem drawPlan_any (b : Nat) (v : Value) (code : List UInt8) (c : Cur) (w : World) (h : Drw b v code c w) :
    Calls Try.prog 46 #[.pointer (some ⟨b, 0, none⟩)] w (PlanP b v code (curPlan code c) w) := by
  have hb := h.box.lt
  go_enter Try.func46, Try.ntmps46
  go_wp2_with fail
  have C0 := (Chg.refl [b] w).alloc (.cells #[.int .i64 0, .int .i64 0, .int .i64 0, .int .i64 0, .slice none 0 0] 26)
  have h := h.alloc (.cells #[.int .i64 0, .int .i64 0, .int .i64 0, .int .i64 0, .slice none 0 0] 26)
  have R0 := BoxAt.new' 26 ⟨0, 0, 0, 0, []⟩ (.slice none 0 0) w rfl
  have hbz : b < w.heap.size := hb
  refine (below_any 4 b v code c _ (by omega) h).mono ?_
  rintro e w1 ⟨rfl, k1, c1⟩
  have B1 := curBelow_bd code (n := 4) c (by omega)
  generalize hr1 : curBelow code 4 c = r1 at *
  have H1 := Lib.hid hr1
  clear hr1
  have R1 := R0.chg c1 (by simp; omega)
  go_wp2_with fail
  refine (below_any 3 b v code _ _ (by omega) k1).mono ?_
  rintro e w2 ⟨rfl, k2, c2⟩
  have B2 := curBelow_bd code (n := 3) r1.2 (by omega)
  generalize hr2 : curBelow code 3 r1.2 = r2 at *
  have H2 := Lib.hid hr2
  clear hr2
  have R2 := R1.chg c2 (by simp; omega)
  go_wp2_with fail
  refine (below_any 4 b v code _ _ (by omega) k2).mono ?_
  rintro e w3 ⟨rfl, k3, c3⟩
  have B3 := curBelow_bd code (n := 4) r2.2 (by omega)
  generalize hr3 : curBelow code 4 r2.2 = r3 at *
  have H3 := Lib.hid hr3
  clear hr3
  have R3 := R2.chg c3 (by simp; omega)
  go_wp2_with fail
  refine (below_any 6 b v code _ _ (by omega) k3).mono ?_
  rintro e w4 ⟨rfl, k4, c4⟩
  have B4 := curBelow_bd code (n := 6) r3.2 (by omega)
  generalize hr4 : curBelow code 6 r3.2 = r4 at *
  have H4 := Lib.hid hr4
  clear hr4
  have R4 := R3.chg c4 (by simp; omega)
  have C4 := (((C0.trans c1).trans c2).trans c3).trans c4
  have S4 := C4.size
  clear C0 c1 c2 c3 c4 R0 R1 R2 R3 h k1 k2 k3
  go_wp2_with fail
  have P5 := BoxAt.new' 26 ⟨r1.1, 1 + r2.1, 1 + r3.1, 1 + r4.1, []⟩ (.slice none 0 0) w4 rfl
  have R5 := R4.below ((Below.refl _ _).alloc (Nat.le_refl _) (.cells #[.int .i64 r1.1, .int .i64 (1 + r2.1), .int .i64 (1 + r3.1), .int .i64 (1 + r4.1), .slice none 0 0] 26))
  have C5 := C4.alloc (.cells #[.int .i64 r1.1, .int .i64 (1 + r2.1), .int .i64 (1 + r3.1), .int .i64 (1 + r4.1), .slice none 0 0] 26)
  have k5 := k4.alloc (.cells #[.int .i64 r1.1, .int .i64 (1 + r2.1), .int .i64 (1 + r3.1), .int .i64 (1 + r4.1), .slice none 0 0] 26)
  have R4s := R4.lt
  obtain ⟨pb, hpb⟩ : ∃ pb, pb = w4.heap.size := ⟨_, rfl⟩
  rw [← hpb] at P5 R4s ⊢
  generalize (w4.alloc (.cells #[.int .i64 r1.1, .int .i64 (1 + r2.1), .int .i64 (1 + r3.1), .int .i64 (1 + r4.1), .slice none 0 0] 26)) = w5 at *
  clear R4 C4 k4 S4 hpb
  refine (once_any 10 b v code _ _ (by omega) k5).mono ?_
  rintro e w6 ⟨rfl, k6, c6⟩
  generalize hr5 : curOnce code 10 r4.2 = r5 at *
  have H5 := Lib.hid hr5
  clear hr5
  have P6 := P5.chg c6 (by simp; omega)
  have R6 := R5.chg c6 (by simp; omega)
  have C6 := C5.trans c6
  clear c6 P5 R5 C5 k5
  obtain ⟨T, hT, hT1, hT2⟩ : ∃ T : Int, Hid (planT r5.1 r4.1 = T) ∧ 1 ≤ T ∧ T ≤ 12 := ⟨_, Lib.hid rfl, by unfold planT; split <;> omega, by unfold planT; split <;> omega⟩
  have HE : Hid (∀ g, planGo code T 10 0 [] r5.2 = g → curPlan code c = (⟨r1.1, 1 + r2.1, 1 + r3.1, T, g.1⟩, g.2)) := by
    intro g hg
    unfold curPlan
    simp only [H1.out, H2.out, H3.out, H4.out, H5.out, hT.out, hg]
  have P6c := P6.cells
  have P6f := P6.free
  obtain ⟨i0, hi0, hz0, hz1, hz2⟩ := info_parts edge_info
  cases ho : r5.1
  case' false =>
    rw [ho] at hT
    have hT' : 1 + r4.1 = T := hT.out
    rw [hT'] at P6
    clear hT hT' P6c
    have C7 := C6
    have P7 := P6
    have k7 := k6
    have R7 := R6
    have P7c := P7.cells
    go_wp2_with fail
  case' true =>
    rw [ho] at hT
    have hT' : (12 : Int) = T := hT.out
    have C7 := C6.setNew (p := ⟨pb, 3, none⟩) (u := .int .i64 T) (by simp; omega)
    have P7 : BoxAt pb ⟨r1.1, 1 + r2.1, 1 + r3.1, T, []⟩ (.slice none 0 0) (w6.setCell ⟨pb, 3, none⟩ (.int .i64 T)) := P6.setTasks T
    have k7 := k6.setNew (p := ⟨pb, 3, none⟩) (by simp; omega) (.int .i64 T)
    have R7 := R6.other (a := ⟨pb, 3, none⟩) (by simp; omega) (.int .i64 T)
    go_wp2_with fail
    clear hT hT' P6c
    generalize (w6.setCell ⟨pb, 3, none⟩ (.int .i64 T)) = w7 at *
  all_goals
    clear P6 k6 R6 C6 P6f
    try clear P7c
    try clear H1 H2 H3 H4 H5
    go_loopw [4] (fun i wr => ∃ (k : Nat) (es : List Edge) (u : Value) (c' : Cur), k ≤ 9 ∧ i = .int .i64 k ∧ es.length ≤ k ∧ Drw b v code c' wr ∧ BoxAt pb ⟨r1.1, 1 + r2.1, 1 + r3.1, T, es⟩ u wr ∧ Ow edgeE 52 wr (pb + 1) u es ∧ Chg [b] w wr ∧ BoxAt w.heap.size ⟨0, 0, 0, 0, []⟩ (.slice none 0 0) wr ∧ Hid (planGo code T (10 - k) k es c' = planGo code T 10 0 [] r5.2)) (fun i _ => 9 - (intOf i).toNat)
    case atStart => exact ⟨0, [], _, _, by omega, rfl, by simp, k7, P7, Ow.nil _ _ _ _, C7, R7, rfl⟩
    case round =>
      clear C7 P7 k7 R7
      obtain ⟨k, es, u, c', hk, rfl, hes, K, P, O, C, R, G⟩ := hrel
      go_wp2_with fail
      refine (below_any 9 b v code _ _ (by omega) K).mono ?_
      rintro e wa ⟨rfl, ka, ca⟩
      have Ba := curBelow_bd code (n := 9) c' (by omega)
      generalize hq1 : curBelow code 9 c' = q1 at *
      have Hq1 := Lib.hid hq1
      clear hq1
      have Pa := P.chg ca (by simp; omega)
      have Ra := R.chg ca (by simp; omega)
      have Oa := O.chg ca (by omega)
      have Ca := C.trans ca
      clear K P R O C ca
      obtain ⟨p0, p1, p2, p3, p4, ps⟩ := Pa.cells
      obtain ⟨z0, z1, z2, z3, z4, zs⟩ := Ra.cells
      have pf := Pa.free
      have zf := Ra.free
      by_cases hgo : (k : Int) < q1.1 ∧ 1 < T
      · obtain ⟨g1, g2⟩ := hgo
        go_wp2_with fail
        refine (below_any (T - 1) b v code _ _ (by omega) ka).mono ?_
        rintro e wb ⟨rfl, kb, cb⟩
        have Bb := curBelow_bd code (n := T - 1) q1.2 (by omega)
        generalize hq2 : curBelow code (T - 1) q1.2 = q2 at *
        have Hq2 := Lib.hid hq2
        clear hq2 p0 p1 p2 p3 p4 ps z0 z1 z2 z3 z4 zs pf zf
        have Pb := Pa.chg cb (by simp; omega)
        have Rb := Ra.chg cb (by simp; omega)
        have Ob := Oa.chg cb (by omega)
        have Cb := Ca.trans cb
        clear ka Pa Ra Oa Ca cb
        go_wp2_with fail
        refine (below_any (1 + q2.1) b v code _ _ (by omega) kb).mono ?_
        rintro e wc ⟨rfl, kc, cc⟩
        have Bc := curBelow_bd code (n := 1 + q2.1) q2.2 (by omega)
        generalize hq3 : curBelow code (1 + q2.1) q2.2 = q3 at *
        have Hq3 := Lib.hid hq3
        clear hq3
        have Pc := Pb.chg cc (by simp; omega)
        have Rc := Rb.chg cc (by simp; omega)
        have Oc := Ob.chg cc (by omega)
        have Cc := Cb.trans cc
        clear kb Pb Rb Ob Cb cc
        go_wp2_with fail
        have ha : Below wc.heap.size wc (wc.alloc (.cells #[.int .i64 q3.1, .int .i64 (1 + q2.1)] 52)) := (Below.refl _ _).alloc (Nat.le_refl _) _
        have D := EdgeAt.new 52 ⟨q3.1, 1 + q2.1⟩ wc
        have eb : pb < wc.heap.size := Pc.lt
        have Pd := Pc.below ha
        have Re := Rc.below ha
        have Od := Oc.below ha
        have Cd := Cc.belowNew ha
        have kd := kc.below ha
        obtain ⟨ep, hep⟩ : ∃ ep, ep = wc.heap.size := ⟨_, rfl⟩
        rw [← hep] at D eb ⊢
        generalize (wc.alloc (.cells #[.int .i64 q3.1, .int .i64 (1 + q2.1)] 52)) = wd at *
        have eO : Hid (∀ g, u.ownBlock = some g → g < ep) := fun g hg => by have := Oc.within g hg; omega
        clear Pc Rc Oc Cc kc ha hep
        obtain ⟨A, cap, rfl, -⟩ := id (Rd.of_own Od)
        obtain ⟨p0, p1, p2, p3, p4, ps⟩ := Pd.cells
        obtain ⟨d0, d1, ds⟩ := D.cells
        go_loopw [7, 8] (fun tw j wq => ∃ m n : Nat, m ≤ es.length ∧ j = .int .i64 m ∧ tw = .bool (decide ((⟨q3.1, 1 + q2.1⟩ : Edge) ∈ es.take m)) ∧ wq = wd.drewN n) (fun _ j _ => es.length - (intOf j).toNat)
        case atStart => exact ⟨0, 0, Nat.zero_le _, rfl, by simp, rfl⟩
        case round =>
          obtain ⟨m, nd, hm, rfl, rfl, rfl⟩ := hrel
          by_cases hlt : m < es.length
          · have hltI : (m : Int) < (es.length : Int) := by omega
            have hm0 : (0 : Int) ≤ (m : Int) := by omega
            obtain ⟨g, oo, rfl, hgg, x0, x1⟩ := (Rd.of_own Od).edge hlt
            obtain ⟨z0, z1, z2⟩ : True ∧ True ∧ True := ⟨trivial, trivial, trivial⟩
            have hnx : Hid (∀ t, t = decide ((⟨q3.1, 1 + q2.1⟩ : Edge) ∈ es.take (m + 1)) → Value.bool t = .bool (decide ((⟨q3.1, 1 + q2.1⟩ : Edge) ∈ es.take (m + 1)))) := fun t h => by rw [h]
            cases hd : decide ((⟨q3.1, 1 + q2.1⟩ : Edge) ∈ es.take m)
            · by_cases e0 : es[m].fr = q3.1
              · by_cases e1 : es[m].to = 1 + q2.1
                · have S : Hid (decide ((⟨q3.1, 1 + q2.1⟩ : Edge) ∈ es.take (m + 1)) = true) := by
                    refine decide_eq_true ?_
                    rw [take_snoc es m hlt]
                    refine List.mem_append_right _ (List.mem_singleton.2 ?_)
                    cases hx : es[m]
                    rw [hx] at e0 e1
                    simp only at e0 e1
                    rw [e0, e1]
                  rw [e0] at x0
                  rw [e1] at x1
                  clear e0 e1 hd
                  go_wp2
                  go_quiet (fail)
                  go_wp2
                  exact ⟨⟨m + 1, _, by omega, by go_num, by rw [S.out], rfl⟩, by simp [intOf]; omega⟩
                · have S : Hid (decide ((⟨q3.1, 1 + q2.1⟩ : Edge) ∈ es.take (m + 1)) = false) := by
                    refine decide_eq_false ?_
                    rw [take_snoc es m hlt, List.mem_append, List.mem_singleton]
                    rintro (h | h)
                    · exact of_decide_eq_false hd h
                    · rw [← h] at e1; exact e1 rfl
                  have e1' : (es[m].to == 1 + q2.1) = false := beq_eq_false_iff_ne.2 e1
                  rw [e0] at x0
                  clear e0 e1 hd
                  go_wp2
                  go_quiet (fail)
                  go_wp2
                  exact ⟨⟨m + 1, _, by omega, by go_num, by rw [S.out], rfl⟩, by simp [intOf]; omega⟩
              · have S : Hid (decide ((⟨q3.1, 1 + q2.1⟩ : Edge) ∈ es.take (m + 1)) = false) := by
                  refine decide_eq_false ?_
                  rw [take_snoc es m hlt, List.mem_append, List.mem_singleton]
                  rintro (h | h)
                  · exact of_decide_eq_false hd h
                  · rw [← h] at e0; exact e0 rfl
                have e0' : (es[m].fr == q3.1) = false := beq_eq_false_iff_ne.2 e0
                clear e0 hd
                go_wp2
                go_quiet (fail)
                go_wp2
                exact ⟨⟨m + 1, _, by omega, by go_num, by rw [S.out], rfl⟩, by simp [intOf]; omega⟩
            · have S : Hid (decide ((⟨q3.1, 1 + q2.1⟩ : Edge) ∈ es.take (m + 1)) = true) := by
                refine decide_eq_true ?_
                rw [take_snoc es m hlt]
                exact List.mem_append_left _ (of_decide_eq_true hd)
              clear hd
              go_wp2
              go_quiet (fail)
              go_wp2
              exact ⟨⟨m + 1, _, by omega, by go_num, by rw [S.out], rfl⟩, by simp [intOf]; omega⟩
          · have hme : m = es.length := by omega
            subst hme
            have hltI : ¬ (es.length : Int) < (es.length : Int) := by omega
            rw [List.take_length]
            have H1' : 10 - k = (9 - k) + 1 := by omega
            have GO : ∀ g, planGo code T (9 - k) (k + 1) (addE es ⟨q3.1, 1 + q2.1⟩) q3.2 = g → planGo code T 10 0 [] r5.2 = g := by
              intro g hg
              rw [← G.out, H1', planGo, if_pos (by rw [Hq1.out]; exact ⟨g1, g2⟩)]
              unfold newE newC newTo
              rw [Hq1.out, Hq2.out, Hq3.out]
              exact hg
            have GO := Lib.hid GO
            cases hd : decide ((⟨q3.1, 1 + q2.1⟩ : Edge) ∈ es)
            · have S : Hid (addE es ⟨q3.1, 1 + q2.1⟩ = es ++ [⟨q3.1, 1 + q2.1⟩]) := by
                show addE _ _ = _
                unfold addE
                rw [if_neg (of_decide_eq_false hd)]
              clear hd H1'
              have kx := kd.drewN nd
              have Px := Pd.drewN nd
              have Ox := Od.below (bdrewN (Below.refl _ wd) nd)
              have Cx := Cd.drewN nd
              have Rx := Re.drewN nd
              have hzx : ep < (wd.drewN nd).heap.size := ds
              have q0 : (wd.drewN nd).cell? ⟨pb, 4, none⟩ = some (.slice A es.length cap) := p4
              have q1' : (wd.drewN nd).cell? ⟨ep, 0, none⟩ = some (.int .i64 q3.1) := d0
              have q2' : (wd.drewN nd).cell? ⟨ep, 1, none⟩ = some (.int .i64 (1 + q2.1)) := d1
              clear p0 p1 p2 p3 p4 ps d0 d1 ds D Od kd Pd Cd Re eO
              generalize wd.drewN nd = wx at *
              have hax : Below wx.heap.size wx (wx.alloc (.cells #[.int .i64 q3.1, .int .i64 (1 + q2.1)] 52)) := (Below.refl _ _).alloc (Nat.le_refl _) _
              have hne : Hid (some pb ≠ (Value.slice A es.length cap).ownBlock) := fun e => by have := Ox.within pb e.symm; omega
              go_wp2_with (at_builtin; refine wpList_push_all _ edgeE (by decide) rfl (.tmp 66) (.tmp 68) rfl Try.underlying24 hi0 hz0 hz1 hz2 rfl (v := .slice A es.length cap) (l := es) rfl (Ox.below hax) rfl (Rd.one edgeE _ _ ⟨q3.1, 1 + q2.1⟩ rfl rfl 1 (Nat.le_refl _) (Nat.lt_succ_self _)) (by omega) (by simp) (by decide) (by simp; omega) ?_; intro v5 w5 o5 g5 f5; obtain ⟨A5, c5, rfl, -⟩ := id (Rd.of_own o5); have P5 := (Px.below hax).far g5 hne.out; have pf5 := P5.free; have pc5 := P5.cells)
              have hb5 : ∀ g, (Value.slice A es.length cap).ownBlock = some g → pb < g := fun g hg => by have := Ox.within g hg; omega
              have e9 : 9 - k = 10 - (k + 1) := by omega
              refine ⟨⟨k + 1, es ++ [⟨q3.1, 1 + q2.1⟩], _, q3.2, by omega, by go_num, by simp; omega, ((kx.below hax).grownNew g5 (fun g hg => by have := hb5 g hg; omega)).setNew (by show b < pb; omega) _, P5.setEdges _ _, (by have := o5.setLow (a := ⟨pb, 4, none⟩) (Nat.lt_succ_self pb) (.slice A5 (es.length + 1) c5); simp only [List.length_append, List.length_singleton] at this; exact this), ((Cx.belowNew hax).grownNew g5 (fun g hg => by have := hb5 g hg; omega)).setNew (by show w.heap.size ≤ pb; omega), ((Rx.below hax).far g5 (fun e => by have := hb5 _ e.symm; omega)).other (by show w.heap.size ≠ pb; omega) _, ?_⟩, by simp [intOf]; omega⟩
              show planGo code T (10 - (k + 1)) (k + 1) (es ++ [⟨q3.1, 1 + q2.1⟩]) q3.2 = _
              have := GO.out _ rfl
              rw [S.out] at this
              rw [this, e9]
            · have S : Hid (addE es ⟨q3.1, 1 + q2.1⟩ = es) := by
                show addE _ _ = _
                unfold addE
                rw [if_pos (of_decide_eq_true hd)]
              clear hd H1'
              go_wp2
              refine ⟨⟨k + 1, es, _, q3.2, by omega, by go_num, by omega, kd.drewN _, Pd.drewN _, Od.below (bdrewN (Below.refl _ _) _), Cd.drewN _, Re.drewN _, ?_⟩, by simp [intOf]; omega⟩
              show planGo code T (10 - (k + 1)) (k + 1) es q3.2 = _
              have := GO.out _ rfl
              rw [S.out] at this
              rw [this]
              congr 1
              omega
      · have GE : Hid (planGo code T 10 0 [] r5.2 = (es, q1.2)) := by
          show planGo code T 10 0 [] r5.2 = (es, q1.2)
          rw [← G.out, show 10 - k = (9 - k) + 1 by omega, planGo, if_neg (by rw [Hq1.out]; exact hgo), Hq1.out]
        have E := Lib.hid (HE.out _ GE.out)
        obtain ⟨A, cap, rfl, -⟩ := id (Rd.of_own Oa)
        clear HE G Hq1 GE hk hes
        have hfin : ∀ W, W = ((((wa.setCell ⟨w.heap.size, 0, none⟩ (.int .i64 r1.1)).setCell ⟨w.heap.size, 1, none⟩ (.int .i64 (1 + r2.1))).setCell ⟨w.heap.size, 2, none⟩ (.int .i64 (1 + r3.1))).setCell ⟨w.heap.size, 3, none⟩ (.int .i64 T)).setCell ⟨w.heap.size, 4, none⟩ (.slice A es.length cap) →
            PlanP b v code (curPlan code c) w (.returned (planV ⟨r1.1, 1 + r2.1, 1 + r3.1, T, es⟩ (.slice A es.length cap))) W := by
          rintro W rfl
          rw [E.out]
          have hO : ∀ {W : World}, Ow edgeE 52 W (pb + 1) (.slice A es.length cap) es → ∀ j u', Ow edgeE 52 (W.setCell ⟨w.heap.size, j, none⟩ u') (pb + 1) (.slice A es.length cap) es := fun h j u' => h.setLow (a := ⟨w.heap.size, j, none⟩) (Nat.lt_succ_of_lt R4s) _
          refine ⟨_, rfl, (hO (hO (hO (hO (hO Oa 0 _) 1 _) 2 _) 3 _) 4 _).more (by omega), ?_, ?_⟩
          · repeat (first | exact ka | refine Drw.setNew ?_ (by simp; omega) _)
          · repeat (first | exact Ca | refine Chg.setNew ?_ (by simp))
        by_cases g1 : (k : Int) < q1.1
        · have g2 : ¬ 1 < T := fun h => hgo ⟨g1, h⟩
          clear hgo
          go_wp2
          refine bodyPost_ret (v := planV ⟨r1.1, 1 + r2.1, 1 + r3.1, T, es⟩ (.slice A es.length cap)) ?_ rfl (hfin _ rfl)
          simp [planV, results, Try.results46, go_sem, *]
        · clear hgo
          go_wp2
          refine bodyPost_ret (v := planV ⟨r1.1, 1 + r2.1, 1 + r3.1, T, es⟩ (.slice A es.length cap)) ?_ rfl (hfin _ rfl)
          simp [planV, results, Try.results46, go_sem, *]
end Go.Proofs.Ytnaicippgocdfaa
end
section
namespace Go.Proofs.Ytnaicippgocdfaa
open Go.RowKit
set_option maxRecDepth 100000
set_option maxHeartbeats 2000000

theorem natE_flat (l : List Nat) : l.flatMap natE.cells = (l.map fun (x : Nat) => (x : Int)).map (Value.int .i64) := by
  induction l with
  | nil => rfl
  | cons a l ih => rw [List.flatMap_cons, ih]; rfl

theorem sorted_nat {l l' : List Nat} (hp : l'.Perm l) (hs : l'.Pairwise (· ≤ ·)) : ((l.map fun (x : Nat) => (x : Int)).mergeSort fun x y => decide (x ≤ y)) = l'.map fun (x : Nat) => (x : Int) := by
  have h1 := List.mergeSort_perm (l.map fun (x : Nat) => (x : Int)) (fun x y => decide (x ≤ y))
  have h2 := List.pairwise_mergeSort (le := fun x y : Int => decide (x ≤ y)) (fun a b c h1 h2 => by simp at *; omega) (fun a b => by simp; omega) (l.map fun (x : Nat) => (x : Int))
  have h3 : (l'.map fun (x : Nat) => (x : Int)).Pairwise (fun x y => decide (x ≤ y) = true) := by
    rw [List.pairwise_map]
    exact hs.imp (fun h => by simpa using h)
  refine List.Perm.eq_of_pairwise (le := fun x y => decide (x ≤ y) = true) ?_ h2 h3 (h1.trans (hp.symm.map _))
  intro a b _ _ h h'
  simp at h h'
  omega

theorem sortInt_any (v : Value) (l l' : List Nat) (base : Nat) (w : World) (hl : l.length ≤ 2000000) (hp : l'.Perm l) (hs : l'.Pairwise (· ≤ ·)) (ho : Ow natE 3 w base v l) :
    Calls Try.prog 72 #[v] w fun e w' => e = .returned (.tuple #[]) ∧ Ow natE 3 w' base v l' ∧ w.grownBy w' v.ownBlock := by
  rcases ho.2 with ⟨rfl, hn⟩ | ⟨g, cap, cur, rfl, hg, hh, hc, hm, hsz, ht⟩
  · have hl0 : l = [] := List.eq_nil_of_length_eq_zero hn
    subst hl0
    have : l' = [] := List.Perm.eq_nil hp
    subst this
    refine (Try.slices_Sort_int_none none 0 w).mono ?_
    rintro e w' ⟨he, rfl⟩
    exact ⟨he, ho, World.grownBy.refl _ _⟩
  · have hll : (l.map fun (x : Nat) => (x : Int)).length = l.length := List.length_map _
    have ht' : cur.toList.take (l.map fun (x : Nat) => (x : Int)).length = (l.map fun (x : Nat) => (x : Int)).map (Value.int .i64) := by
      rw [hll, ← natE_flat, ← ht]
      simp [natE]
    have hH := holds_of_blockI hh ht'
    have hgl : g < w.heap.size := (Array.getElem?_eq_some_iff.1 hh).1
    have h := Try.slices_Sort_int g 0 cap (l.map fun (x : Nat) => (x : Int)) w hH hgl (by rw [hll]; omega)
    rw [hll] at h
    refine h.mono ?_
    rintro e w' ⟨he, n, os, rfl⟩
    rw [sorted_nat hp hs]
    refine ⟨he, ?_, grownBy_sortedI _⟩
    have hlen : l'.length = l.length := hp.length_eq
    have := ownsRow_sortedI (n := n) (os := os) (ss := l.map fun (x : Nat) => (x : Int)) (ts := l'.map fun (x : Nat) => (x : Int)) (by simp [hlen]) hg hh (by rw [hll]; exact hc) hm hsz
    unfold Ow
    rw [hlen, natE_flat]
    rw [hll] at this
    exact this

theorem beforeL_sorted (es : List (Nat × Nat)) (T t : Nat) : (beforeL es T t).Pairwise (· ≤ ·) := (List.pairwise_lt_range.imp (fun h => Nat.le_of_lt h)).filter _
theorem behindL_sorted (es : List (Nat × Nat)) (T t : Nat) : (behindL es T t).Pairwise (· ≤ ·) := (List.pairwise_lt_range.imp (fun h => Nat.le_of_lt h)).filter _

/-- the ends that edges to t come from, in the edges' order; those that edges from t go to -/
def fromsL (es : List (Nat × Nat)) (t : Nat) : List Nat := (es.filter fun e => decide (e.2 = t)).map (·.1)
def tosL (es : List (Nat × Nat)) (t : Nat) : List Nat := (es.filter fun e => decide (e.1 = t)).map (·.2)
theorem fromsL_len (es : List (Nat × Nat)) (t : Nat) : (fromsL es t).length ≤ es.length := by
  simp only [fromsL, List.length_map]; exact List.length_filter_le _ _
theorem tosL_len (es : List (Nat × Nat)) (t : Nat) : (tosL es t).length ≤ es.length := by
  simp only [tosL, List.length_map]; exact List.length_filter_le _ _
theorem fromsL_yes {l l' : List (Nat × Nat)} {a d : Nat} (h : l' = l ++ [(a, d)]) : fromsL l' d = fromsL l d ++ [a] := by
  subst h; simp [fromsL, List.filter_append]
theorem tosL_yes {l l' : List (Nat × Nat)} {a d : Nat} (h : l' = l ++ [(a, d)]) : tosL l' a = tosL l a ++ [d] := by
  subst h; simp [tosL, List.filter_append]
theorem fromsL_no {l l' : List (Nat × Nat)} {a d t : Nat} (h : l' = l ++ [(a, d)]) (hx : ¬ d = t) : fromsL l' t = fromsL l t := by
  subst h; simp [fromsL, List.filter_append, hx]
theorem tosL_no {l l' : List (Nat × Nat)} {a d t : Nat} (h : l' = l ++ [(a, d)]) (hx : ¬ a = t) : tosL l' t = tosL l t := by
  subst h; simp [tosL, List.filter_append, hx]
theorem esOf_nodup {p : Plan} (he : edgesIn p) (hn : p.edges.Nodup) : (esOf p).Nodup := by
  unfold esOf esL
  show List.Pairwise _ _
  rw [List.pairwise_map]
  refine List.Pairwise.imp_of_mem ?_ hn
  intro x y hx hy hne e
  have h1 := he x hx
  have h2 := he y hy
  simp only [edgeIn, Bool.and_eq_true, inB_iff] at h1 h2
  simp only [Prod.mk.injEq] at e
  apply hne
  cases x; cases y
  simp only [Edge.mk.injEq] at *
  omega
theorem fromsL_perm {p : Plan} (he : edgesIn p) (hn : p.edges.Nodup) (t : Nat) : (beforeL (esOf p) p.tasks.toNat t).Perm (fromsL (esOf p) t) := by
  refine (List.perm_ext_iff_of_nodup (List.nodup_range.filter _) ?_).2 ?_
  · unfold fromsL
    show List.Pairwise _ _
    rw [List.pairwise_map]
    refine List.Pairwise.imp_of_mem ?_ ((esOf_nodup he hn).filter _)
    intro x y hx hy hne e
    simp only [List.mem_filter, decide_eq_true_eq] at hx hy
    exact hne (Prod.ext e (hx.2.trans hy.2.symm))
  · intro x
    simp only [fromsL, List.mem_filter, List.mem_range, decide_eq_true_eq, List.mem_map, Prod.exists]
    constructor
    · rintro ⟨_, h⟩; exact ⟨x, t, ⟨h, rfl⟩, rfl⟩
    · rintro ⟨a, b, ⟨h, rfl⟩, rfl⟩; exact ⟨(esOf_lt he).1 _ h, h⟩
theorem tosL_perm {p : Plan} (he : edgesIn p) (hn : p.edges.Nodup) (t : Nat) : (behindL (esOf p) p.tasks.toNat t).Perm (tosL (esOf p) t) := by
  refine (List.perm_ext_iff_of_nodup (List.nodup_range.filter _) ?_).2 ?_
  · unfold tosL
    show List.Pairwise _ _
    rw [List.pairwise_map]
    refine List.Pairwise.imp_of_mem ?_ ((esOf_nodup he hn).filter _)
    intro x y hx hy hne e
    simp only [List.mem_filter, decide_eq_true_eq] at hx hy
    exact hne (Prod.ext (hx.2.trans hy.2.symm) e)
  · intro x
    simp only [tosL, List.mem_filter, List.mem_range, decide_eq_true_eq, List.mem_map, Prod.exists]
    constructor
    · rintro ⟨_, h⟩; exact ⟨t, x, ⟨h, rfl⟩, rfl⟩
    · rintro ⟨a, b, ⟨h, rfl⟩, rfl⟩; exact ⟨(esOf_lt he).2 _ h, h⟩

theorem implBefore_any (p : Plan) (ve : Value) (t : Nat) (w : World) (hf : planFault p = 0) (h : Rd edgeE w w.heap.size ve p.edges) :
    Calls Try.prog 56 #[planV p ve, .int .i64 (t : Int)] w fun e w' => ∃ v, e = .returned v ∧ Ow natE 3 w' w.heap.size v (beforeL (esOf p) p.tasks.toNat t) ∧ Below w.heap.size w w' := by
  obtain ⟨A, c, rfl, -⟩ := id h
  have G := Lib.hid (planFault_zero.1 hf)
  have hlen := manyOk_edges G.out.1
  have hl : p.edges.length ≤ 2000000 := by omega
  have hfb : (planFault p != 0) = false := by simp [hf]
  clear hf
  obtain ⟨j0, hj0, jz0, jz1, jz2⟩ := info_parts int_info
  have hb0 := planBox_below 26 p (.slice A p.edges.length c) w
  have D0 := BoxAt.new 26 p (.slice A p.edges.length c) w
  have hw0 := planBox_size 26 p (.slice A p.edges.length c) w
  have Hw0 := Lib.hid hw0
  clear hw0
  unfold planV
  go_enter Try.func56, Try.ntmps56
  go_wp2_with fail
  refine (implPlanFault_any p _ _ hl ((h.below hb0).more hb0.size)).mono ?_
  rintro e w1 ⟨rfl, hb1⟩
  have D := D0.below hb1
  have hb := bnext hb0 hb1
  obtain ⟨x0, x1, x2, x3, x4, xs⟩ := D.cells
  go_wp2
  clear x0 x1 x2 x3 x4
  go_loopw [5, 14] (fun vl i wr => ∃ k : Nat, k ≤ p.edges.length ∧ i = .int .i64 k ∧ Ow natE 3 wr (w.heap.size + 1) vl (fromsL (esL (p.edges.take k)) t) ∧ Below w.heap.size w wr ∧ w.heap.size < wr.heap.size) (fun _ i _ => p.edges.length - (intOf i).toNat)
  case atStart => exact ⟨0, Nat.zero_le _, rfl, by simpa [fromsL, esL] using Ow.nil natE 3 w1 (w.heap.size + 1), hb, xs⟩
  case round =>
    clear D hb hb1 D0 xs
    obtain ⟨k, hk, rfl, ho, hb, hsz⟩ := hrel
    by_cases hlt : k < p.edges.length
    · have hltI : (k : Int) < (p.edges.length : Int) := by omega
      obtain ⟨b, o, rfl, hbb, c0, c1⟩ := (h.below hb).edge hlt
      obtain ⟨f1, f2, f3, f4⟩ := edgesIn_get G.out.2.1 hlt
      have htk := Lib.hid (show esL (p.edges.take (k + 1)) = esL (p.edges.take k) ++ [(p.edges[k].fr.toNat, p.edges[k].to.toNat)] by unfold esL; rw [take_snoc _ k hlt, List.map_append]; rfl)
      generalize p.edges[k].fr = fx at *
      generalize p.edges[k].to = tx at *
      obtain ⟨a, rfl⟩ := Int.eq_ofNat_of_zero_le f1
      obtain ⟨d, rfl⟩ := Int.eq_ofNat_of_zero_le f3
      simp only [Int.toNat_natCast] at htk
      by_cases hx : d = t
      · subst hx
        have S := Lib.hid (fromsL_yes (l := esL (p.edges.take k)) htk.out)
        have Hl := Lib.hid (show (fromsL (esL (p.edges.take k)) d).length ≤ 3000000 by
          have h1 := fromsL_len (esL (p.edges.take k)) d
          rw [esL_length, List.length_take] at h1
          omega)
        have hab : ((d : Int) == (d : Int)) = true := by simp
        have ha : Hid (∀ w : World, Below w.heap.size w ((w.alloc (.cells #[.int .i64 (a : Int), .int .i64 (d : Int)] 52)).alloc (.cells #[.int .i64 (a : Int)] 3))) := fun w => ((Below.refl _ _).alloc (Nat.le_refl _) _).alloc (by simp) _
        go_wp2_with (at_builtin; refine wpList_push_all _ natE (by decide) rfl (.tmp 22) (.tmp 25) rfl Try.underlying27 hj0 jz0 jz1 jz2 rfl (l := fromsL (esL (p.edges.take k)) d) rfl (ho.below (ha.out wr)) rfl (Rd.one natE _ _ a (by simp) rfl 1 (Nat.le_refl _) (Nat.lt_succ_self _)) Hl.out (by simp) (by decide) (by simp; omega) ?_; intro v5 w5 o5 g5 _)
        have hb' := bnext hb (ha.out wr)
        have W5 := hb'.grown g5 hb'.size (fun g hg => by have := ho.within _ hg; omega)
        have hz5 := g5.size
        simp only [World.size_alloc] at hz5
        refine ⟨⟨k + 1, by omega, by go_num, ?_, W5, by omega⟩, by simp [intOf]; omega⟩
        rw [S.out]
        exact o5
      · have S := Lib.hid (fromsL_no (l := esL (p.edges.take k)) (t := t) htk.out hx)
        have hab : ((d : Int) == (t : Int)) = false := beq_eq_false_iff_ne.2 (by omega)
        have ha : Hid (∀ w : World, Below w.heap.size w (w.alloc (.cells #[.int .i64 (a : Int), .int .i64 (d : Int)] 52))) := fun w => (Below.refl _ _).alloc (Nat.le_refl _) _
        clear hx
        go_wp2
        refine ⟨⟨k + 1, by omega, by go_num, ?_, bnext hb (ha.out wr), by simp; omega⟩, by simp [intOf]; omega⟩
        rw [S.out]
        exact ho.below (ha.out wr)
    · have hltI : ¬ (k : Int) < (p.edges.length : Int) := by omega
      have hk' : k = p.edges.length := by omega
      subst hk'
      rw [List.take_length] at ho
      go_wp2_with fail
      have hL : (fromsL (esOf p) t).length ≤ 2000000 := by
        have h1 := fromsL_len (esOf p) t
        unfold esOf at h1 ⊢
        rw [esL_length] at h1
        omega
      refine (sortInt_any _ (fromsL (esOf p) t) (beforeL (esOf p) p.tasks.toNat t) _ _ hL (fromsL_perm G.out.2.1 G.out.2.2.1 t) (beforeL_sorted _ _ _) ho).mono ?_
      rintro e w2 ⟨rfl, o2, g2⟩
      have hb2 := hb.grown g2 hb.size (fun g hg => by have := ho.within _ hg; omega)
      go_wp2
      go_ret
      exact ⟨_, rfl, o2.more (by omega), hb2⟩

theorem implBehind_any (p : Plan) (ve : Value) (t : Nat) (w : World) (hf : planFault p = 0) (h : Rd edgeE w w.heap.size ve p.edges) :
    Calls Try.prog 59 #[planV p ve, .int .i64 (t : Int)] w fun e w' => ∃ v, e = .returned v ∧ Ow natE 3 w' w.heap.size v (behindL (esOf p) p.tasks.toNat t) ∧ Below w.heap.size w w' := by
  obtain ⟨A, c, rfl, -⟩ := id h
  have G := Lib.hid (planFault_zero.1 hf)
  have hlen := manyOk_edges G.out.1
  have hl : p.edges.length ≤ 2000000 := by omega
  have hfb : (planFault p != 0) = false := by simp [hf]
  clear hf
  obtain ⟨j0, hj0, jz0, jz1, jz2⟩ := info_parts int_info
  have hb0 := planBox_below 26 p (.slice A p.edges.length c) w
  have D0 := BoxAt.new 26 p (.slice A p.edges.length c) w
  have hw0 := planBox_size 26 p (.slice A p.edges.length c) w
  have Hw0 := Lib.hid hw0
  clear hw0
  unfold planV
  go_enter Try.func59, Try.ntmps59
  go_wp2_with fail
  refine (implPlanFault_any p _ _ hl ((h.below hb0).more hb0.size)).mono ?_
  rintro e w1 ⟨rfl, hb1⟩
  have D := D0.below hb1
  have hb := bnext hb0 hb1
  obtain ⟨x0, x1, x2, x3, x4, xs⟩ := D.cells
  go_wp2
  clear x0 x1 x2 x3 x4
  go_loopw [5, 14] (fun vl i wr => ∃ k : Nat, k ≤ p.edges.length ∧ i = .int .i64 k ∧ Ow natE 3 wr (w.heap.size + 1) vl (tosL (esL (p.edges.take k)) t) ∧ Below w.heap.size w wr ∧ w.heap.size < wr.heap.size) (fun _ i _ => p.edges.length - (intOf i).toNat)
  case atStart => exact ⟨0, Nat.zero_le _, rfl, by simpa [tosL, esL] using Ow.nil natE 3 w1 (w.heap.size + 1), hb, xs⟩
  case round =>
    clear D hb hb1 D0 xs
    obtain ⟨k, hk, rfl, ho, hb, hsz⟩ := hrel
    by_cases hlt : k < p.edges.length
    · have hltI : (k : Int) < (p.edges.length : Int) := by omega
      obtain ⟨b, o, rfl, hbb, c0, c1⟩ := (h.below hb).edge hlt
      obtain ⟨f1, f2, f3, f4⟩ := edgesIn_get G.out.2.1 hlt
      have htk := Lib.hid (show esL (p.edges.take (k + 1)) = esL (p.edges.take k) ++ [(p.edges[k].fr.toNat, p.edges[k].to.toNat)] by unfold esL; rw [take_snoc _ k hlt, List.map_append]; rfl)
      generalize p.edges[k].fr = fx at *
      generalize p.edges[k].to = tx at *
      obtain ⟨a, rfl⟩ := Int.eq_ofNat_of_zero_le f1
      obtain ⟨d, rfl⟩ := Int.eq_ofNat_of_zero_le f3
      simp only [Int.toNat_natCast] at htk
      by_cases hx : a = t
      · subst hx
        have S := Lib.hid (tosL_yes (l := esL (p.edges.take k)) htk.out)
        have Hl := Lib.hid (show (tosL (esL (p.edges.take k)) a).length ≤ 3000000 by
          have h1 := tosL_len (esL (p.edges.take k)) a
          rw [esL_length, List.length_take] at h1
          omega)
        have hab : ((a : Int) == (a : Int)) = true := by simp
        have ha : Hid (∀ w : World, Below w.heap.size w ((w.alloc (.cells #[.int .i64 (a : Int), .int .i64 (d : Int)] 52)).alloc (.cells #[.int .i64 (d : Int)] 3))) := fun w => ((Below.refl _ _).alloc (Nat.le_refl _) _).alloc (by simp) _
        go_wp2_with (at_builtin; refine wpList_push_all _ natE (by decide) rfl (.tmp 22) (.tmp 25) rfl Try.underlying27 hj0 jz0 jz1 jz2 rfl (l := tosL (esL (p.edges.take k)) a) rfl (ho.below (ha.out wr)) rfl (Rd.one natE _ _ d (by simp) rfl 1 (Nat.le_refl _) (Nat.lt_succ_self _)) Hl.out (by simp) (by decide) (by simp; omega) ?_; intro v5 w5 o5 g5 _)
        have hb' := bnext hb (ha.out wr)
        have W5 := hb'.grown g5 hb'.size (fun g hg => by have := ho.within _ hg; omega)
        have hz5 := g5.size
        simp only [World.size_alloc] at hz5
        refine ⟨⟨k + 1, by omega, by go_num, ?_, W5, by omega⟩, by simp [intOf]; omega⟩
        rw [S.out]
        exact o5
      · have S := Lib.hid (tosL_no (l := esL (p.edges.take k)) (t := t) htk.out hx)
        have hab : ((a : Int) == (t : Int)) = false := beq_eq_false_iff_ne.2 (by omega)
        have ha : Hid (∀ w : World, Below w.heap.size w (w.alloc (.cells #[.int .i64 (a : Int), .int .i64 (d : Int)] 52))) := fun w => (Below.refl _ _).alloc (Nat.le_refl _) _
        clear hx
        go_wp2
        refine ⟨⟨k + 1, by omega, by go_num, ?_, bnext hb (ha.out wr), by simp; omega⟩, by simp [intOf]; omega⟩
        rw [S.out]
        exact ho.below (ha.out wr)
    · have hltI : ¬ (k : Int) < (p.edges.length : Int) := by omega
      have hk' : k = p.edges.length := by omega
      subst hk'
      rw [List.take_length] at ho
      go_wp2_with fail
      have hL : (tosL (esOf p) t).length ≤ 2000000 := by
        have h1 := tosL_len (esOf p) t
        unfold esOf at h1 ⊢
        rw [esL_length] at h1
        omega
      refine (sortInt_any _ (tosL (esOf p) t) (behindL (esOf p) p.tasks.toNat t) _ _ hL (tosL_perm G.out.2.1 G.out.2.2.1 t) (behindL_sorted _ _ _) ho).mono ?_
      rintro e w2 ⟨rfl, o2, g2⟩
      have hb2 := hb.grown g2 hb.size (fun g hg => by have := ho.within _ hg; omega)
      go_wp2
      go_ret
      exact ⟨_, rfl, o2.more (by omega), hb2⟩
end Go.Proofs.Ytnaicippgocdfaa
end
section
namespace Go.Proofs.Ytnaicippgocdfaa
open Go.RowKit

def clash (s o : Slot) : Bool := (s.worker == o.worker && decide (s.fr < o.to)) && decide (o.fr < s.to)
def slotOk1 (T : Int) (l : List Int) (many : Int) (prev : List Slot) (s : Slot) : Bool :=
  inB s.task 0 (T - 1) && !(prev.any fun x => x.task == s.task) && inB s.fr 0 1000000000 && (s.to == s.fr + l.getD s.task.toNat 0) && inB s.worker 0 (many - 1) && prev.all fun o => !clash s o
/-- the first k slots fit -/
def slsOk (T : Int) (l : List Int) (many : Int) (s : List Slot) (k : Nat) : Prop := ∀ j (h : j < s.length), j < k → slotOk1 T l many (s.take j) s[j] = true
/-- the slot of a task -/
def taskSlot (s : List Slot) (t : Int) : Slot := (s.find? fun x => x.task == t).getD ⟨0, 0, 0, 0⟩
/-- the first k edges fit -/
def edOk (p : Plan) (s : List Slot) (k : Nat) : Prop := ∀ j (h : j < p.edges.length), j < k → ¬ (taskSlot s p.edges[j].to).fr < (taskSlot s p.edges[j].fr).to
def SlotsFit (p : Plan) (l : List Int) (many : Int) (s : List Slot) : Prop :=
  weightsOk p l = true ∧ inB many 1 8 = true ∧ (s.length : Int) = p.tasks ∧ slsOk p.tasks l many s s.length ∧ edOk p s p.edges.length
open Classical in
noncomputable def slotsOk (p : Plan) (l : List Int) (many : Int) (s : List Slot) : Bool := decide (SlotsFit p l many s)
theorem slotsOk_iff {p : Plan} {l : List Int} {many : Int} {s : List Slot} : slotsOk p l many s = true ↔ SlotsFit p l many s := by simp [slotsOk]
theorem slotsOk_no {p : Plan} {l : List Int} {many : Int} {s : List Slot} (h : ¬ SlotsFit p l many s) : slotsOk p l many s = false := by simp [slotsOk, h]

theorem slsOk_zero (T : Int) (l : List Int) (many : Int) (s : List Slot) : slsOk T l many s 0 := fun j _ h => absurd h (by omega)
theorem slsOk_next {T : Int} {l : List Int} {many : Int} {s : List Slot} {k : Nat} (h : slsOk T l many s k) (hk : k < s.length) (h1 : slotOk1 T l many (s.take k) s[k] = true) : slsOk T l many s (k + 1) := by
  intro j hj hjk
  by_cases e : j = k
  · subst e; exact h1
  · exact h j hj (by omega)
theorem slsOk_bad {p : Plan} {l : List Int} {many : Int} {s : List Slot} {k : Nat} (hk : k < s.length) (h1 : slotOk1 p.tasks l many (s.take k) s[k] = false) : slotsOk p l many s = false :=
  slotsOk_no fun h => by
    have := h.2.2.2.1 k hk hk
    rw [h1] at this
    cases this
theorem slotOk1_parts {T : Int} {l : List Int} {many : Int} {prev : List Slot} {s : Slot} (h : slotOk1 T l many prev s = true) :
    (0 ≤ s.task ∧ s.task ≤ T - 1) ∧ (∀ x ∈ prev, x.task ≠ s.task) ∧ (0 ≤ s.fr ∧ s.fr ≤ 1000000000) ∧ s.to = s.fr + l.getD s.task.toNat 0 ∧ (0 ≤ s.worker ∧ s.worker ≤ many - 1) ∧ ∀ o ∈ prev, clash s o = false := by
  simp only [slotOk1, Bool.and_eq_true, inB_iff, Bool.not_eq_true', List.any_eq_false, List.all_eq_true, beq_iff_eq] at h
  obtain ⟨⟨⟨⟨⟨h1, h2⟩, h3⟩, h4⟩, h5⟩, h6⟩ := h
  exact ⟨h1, h2, h3, h4, h5, h6⟩
theorem slotOk1_mk {T : Int} {l : List Int} {many : Int} {prev : List Slot} {s : Slot} (h1 : 0 ≤ s.task ∧ s.task ≤ T - 1) (h2 : ∀ x ∈ prev, x.task ≠ s.task) (h3 : 0 ≤ s.fr ∧ s.fr ≤ 1000000000) (h4 : s.to = s.fr + l.getD s.task.toNat 0)
    (h5 : 0 ≤ s.worker ∧ s.worker ≤ many - 1) (h6 : ∀ o ∈ prev, clash s o = false) : slotOk1 T l many prev s = true := by
  simp only [slotOk1, Bool.and_eq_true, inB_iff, Bool.not_eq_true', List.any_eq_false, List.all_eq_true, beq_iff_eq]
  exact ⟨⟨⟨⟨⟨h1, h2⟩, h3⟩, h4⟩, h5⟩, h6⟩

/-! the tables that the two make -/
def slotTab (T : Nat) (s : List Slot) : List Slot := (List.range T).map fun (t : Nat) => taskSlot s (t : Int)
theorem slotTab_len (T : Nat) (s : List Slot) : (slotTab T s).length = T := by simp [slotTab]
theorem slotTab_nil (T : Nat) : slotTab T [] = List.replicate T ⟨0, 0, 0, 0⟩ := by
  apply List.ext_getElem (by simp [slotTab])
  intro i h1 h2
  simp [slotTab, taskSlot]
theorem slotTab_get {T : Nat} {s : List Slot} {t : Nat} (h : t < (slotTab T s).length) : (slotTab T s)[t] = taskSlot s (t : Int) := by simp [slotTab]
theorem slotTab_snoc {T : Nat} {s : List Slot} {k : Nat} (hk : k < s.length) {t : Nat} (ht : s[k].task = (t : Int)) (hno : ∀ x ∈ s.take k, x.task ≠ s[k].task) : slotTab T (s.take (k + 1)) = (slotTab T (s.take k)).set t s[k] := by
  apply List.ext_getElem (by simp [slotTab])
  intro i h1 h2
  rw [slotTab_get, List.getElem_set]
  rw [take_snoc s k hk]
  unfold taskSlot
  rw [List.find?_append]
  by_cases e : t = i
  · subst e
    rw [if_pos rfl]
    have : (s.take k).find? (fun x => x.task == (t : Int)) = none := by
      rw [List.find?_eq_none]
      intro x hx
      have := hno x hx
      rw [ht] at this
      simpa using this
    rw [this]
    simp [ht]
  · rw [if_neg e, slotTab_get]
    have : [s[k]].find? (fun x => x.task == (i : Int)) = none := by
      rw [List.find?_eq_none]
      intro x hx
      simp only [List.mem_singleton] at hx
      subst hx
      rw [ht]
      simp
      omega
    rw [this, Option.or_none]
    rfl

/-- the bits of the tasks that were met -/
def metN : List Slot → Nat
  | [] => 0
  | x :: s => metN s ||| 1 <<< x.task.toNat
theorem metN_bit : ∀ (s : List Slot) (t : Nat), (∀ x ∈ s, 0 ≤ x.task) → ((metN s).testBit t = s.any fun x => x.task == (t : Int))
  | [], t, _ => by simp [metN]
  | x :: s, t, h => by
    have h0 := h x List.mem_cons_self
    rw [metN, Nat.testBit_or, Pg.bit_one, metN_bit s t (fun y hy => h y (List.mem_cons_of_mem _ hy)), List.any_cons, Bool.or_comm]
    congr 1
    rw [Bool.eq_iff_iff]
    simp only [decide_eq_true_eq, beq_iff_eq]
    omega
theorem metN_lt : ∀ (s : List Slot) (T : Nat), (∀ x ∈ s, x.task.toNat < T) → metN s < 2 ^ T
  | [], T, _ => Nat.two_pow_pos T
  | x :: s, T, h => by
    have h0 := h x List.mem_cons_self
    rw [metN]
    refine Nat.or_lt_two_pow (metN_lt s T fun y hy => h y (List.mem_cons_of_mem _ hy)) ?_
    rw [Nat.shiftLeft_eq, Nat.one_mul]
    exact Nat.pow_lt_pow_right (by omega) h0

/-- where a task stands, from 1 on; 0: it was not met -/
def atOf (s : List Slot) (t : Int) : Int := match s.findIdx? fun x => x.task == t with | some i => i + 1 | none => 0
def atTab (T : Nat) (s : List Slot) : List Int := (List.range T).map fun (t : Nat) => atOf s (t : Int)
theorem atTab_len (T : Nat) (s : List Slot) : (atTab T s).length = T := by simp [atTab]
theorem atTab_nil (T : Nat) : atTab T [] = List.replicate T 0 := by
  apply List.ext_getElem (by simp [atTab])
  intro i h1 h2
  simp [atTab, atOf]
theorem atTab_get {T : Nat} {s : List Slot} {t : Nat} (h : t < (atTab T s).length) : (atTab T s)[t] = atOf s (t : Int) := by simp [atTab]
theorem atOf_zero {s : List Slot} {t : Int} : atOf s t = 0 ↔ ∀ x ∈ s, x.task ≠ t := by
  unfold atOf
  cases h : s.findIdx? fun x => x.task == t with
  | none =>
    rw [List.findIdx?_eq_none_iff] at h
    simp only [true_iff]
    intro x hx
    simpa using h x hx
  | some i =>
    rw [List.findIdx?_eq_some_iff_getElem] at h
    obtain ⟨hi, hp, _⟩ := h
    simp only
    refine ⟨fun h => absurd h (by omega), fun h => ?_⟩
    exact absurd (by simpa using hp) (h _ (List.getElem_mem hi))
theorem atOf_pos {s : List Slot} {t : Int} (h : ∃ x ∈ s, x.task = t) : ∃ i : Nat, ∃ hi : i < s.length, atOf s t = (i : Int) + 1 ∧ s[i] = taskSlot s t := by
  unfold atOf taskSlot
  cases hf : s.findIdx? fun x => x.task == t with
  | none =>
    rw [List.findIdx?_eq_none_iff] at hf
    obtain ⟨x, hx, he⟩ := h
    have := hf x hx
    simp [he] at this
  | some i =>
    rw [List.findIdx?_eq_some_iff_getElem] at hf
    obtain ⟨hi, hp, hno⟩ := hf
    refine ⟨i, hi, rfl, ?_⟩
    have : s.find? (fun x => x.task == t) = some s[i] := by
      rw [List.find?_eq_some_iff_getElem]
      exact ⟨hp, i, hi, rfl, fun j hj => by simpa using hno j hj⟩
    rw [this]
    rfl
theorem atTab_snoc {T : Nat} {s : List Slot} {k : Nat} (hk : k < s.length) {t : Nat} (ht : s[k].task = (t : Int)) (hno : ∀ x ∈ s.take k, x.task ≠ s[k].task) : atTab T (s.take (k + 1)) = (atTab T (s.take k)).set t ((k : Int) + 1) := by
  apply List.ext_getElem (by simp [atTab])
  intro i h1 h2
  rw [atTab_get, List.getElem_set]
  rw [take_snoc s k hk]
  unfold atOf
  rw [List.findIdx?_append]
  by_cases e : t = i
  · subst e
    rw [if_pos rfl]
    have : (s.take k).findIdx? (fun x => x.task == (t : Int)) = none := by
      rw [List.findIdx?_eq_none_iff]
      intro x hx
      have := hno x hx
      rw [ht] at this
      simpa using this
    rw [this]
    simp [ht, List.findIdx?_cons]
    omega
  · rw [if_neg e, atTab_get]
    have : [s[k]].findIdx? (fun x => x.task == (i : Int)) = none := by
      rw [List.findIdx?_eq_none_iff]
      intro x hx
      simp only [List.mem_singleton] at hx
      subst hx
      rw [ht]
      simp
      omega
    rw [this]
    simp [atOf]

/-- as many slots as tasks, no task twice: each task has one -/
theorem all_met {T : Int} {l : List Int} {many : Int} {s : List Slot} (h : slsOk T l many s s.length) (hT : (s.length : Int) = T) (t : Int) (h0 : 0 ≤ t) (h1 : t < T) : ∃ x ∈ s, x.task = t := by
  have hp : ∀ j (hj : j < s.length), (0 ≤ s[j].task ∧ s[j].task ≤ T - 1) ∧ ∀ x ∈ s.take j, x.task ≠ s[j].task := fun j hj => by
    have := slotOk1_parts (h j hj hj)
    exact ⟨this.1, this.2.1⟩
  have hall : ∀ x ∈ s, 0 ≤ x.task ∧ x.task ≤ T - 1 := fun x hx => by
    obtain ⟨j, hj, rfl⟩ := List.getElem_of_mem hx
    exact (hp j hj).1
  apply Classical.byContradiction
  intro hno
  have hnd : (t.toNat :: s.map fun x => x.task.toNat).Nodup := by
    rw [List.nodup_cons]
    constructor
    · intro hm
      obtain ⟨x, hx, he⟩ := List.mem_map.1 hm
      have := hall x hx
      exact hno ⟨x, hx, by omega⟩
    · rw [List.nodup_iff_pairwise_ne, List.pairwise_map, List.pairwise_iff_getElem]
      intro i j hi hj hij he
      have h2 := (hp j hj).2 s[i] (by
        rw [List.mem_take_iff_getElem]
        exact ⟨i, by omega, rfl⟩)
      have h3 := hall _ (List.getElem_mem hi)
      have h4 := hall _ (List.getElem_mem hj)
      exact h2 (by omega)
  have := Pg.nodup_le T.toNat _ hnd (by
    intro x hx
    rcases List.mem_cons.1 hx with rfl | hx
    · omega
    · obtain ⟨y, hy, rfl⟩ := List.mem_map.1 hx
      have := hall y hy
      omega)
  simp at this
  omega
end Go.Proofs.Ytnaicippgocdfaa
end
section
namespace Go.Proofs.Ytnaicippgocdfaa
open Go.RowKit
set_option maxRecDepth 100000
set_option maxHeartbeats 2000000
set_option linter.unusedSimpArgs false

theorem specBeside_any (p : Plan) (ve : Value) (q : Plan) (vf : Value) (w : World) (hl : p.edges.length ≤ 2000000) (hl' : q.edges.length ≤ 2000000) (h : Rd edgeE w w.heap.size ve p.edges) (h' : Rd edgeE w w.heap.size vf q.edges) :
    Calls Try.prog 34 #[planV p ve, planV q vf] w (JoinPost (joined p q []) w) := by
  obtain ⟨W, hWe, D, E, Z, hW, hsz⟩ := threeBox_at p ve q vf w
  unfold twoBox planBox at hWe
  have HWe := Lib.hid hWe
  have Hsz := Lib.hid hsz
  clear hWe hsz
  by_cases hf : planFault p = 0
  case neg =>
    have hfb : (planFault p != 0) = true := by simp [hf]
    have H := Lib.hid (joined_no (p := p) (q := q) (m := []) (fun x => hf x.1))
    clear hf
    unfold planV
    go_enter Try.func34, Try.ntmps34
    go_wp2_with fail
    rw [← HWe.out]
    refine (specPlanFault_any p ve _ hl ((h.below hW).more hW.size)).mono ?_
    rintro e w1 ⟨rfl, b1⟩
    obtain ⟨z0, z1, z2, z3, z4, zs⟩ := (Z.below b1).cells
    have zf := (Z.below b1).free
    have hW := bnext hW b1
    go_wp2
    refine bodyPost_ret (v := .tuple #[planV zeroPlan (.slice none 0 0), .bool false]) ?_ rfl ⟨.slice none 0 0, by rw [H.out], by rw [H.out]; exact Ow.nil _ _ _ _, ?_⟩
    · simp [planV, zeroPlan, results, Try.results34, go_sem, *]
    · repeat (first | (with_reducible exact hW) | refine Below.setCell ?_ (by simp <;> omega) _)
  have hfb : (planFault p != 0) = false := by simp [hf]
  by_cases hg : planFault q = 0
  case neg =>
    have hgb : (planFault q != 0) = true := by simp [hg]
    have H := Lib.hid (joined_no (p := p) (q := q) (m := []) (fun x => hg x.2.1))
    clear hf hg
    unfold planV
    go_enter Try.func34, Try.ntmps34
    go_wp2_with fail
    rw [← HWe.out]
    refine (specPlanFault_any p ve _ hl ((h.below hW).more hW.size)).mono ?_
    rintro e w1 ⟨rfl, b1⟩
    have hW := bnext hW b1
    have E := E.below b1
    have Z := Z.below b1
    obtain ⟨y0, y1, y2, y3, y4, ys⟩ := E.cells
    go_wp2_with fail
    clear y0 y1 y2 y3 y4 ys
    refine (specPlanFault_any q vf _ hl' ((h'.below hW).more hW.size)).mono ?_
    rintro e w2 ⟨rfl, b2⟩
    obtain ⟨z0, z1, z2, z3, z4, zs⟩ := (Z.below b2).cells
    have zf := (Z.below b2).free
    have hW := bnext hW b2
    go_wp2
    refine bodyPost_ret (v := .tuple #[planV zeroPlan (.slice none 0 0), .bool false]) ?_ rfl ⟨.slice none 0 0, by rw [H.out], by rw [H.out]; exact Ow.nil _ _ _ _, ?_⟩
    · simp [planV, zeroPlan, results, Try.results34, go_sem, *]
    · repeat (first | (with_reducible exact hW) | refine Below.setCell ?_ (by simp <;> omega) _)
  have hgb : (planFault q != 0) = false := by simp [hg]
  obtain ⟨P0, P1, -, -⟩ := planFault_zero.1 hf
  obtain ⟨Q0, Q1, -, -⟩ := planFault_zero.1 hg
  obtain ⟨t1, t2⟩ := manyOk_tasks P0
  obtain ⟨u1, u2⟩ := manyOk_tasks Q0
  have hpe := manyOk_edges P0
  have hqe := manyOk_edges Q0
  have HF := Lib.hid hf
  have HG := Lib.hid hg
  have HQ := Lib.hid Q1
  clear hf hg P0 Q0 P1 Q1
  obtain ⟨i0, hi0, hz0, hz1, hz2⟩ := info_parts edge_info
  obtain ⟨Aq, cq, rfl, -⟩ := id h'
  unfold planV
  go_enter Try.func34, Try.ntmps34
  go_wp2_with fail
  rw [← HWe.out]
  refine (specPlanFault_any p ve _ hl ((h.below hW).more hW.size)).mono ?_
  rintro e w1 ⟨rfl, b1⟩
  have hW := bnext hW b1
  have D := D.below b1
  have E := E.below b1
  have Z := Z.below b1
  obtain ⟨y0, y1, y2, y3, y4, ys⟩ := E.cells
  go_wp2_with fail
  clear y0 y1 y2 y3 y4 ys
  refine (specPlanFault_any q (.slice Aq q.edges.length cq) _ hl' ((h'.below hW).more hW.size)).mono ?_
  rintro e w2 ⟨rfl, b2⟩
  have hW := bnext hW b2
  have D := D.below b2
  have E := E.below b2
  have Z := Z.below b2
  obtain ⟨y0, y1, y2, y3, y4, ys⟩ := D.cells
  go_wp2_with fail
  clear y0 y1 y2 y3 y4 ys
  refine (specCopy_any p ve _ hl ((h.below hW).more hW.size)).mono ?_
  rintro e w3 ⟨v3, rfl, o3, b3⟩
  have hz3 := Z.lt
  have hW := bnext hW b3
  have D := D.below b3
  have E := E.below b3
  have Z := Z.below b3
  have o3 := o3.more (base' := w.heap.size + 3) (by omega)
  have hin3 := o3.within
  obtain ⟨A3, c3, rfl, -⟩ := id (Rd.of_own o3)
  obtain ⟨x0, x1, x2, x3, x4, xs⟩ := E.cells
  obtain ⟨y0, y1, y2, y3, y4, ys⟩ := D.cells
  have hzz := Z.lt
  have H3 := Lib.hid hin3
  clear hin3
  go_wp2_with fail
  clear x0 x1 x2 x3 x4 xs y0 y1 y2 y3 y4 ys
  generalize hw4 : w3.alloc (.cells #[.int .i64 p.prio, .int .i64 p.most, .int .i64 p.wait, .int .i64 (p.tasks + q.tasks), .slice A3 p.edges.length c3] 26) = w4
  have b4 : Below w3.heap.size w3 w4 := by rw [← hw4]; exact (Below.refl _ _).alloc (Nat.le_refl _) _
  have X : BoxAt w3.heap.size { p with tasks := p.tasks + q.tasks } (.slice A3 p.edges.length c3) w4 := by rw [← hw4]; exact BoxAt.new' 26 { p with tasks := p.tasks + q.tasks } _ w3 rfl
  clear hw4
  have o4 := o3.below b4
  have D := D.below b4
  have E := E.below b4
  have Z := Z.below b4
  have hW := bnext hW b4
  have hne : Hid ((Value.slice A3 p.edges.length c3).ownBlock ≠ some w3.heap.size) := fun e => by have := H3.out _ e; omega
  go_loopw [7] (fun i wr => ∃ (k : Nat) (v : Value), k ≤ q.edges.length ∧ i = .int .i64 k ∧ BoxAt w.heap.size p ve wr ∧ BoxAt (w.heap.size + 1) q (.slice Aq q.edges.length cq) wr ∧ BoxAt (w.heap.size + 2) zeroPlan (.slice none 0 0) wr ∧ BoxAt w3.heap.size { p with tasks := p.tasks + q.tasks, edges := joinL p q k } v wr ∧ Ow edgeE 52 wr (w.heap.size + 3) v (joinL p q k) ∧ Hid (v.ownBlock ≠ some w3.heap.size) ∧ Below w.heap.size w wr) (fun i _ => q.edges.length - (intOf i).toNat)
  case atStart =>
    refine ⟨0, _, Nat.zero_le _, rfl, D, E, Z, ?_, ?_, hne, hW⟩
    · exact ⟨X.cells, X.free⟩
    · simpa [joinL] using o4
  case round =>
    clear D E Z X hW hne o3 o4
    obtain ⟨k, v, hk, rfl, D, E, Z, X, ho, hne, hW⟩ := hrel
    by_cases hlt : k < q.edges.length
    · have hltI : (k : Int) < (q.edges.length : Int) := by omega
      obtain ⟨b, o, rfl, hbb, c0, c1⟩ := (h'.below hW).edge hlt
      obtain ⟨f1, f2, f3, f4⟩ := edgesIn_get HQ.out hlt
      have S := Lib.hid (joinL_succ p q hlt)
      have hll := joinL_len p q k
      have hll2 : (joinL p q k).length ≤ 3000000 := by omega
      clear hll
      have Hc : Hid (∀ W', Below w.heap.size w W' → W'.cell? ⟨b, o + k * 2, none⟩ = some (.int .i64 q.edges[k].fr) ∧ W'.cell? ⟨b, o + k * 2 + 1, none⟩ = some (.int .i64 q.edges[k].to)) := fun W' hW' => by
        obtain ⟨b', o', ee, _, d0, d1⟩ := (h'.below hW').edge hlt
        simp only [Option.some.injEq, Addr.mk.injEq] at ee
        obtain ⟨rfl, rfl, -⟩ := ee
        exact ⟨d0, d1⟩
      generalize hpe : q.edges[k] = e at *
      have HPE := Lib.hid hpe
      clear hpe
      have Ha : Hid (∀ w : World, Below w.heap.size w (w.alloc (.cells #[.int .i64 (e.fr + p.tasks), .int .i64 (e.to + p.tasks)] 52))) := fun w => (Below.refl _ _).alloc (Nat.le_refl _) _
      obtain ⟨x0, x1, x2, x3, x4, xs⟩ := X.cells
      obtain ⟨y0, y1, y2, y3, y4, ys⟩ := D.cells
      obtain ⟨z0, z1, z2, z3, z4, zs⟩ := E.cells
      have hw1 : IntKind.i64.wrap (e.fr + p.tasks) = e.fr + p.tasks := IntWalk.i64_in _ (by omega)
      have hw2 : IntKind.i64.wrap (e.to + p.tasks) = e.to + p.tasks := IntWalk.i64_in _ (by omega)
      go_wp2
      have hXl := X.lt
      have hdr : Below wr.heap.size wr wr.drew := (Below.refl _ _).drew
      have Hb := Lib.hid (hdr.trans ((Ha.out wr.drew).mono hdr.size))
      clear hdr
      have hob := ho.below Hb.out
      have hWb := bnext hW Hb.out
      refine wp_region_last (fun w' => w'.cell? ⟨w3.heap.size, 4, none⟩ = some v ∧ w'.cell? ⟨w.heap.size + 1, 4, none⟩ = some (.slice (some ⟨b, o, none⟩) q.edges.length cq) ∧ w'.cell? ⟨b, o + k * 2, none⟩ = some (.int .i64 e.fr) ∧ w'.cell? ⟨b, o + k * 2 + 1, none⟩ = some (.int .i64 e.to) ∧ w'.cell? ⟨w.heap.size, 3, none⟩ = some (.int .i64 p.tasks)) 24 (by kernel_rfl) ?_ (fun hHeld => ?_)
      · (refine ⟨?_, ?_, ?_, ?_, ?_⟩ <;> first | assumption | go_keep)
      refine wpAnyL_take (i := 0) (oi := _) (v := ?_) rfl (by kernel_rfl) (by kernel_rfl) (by kernel_rfl) (by kernel_rfl) (fun _ _ _ h => h) hHeld (Or.inl ⟨by rfl, ?_⟩) ?_
      rotate_left
      · intro w hSw
        (try dsimp only at hSw)
        go_simp
        all_goals with_reducible rfl
      try simp only [Act.put, List.setIfInBounds_toArray, List.set_cons_zero, List.set_cons_succ]
      refine wpAnyL_take (i := 1) (oi := _) (v := ?_) rfl (by kernel_rfl) (by kernel_rfl) (by kernel_rfl) (by kernel_rfl) (fun _ _ _ h => h) hHeld (Or.inl ⟨by rfl, ?_⟩) ?_
      rotate_left
      · intro w hSw
        (try dsimp only at hSw)
        go_simp
        all_goals with_reducible rfl
      try simp only [Act.put, List.setIfInBounds_toArray, List.set_cons_zero, List.set_cons_succ]
      refine wpAnyL_take (i := 2) (oi := _) (v := ?_) rfl (by kernel_rfl) (by kernel_rfl) (by kernel_rfl) (by kernel_rfl) (fun _ _ _ h => h) hHeld (Or.inl ⟨by rfl, ?_⟩) ?_
      rotate_left
      · intro w hSw
        (try dsimp only at hSw)
        go_simp
        all_goals with_reducible rfl
      try simp only [Act.put, List.setIfInBounds_toArray, List.set_cons_zero, List.set_cons_succ]
      refine wpAnyL_take (i := 3) (oi := _) (v := ?_) rfl (by kernel_rfl) (by kernel_rfl) (by kernel_rfl) (by kernel_rfl) (fun _ _ _ h => h) hHeld (Or.inl ⟨by rfl, ?_⟩) ?_
      rotate_left
      · intro w hSw
        (try dsimp only at hSw)
        go_simp
        all_goals with_reducible rfl
      try simp only [Act.put, List.setIfInBounds_toArray, List.set_cons_zero, List.set_cons_succ]
      refine wpAnyL_take (i := 4) (oi := _) (v := ?_) rfl (by kernel_rfl) (by kernel_rfl) (by kernel_rfl) (by kernel_rfl) (fun _ _ _ h => h) hHeld (Or.inl ⟨by rfl, ?_⟩) ?_
      rotate_left
      · intro w hSw
        (try dsimp only at hSw)
        go_simp
        all_goals with_reducible rfl
      try simp only [Act.put, List.setIfInBounds_toArray, List.set_cons_zero, List.set_cons_succ]
      refine wpAnyL_take (i := 5) (oi := _) (v := ?_) rfl (by kernel_rfl) (by kernel_rfl) (by kernel_rfl) (by kernel_rfl) (fun _ _ _ h => h) hHeld (Or.inl ⟨by rfl, ?_⟩) ?_
      rotate_left
      · intro w hSw
        (try dsimp only at hSw)
        go_simp
        all_goals with_reducible rfl
      try simp only [Act.put, List.setIfInBounds_toArray, List.set_cons_zero, List.set_cons_succ]
      refine wpAnyL_take (i := 6) (oi := _) (v := ?_) rfl (by kernel_rfl) (by kernel_rfl) (by kernel_rfl) (by kernel_rfl) (fun _ _ _ h => h) hHeld (Or.inl ⟨by rfl, ?_⟩) ?_
      rotate_left
      · intro w hSw
        (try dsimp only at hSw)
        go_simp
        all_goals with_reducible rfl
      try simp only [Act.put, List.setIfInBounds_toArray, List.set_cons_zero, List.set_cons_succ]
      refine wpAnyL_take (i := 7) (oi := _) (v := ?_) rfl (by kernel_rfl) (by kernel_rfl) (by kernel_rfl) (by kernel_rfl) (fun _ _ _ h => h) hHeld (Or.inl ⟨by rfl, ?_⟩) ?_
      rotate_left
      · intro w hSw
        (try dsimp only at hSw)
        go_simp
        all_goals with_reducible rfl
      try simp only [Act.put, List.setIfInBounds_toArray, List.set_cons_zero, List.set_cons_succ]
      refine wpAnyL_take (i := 8) (oi := _) (v := ?_) rfl (by kernel_rfl) (by kernel_rfl) (by kernel_rfl) (by kernel_rfl) (fun _ _ _ h => h) hHeld (Or.inl ⟨by rfl, ?_⟩) ?_
      rotate_left
      · intro w hSw
        (try dsimp only at hSw)
        go_simp
        all_goals with_reducible rfl
      try simp only [Act.put, List.setIfInBounds_toArray, List.set_cons_zero, List.set_cons_succ]
      refine wpAnyL_take (i := 9) (oi := _) (v := ?_) rfl (by kernel_rfl) (by kernel_rfl) (by kernel_rfl) (by kernel_rfl) (fun _ _ _ h => h) hHeld (Or.inl ⟨by rfl, ?_⟩) ?_
      rotate_left
      · intro w hSw
        (try dsimp only at hSw)
        go_simp
        all_goals with_reducible rfl
      try simp only [Act.put, List.setIfInBounds_toArray, List.set_cons_zero, List.set_cons_succ]
      refine wpAnyL_take (i := 10) (oi := _) (v := ?_) rfl (by kernel_rfl) (by kernel_rfl) (by kernel_rfl) (by kernel_rfl) (fun _ _ _ h => h) hHeld (Or.inl ⟨by rfl, ?_⟩) ?_
      rotate_left
      · intro w hSw
        (try dsimp only at hSw)
        go_simp
        all_goals with_reducible rfl
      try simp only [Act.put, List.setIfInBounds_toArray, List.set_cons_zero, List.set_cons_succ]
      refine wpAnyL_take (i := 11) (oi := _) (v := ?_) rfl (by kernel_rfl) (by kernel_rfl) (by kernel_rfl) (by kernel_rfl) (fun _ _ _ h => h) hHeld (Or.inl ⟨by rfl, ?_⟩) ?_
      rotate_left
      · intro w hSw
        (try dsimp only at hSw)
        go_simp
        all_goals with_reducible rfl
      try simp only [Act.put, List.setIfInBounds_toArray, List.set_cons_zero, List.set_cons_succ]
      refine wpAnyL_take (i := 12) (oi := _) (v := ?_) rfl (by kernel_rfl) (by kernel_rfl) (by kernel_rfl) (by kernel_rfl) (fun _ _ _ h => h) hHeld (Or.inl ⟨by rfl, ?_⟩) ?_
      rotate_left
      · intro w hSw
        (try dsimp only at hSw)
        go_simp
        all_goals with_reducible rfl
      try simp only [Act.put, List.setIfInBounds_toArray, List.set_cons_zero, List.set_cons_succ]
      refine wpAnyL_take (i := 13) (oi := _) (v := ?_) rfl (by kernel_rfl) (by kernel_rfl) (by kernel_rfl) (by kernel_rfl) (fun _ _ _ h => h) hHeld (Or.inl ⟨by rfl, ?_⟩) ?_
      rotate_left
      · intro w hSw
        (try dsimp only at hSw)
        go_simp
        all_goals with_reducible rfl
      try simp only [Act.put, List.setIfInBounds_toArray, List.set_cons_zero, List.set_cons_succ]
      refine wpAnyL_take (i := 14) (oi := _) (v := ?_) rfl (by kernel_rfl) (by kernel_rfl) (by kernel_rfl) (by kernel_rfl) (fun _ _ _ h => h) hHeld (Or.inl ⟨by rfl, ?_⟩) ?_
      rotate_left
      · intro w hSw
        (try dsimp only at hSw)
        go_simp
        all_goals with_reducible rfl
      try simp only [Act.put, List.setIfInBounds_toArray, List.set_cons_zero, List.set_cons_succ]
      refine wpAnyL_take (i := 15) (oi := _) (v := ?_) rfl (by kernel_rfl) (by kernel_rfl) (by kernel_rfl) (by kernel_rfl) (fun _ _ _ h => h) hHeld (Or.inl ⟨by rfl, ?_⟩) ?_
      rotate_left
      · intro w hSw
        (try dsimp only at hSw)
        go_simp
        all_goals with_reducible rfl
      try simp only [Act.put, List.setIfInBounds_toArray, List.set_cons_zero, List.set_cons_succ]
      refine wpAnyL_take (i := 16) (oi := _) (v := ?_) rfl (by kernel_rfl) (by kernel_rfl) (by kernel_rfl) (by kernel_rfl) (fun _ _ _ h => h) hHeld (Or.inl ⟨by rfl, ?_⟩) ?_
      rotate_left
      · intro w hSw
        (try dsimp only at hSw)
        go_simp
        all_goals with_reducible rfl
      try simp only [Act.put, List.setIfInBounds_toArray, List.set_cons_zero, List.set_cons_succ]
      refine wpAnyL_take (i := 17) (oi := _) (v := ?_) rfl (by kernel_rfl) (by kernel_rfl) (by kernel_rfl) (by kernel_rfl) (fun _ _ _ h => h) hHeld (Or.inl ⟨by rfl, ?_⟩) ?_
      rotate_left
      · intro w hSw
        (try dsimp only at hSw)
        go_simp
        all_goals with_reducible rfl
      try simp only [Act.put, List.setIfInBounds_toArray, List.set_cons_zero, List.set_cons_succ]
      refine wpAnyL_take (i := 18) (oi := _) (v := ?_) rfl (by kernel_rfl) (by kernel_rfl) (by kernel_rfl) (by kernel_rfl) (fun _ _ _ h => h) hHeld (Or.inl ⟨by rfl, ?_⟩) ?_
      rotate_left
      · intro w hSw
        (try dsimp only at hSw)
        go_simp
        all_goals with_reducible rfl
      try simp only [Act.put, List.setIfInBounds_toArray, List.set_cons_zero, List.set_cons_succ]
      refine wpAnyL_take (i := 19) (oi := _) (v := ?_) rfl (by kernel_rfl) (by kernel_rfl) (by kernel_rfl) (by kernel_rfl) (fun _ _ _ h => h) hHeld (Or.inl ⟨by rfl, ?_⟩) ?_
      rotate_left
      · intro w hSw
        (try dsimp only at hSw)
        go_simp
        all_goals with_reducible rfl
      try simp only [Act.put, List.setIfInBounds_toArray, List.set_cons_zero, List.set_cons_succ]
      refine wpAnyL_take (i := 20) (oi := _) (v := ?_) rfl (by kernel_rfl) (by kernel_rfl) (by kernel_rfl) (by kernel_rfl) (fun _ _ _ h => h) hHeld (Or.inl ⟨by rfl, ?_⟩) ?_
      rotate_left
      · intro w hSw
        (try dsimp only at hSw)
        go_simp
        all_goals with_reducible rfl
      try simp only [Act.put, List.setIfInBounds_toArray, List.set_cons_zero, List.set_cons_succ]
      refine wpAnyL_one (i := 21) (o := _) rfl (by kernel_rfl) (fun K hK => ?_)
      go_simp
      refine hK.out _ _ (fun _ => ?_) ?_
      · (refine ⟨?_, ?_, ?_, ?_, ?_⟩ <;> first | assumption | go_keep)
      clear hK K
      try simp only [Act.put, List.setIfInBounds_toArray, List.set_cons_zero, List.set_cons_succ]
      refine wpAnyL_one (i := 22) (o := _) rfl (by kernel_rfl) (fun K hK => ?_)
      (refine step_push_all _ edgeE (by decide) (by rfl) (.tmp 33) (.tmp 53) (by rfl) Try.underlying24 hi0 hz0 hz1 hz2 (by rfl) (v := v) (l := joinL p q k) (by rfl) hob (by rfl) (Rd.one edgeE _ _ (shiftE p.tasks e) (by simp) rfl 1 (Nat.le_refl _) (Nat.lt_succ_self _)) hll2 (by simp) (by decide) (by simp; omega) ?_; intro v5 w5 o5 g5 hat5; obtain ⟨A5, c5, rfl, -⟩ := id (Rd.of_own o5); have X5 := (X.below Hb.out).far g5 (fun e => hne.out e.symm); have D5 := (D.below Hb.out).far g5 (fun e => by have := ho.within _ e.symm; omega); have E5 := (E.below Hb.out).far g5 (fun e => by have := ho.within _ e.symm; omega); have W5 := hWb.grown g5 hWb.size (fun g hg => by have := ho.within _ hg; omega); obtain ⟨cc0, cc1⟩ := Hc.out _ W5; obtain ⟨xx0, xx1, xx2, xx3, xx4, xxs⟩ := X5.cells; obtain ⟨yy0, yy1, yy2, yy3, yy4, yys⟩ := D5.cells; obtain ⟨zz0, zz1, zz2, zz3, zz4, zzs⟩ := E5.cells; have xf := X5.free)
      refine hK.out _ _ (fun _ => ?_) ?_
      · (refine ⟨?_, ?_, ?_, ?_, ?_⟩ <;> first | assumption | go_keep)
      clear hK K
      try simp only [Act.put, List.setIfInBounds_toArray, List.set_cons_zero, List.set_cons_succ]
      refine wpAnyL_one (i := 23) (o := _) rfl (by kernel_rfl) (fun K hK => ?_)
      go_simp
      refine hK.out _ _ (fun _ => ?_) ?_
      · (refine ⟨?_, ?_, ?_, ?_, ?_⟩ <;> first | assumption | go_keep)
      clear hK K
      try simp only [Act.put, List.setIfInBounds_toArray, List.set_cons_zero, List.set_cons_succ]
      refine wpAnyL_one (i := 24) (o := _) rfl (by kernel_rfl) (fun K hK => ?_)
      go_simp
      refine hK.out _ _ (fun hne => absurd rfl hne) ?_
      clear hK K
      try simp only [Act.put, List.setIfInBounds_toArray, List.set_cons_zero, List.set_cons_succ]
      refine wpAnyL_done (by kernel_rfl) ?_ _
      go_wp2
      have Z5 := (Z.below Hb.out).far g5 (fun e => by have := ho.within _ e.symm; omega)
      have hne5 : Hid ((Value.slice A5 (joinL p q k ++ [shiftE p.tasks e]).length c5).ownBlock ≠ some w3.heap.size) := by
        intro e
        rcases hat5 with h1 | h1
        · rw [h1] at e; exact hne.out e
        · rw [h1] at e; simp at e; omega
      rw [List.length_append, List.length_singleton] at o5 hne5
      refine ⟨⟨k + 1, .slice A5 ((joinL p q k).length + 1) c5, by omega, by go_num, D5.other (by simp; omega) _, E5.other (by simp; omega) _, Z5.other (by simp; omega) _, ?_, ?_, hne5, W5.setCell (by simp; omega) _⟩, by simp [intOf]; omega⟩
      · exact X5.setEdges _ _
      · rw [S.out]
        exact o5.setOther hne5.out _
    · have hltI : ¬ (k : Int) < (q.edges.length : Int) := by omega
      have hk' : k = q.edges.length := by omega
      subst hk'
      have hll := joinL_len p q q.edges.length
      obtain ⟨A5, c5, rfl, -⟩ := id (Rd.of_own ho)
      have hXl := X.lt
      obtain ⟨x0, x1, x2, x3, x4, xs⟩ := X.cells
      obtain ⟨y0, y1, y2, y3, y4, ys⟩ := E.cells
      go_wp2_with fail
      clear x0 x1 x2 x3 x4 xs y0 y1 y2 y3 y4 ys
      have hjj : (joinP p q []).edges = joinL p q q.edges.length := by simp [joinP]
      have o6 : Ow edgeE 52 wr (w.heap.size + 3) (.slice A5 (joinL p q q.edges.length).length c5) (joinP p q []).edges := by rw [hjj]; exact ho
      have X6 : BoxAt w3.heap.size (joinP p q []) (.slice A5 (joinL p q q.edges.length).length c5) wr := ⟨X.cells, X.free⟩
      have Z5 := Z
      have W5 := hW
      have HJJ := Lib.hid hjj
      clear hjj
      have hjl : (joinP p q []).edges.length ≤ 2000000 := by
        rw [HJJ.out]
        omega
      refine (specPlanFault_any (joinP p q []) _ _ hjl (Rd.of_own o6)).mono ?_
      rintro e w7 ⟨rfl, b7⟩
      have o7 := o6.below b7
      have Z7 := Z5.below b7
      have X7 := X6.below b7
      have W7 := bnext W5 b7
      obtain ⟨z0, z1, z2, z3, z4, zs⟩ := Z7.cells
      have zf := Z7.free
      obtain ⟨x0, x1, x2, x3, x4, xs⟩ := X7.cells
      by_cases hj : planFault (joinP p q []) = 0
      · have hjb : (planFault (joinP p q []) != 0) = false := by simp [hj]
        have H := Lib.hid (joined_yes (m := []) ⟨HF.out, HG.out, hj⟩)
        clear hj
        go_wp2
        refine bodyPost_ret (v := .tuple #[planV (joinP p q []) (.slice A5 (joinL p q q.edges.length).length c5), .bool true]) ?_ rfl ⟨.slice A5 (joinL p q q.edges.length).length c5, by rw [H.out], ?_, ?_⟩
        · simp [planV, results, Try.results34, go_sem, *]
        · rw [H.out]
          refine Ow.more (base := w.heap.size + 3) ?_ (by omega)
          unfold Ow at o7 ⊢
          repeat (first | (with_reducible exact o7) | refine ownsRow_setCell_below ?_ (by simp <;> omega) _)
        · repeat (first | (with_reducible exact W7) | refine Below.setCell ?_ (by simp <;> omega) _)
      · have hjb : (planFault (joinP p q []) != 0) = true := by simp [hj]
        have H := Lib.hid (joined_no (p := p) (q := q) (m := []) (fun x => hj x.2.2))
        clear hj
        go_wp2
        refine bodyPost_ret (v := .tuple #[planV zeroPlan (.slice none 0 0), .bool false]) ?_ rfl ⟨.slice none 0 0, by rw [H.out], by rw [H.out]; exact Ow.nil _ _ _ _, ?_⟩
        · simp [planV, zeroPlan, results, Try.results34, go_sem, *]
        · repeat (first | (with_reducible exact W7) | refine Below.setCell ?_ (by simp <;> omega) _)

noncomputable def besideB (p q : Plan) : Plan × Bool := joined p q []
theorem beside_len (p q : Plan) : (besideB p q).1.edges.length ≤ p.edges.length + q.edges.length := joined_len
end Go.Proofs.Ytnaicippgocdfaa
end
section
namespace Go.Proofs.Ytnaicippgocdfaa
open Go.RowKit
set_option maxRecDepth 100000
set_option maxHeartbeats 2000000

theorem specReduced_any (p : Plan) (ve : Value) (w : World) (hl : p.edges.length ≤ 2000000) (h : Rd edgeE w w.heap.size ve p.edges) :
    Calls Try.prog 27 #[planV p ve] w (ToPlanPost (reduced p) w) := by
  obtain ⟨B0, e0, rfl, -⟩ := id h
  have D0 := BoxAt.new 26 p (.slice B0 p.edges.length e0) w
  have Z0 := BoxAt.new' 26 zeroPlan (.slice none 0 0) (planBox 26 p (.slice B0 p.edges.length e0) w) (b := w.heap.size + 1) (by simp [planBox])
  have hW0 := planBox_below 26 p (.slice B0 p.edges.length e0) w
  have hW1 : Below w.heap.size w ((planBox 26 p (.slice B0 p.edges.length e0) w).alloc (.cells #[.int .i64 0, .int .i64 0, .int .i64 0, .int .i64 0, .slice none 0 0] 26)) := hW0.alloc (by simp [planBox]) _
  have D1 := D0.below ((Below.refl _ _).alloc (Nat.le_refl _) (.cells #[.int .i64 0, .int .i64 0, .int .i64 0, .int .i64 0, .slice none 0 0] 26))
  have hS1 : ((planBox 26 p (.slice B0 p.edges.length e0) w).alloc (.cells #[.int .i64 0, .int .i64 0, .int .i64 0, .int .i64 0, .slice none 0 0] 26)).heap.size = w.heap.size + 2 := by simp [planBox]
  have HS1 := Lib.hid hS1
  clear hS1
  unfold planV
  go_enter Try.func27, Try.ntmps27
  go_wp2_with fail
  refine (specCopy_any p (.slice B0 p.edges.length e0) _ hl ((h.below hW1).more hW1.size)).mono ?_
  rintro e w1 ⟨v1, rfl, o1, b1⟩
  have D := D1.below b1
  have Z := Z0.below b1
  have hW := bnext hW1 b1
  have hsz := b1.size
  have o1 : Ow edgeE 52 w1 (w.heap.size + 2) v1 p.edges := by rw [← HS1.out]; exact o1
  clear D0 Z0 hW0 hW1 D1 b1
  obtain ⟨A1, c1, rfl, -⟩ := id (Rd.of_own o1)
  obtain ⟨x0, x1, x2, x3, x4, xs⟩ := D.cells
  go_wp2_with fail
  clear x0 x1 x2 x3 x4 xs
  generalize hw2 : w1.alloc (.cells #[.int .i64 p.prio, .int .i64 p.most, .int .i64 p.wait, .int .i64 p.tasks, .slice A1 p.edges.length c1] 26) = w2
  have b2 : Below w1.heap.size w1 w2 := by rw [← hw2]; exact (Below.refl _ _).alloc (Nat.le_refl _) _
  have X : BoxAt w1.heap.size p (.slice A1 p.edges.length c1) w2 := by rw [← hw2]; exact BoxAt.new 26 p _ w1
  clear hw2
  have o2 := o1.below b2
  have D := D.below b2
  have Z := Z.below b2
  have hW := bnext hW b2
  refine (specPlanFault_any p (.slice B0 p.edges.length e0) _ hl ((h.below hW).more hW.size)).mono ?_
  rintro e w3 ⟨rfl, b3⟩
  have o3 := o2.below b3
  have D := D.below b3
  have Z := Z.below b3
  have X := X.below b3
  have hW := bnext hW b3
  have hg1 := o1.within
  have hs12 : w.heap.size + 2 ≤ w1.heap.size := by rw [← HS1.out]; exact hsz
  have hs13 : w1.heap.size < w3.heap.size := X.lt
  clear o1 o2 b2 b3
  by_cases hf : planFault p = 0
  case neg =>
    have hfb : (planFault p != 0) = true := by simp [hf]
    have H := Lib.hid (show reduced p = p by unfold reduced; rw [if_neg hf])
    clear hf
    obtain ⟨x0, x1, x2, x3, x4, xs⟩ := X.cells
    obtain ⟨z0, z1, z2, z3, z4, zs⟩ := Z.cells
    have zf := Z.free
    go_wp2
    have oq := o3.more (base' := w.heap.size + 2) (Nat.le_refl _)
    refine bodyPost_ret (v := planV p (.slice A1 p.edges.length c1)) ?_ rfl ⟨.slice A1 p.edges.length c1, by rw [H.out], ?_, ?_⟩
    · simp [planV, results, Try.results27, go_sem, *]
    · rw [H.out]
      refine Ow.more (base := w.heap.size + 2) ?_ (by omega)
      unfold Ow at oq ⊢
      repeat (first | (with_reducible exact oq) | refine ownsRow_setCell_below ?_ (by simp <;> omega) _)
    · repeat (first | (with_reducible exact hW) | refine Below.setCell ?_ (by simp <;> omega) _)
  have hfb : (planFault p != 0) = false := by simp [hf]
  have H := Lib.hid (show reduced p = { p with edges := redL p p.edges.length } by unfold reduced redL; rw [if_pos hf, List.take_length])
  have G0 := Lib.hid (planFault_zero.1 hf)
  obtain ⟨t1, t2⟩ := manyOk_tasks G0.out.1
  have hlen := manyOk_edges G0.out.1
  obtain ⟨T, hT⟩ := Int.eq_ofNat_of_zero_le (show 0 ≤ p.tasks by omega)
  have HT := Lib.hid hT
  have HTn := Lib.hid (show p.tasks.toNat = T by omega)
  have hT2 : T ≤ 12 := by omega
  clear hf hT
  obtain ⟨i0, hi0, hz0, hz1, hz2⟩ := info_parts edge_info
  obtain ⟨x0, x1, x2, x3, x4, xs⟩ := X.cells
  obtain ⟨y0, y1, y2, y3, y4, ys⟩ := D.cells
  have xf := X.free
  go_wp2
  clear x0 x1 x2 x3 x4 xs xf y0 y1 y2 y3 y4 ys
  go_loopw [4] (fun i wr => ∃ (k : Nat) (v : Value), k ≤ p.edges.length ∧ i = .int .i64 k ∧ BoxAt w.heap.size p (.slice B0 p.edges.length e0) wr ∧ BoxAt (w.heap.size + 1) zeroPlan (.slice none 0 0) wr ∧ BoxAt w1.heap.size { p with edges := redL p k } v wr ∧ Ow edgeE 52 wr (w1.heap.size + 1) v (redL p k) ∧ Below w.heap.size w wr) (fun i _ => p.edges.length - (intOf i).toNat)
  case atStart =>
    have ha : ∀ w : World, Below w.heap.size w (w.alloc (.cells #[] 52)) := fun w => (Below.refl _ _).alloc (Nat.le_refl _) _
    refine ⟨0, .slice (some ⟨w3.heap.size, 0, none⟩) 0 0, Nat.zero_le _, rfl, (D.other (by simp; omega) _).below (ha _), (Z.other (by simp; omega) _).below (ha _), (X.setEdges _ _).below (ha _), ?_, bnext (hW.setCell (by simp; omega) _) (ha _)⟩
    have := Ow.empty edgeE 52 (w3.setCell ⟨w1.heap.size, 4, none⟩ (.slice (some ⟨w3.heap.size, 0, none⟩) 0 0)) (g := w3.heap.size) (by simp [World.setCell])
    exact this.more (by omega)
  case round =>
    clear o3 Z X hW D hs13
    obtain ⟨k, v, hk, rfl, D, Z, X, ho, hW⟩ := hrel
    obtain ⟨y0, y1, y2, y3, y4, ys⟩ := D.cells
    by_cases hlt : k < p.edges.length
    · have hltI : (k : Int) < (p.edges.length : Int) := by omega
      obtain ⟨b, o, rfl, hbb, c0, c1'⟩ := (h.below hW).edge hlt
      obtain ⟨f1, f2, f3, f4⟩ := edgesIn_get G0.out.2.1 hlt
      obtain ⟨wo, rfl⟩ : ∃ wo : World, wo = wr := ⟨_, rfl⟩
      have hbb2 : b < wo.heap.size := Nat.lt_of_lt_of_le hbb hW.size
      go_wp2
      clear y0 y1 y2 y3 y4 ys c0 c1'
      generalize hwi : wo.alloc (.cells #[.int .i64 p.edges[k].fr, .int .i64 p.edges[k].to] 52) = wi
      have bi : Below wo.heap.size wo wi := by rw [← hwi]; exact (Below.refl _ _).alloc (Nat.le_refl _) _
      have E := show EdgeAt wo.heap.size p.edges[k] wi by rw [← hwi]; exact EdgeAt.new 52 _ wo
      clear hwi
      have D := D.below bi
      have Z := Z.below bi
      have X := X.below bi
      have ho := ho.below bi
      have hW := bnext hW bi
      generalize hpe : p.edges[k] = e at *
      have HPE := Lib.hid hpe
      clear hpe
      go_loopw [6, 7] (fun y i wr => ∃ j : Nat, j ≤ T ∧ i = .int .i64 j ∧ y = .bool (redUpto p e j) ∧ Below wi.heap.size wi wr) (fun _ i _ => T - (intOf i).toNat)
      case atStart => exact ⟨0, Nat.zero_le _, rfl, rfl, Below.refl _ _⟩
      case round =>
        obtain ⟨j, hj, rfl, rfl, hb⟩ := hrel
        have D := D.below hb
        have Z := Z.below hb
        have X := X.below hb
        have E := E.below hb
        have ho := ho.below hb
        have hW := bnext hW hb
        obtain ⟨y0, y1, y2, y3, y4, ys⟩ := D.cells
        obtain ⟨e1, e2, es⟩ := E.cells
        by_cases hjt : j < T
        · have hjI : (j : Int) < p.tasks := by rw [HT.out]; omega
          have hun := Lib.hid (redUpto_succ p e j)
          cases hu : redUpto p e j
          · cases h1 : reachB p e.fr j
            · have S := Lib.hid (show redUpto p e (j + 1) = false by rw [hun.out, hu, h1]; rfl)
              have H1 := Lib.hid h1
              clear h1
              go_wp2_with fail
              refine (specReaches_any p (.slice (some ⟨b, o, none⟩) p.edges.length e0) e.fr j _ hl ((h.below hW).more hW.size)).mono ?_
              rintro en w4 ⟨rfl, b4⟩
              rw [H1.out]
              go_wp2
              exact ⟨⟨j + 1, by omega, by go_num, by rw [S.out], bnext hb b4⟩, by simp [intOf]; omega⟩
            · cases h2 : reachB p j e.to
              all_goals
                have S := Lib.hid (hun.out)
                rw [hu, h1, h2] at S
                have H1 := Lib.hid h1
                have H2 := Lib.hid h2
                clear h1 h2
                go_wp2_with fail
                refine (specReaches_any p (.slice (some ⟨b, o, none⟩) p.edges.length e0) e.fr j _ hl ((h.below hW).more hW.size)).mono ?_
                rintro en w4 ⟨rfl, b4⟩
                rw [H1.out]
                clear y0 y1 y2 y3 y4 ys e1 e2 es
                have D := D.below b4
                have E := E.below b4
                have hW := bnext hW b4
                obtain ⟨y0, y1, y2, y3, y4, ys⟩ := D.cells
                obtain ⟨e1, e2, es⟩ := E.cells
                go_wp2_with fail
                refine (specReaches_any p (.slice (some ⟨b, o, none⟩) p.edges.length e0) j e.to _ hl ((h.below hW).more hW.size)).mono ?_
                rintro en w5 ⟨rfl, b5⟩
                rw [H2.out]
                go_wp2
                exact ⟨⟨j + 1, by omega, by go_num, by rw [S.out]; rfl, bnext (bnext hb b4) b5⟩, by simp [intOf]; omega⟩
          · have S := Lib.hid (show redUpto p e (j + 1) = true by rw [hun.out, hu]; rfl)
            go_wp2
            exact ⟨⟨j + 1, by omega, by go_num, by rw [S.out], hb⟩, by simp [intOf]; omega⟩
        · have hjI : ¬ (j : Int) < p.tasks := by rw [HT.out]; omega
          have hj' : j = T := by omega
          subst hj'
          obtain ⟨x0, x1, x2, x3, x4, xs⟩ := X.cells
          have xf := X.free
          cases hu : redUpto p e j
          · have S := Lib.hid (redL_add (p := p) hlt (by rw [HPE.out, HTn.out]; exact hu))
            rw [HPE.out] at S
            have hll : (redL p k).length ≤ 3000000 := by have := redL_len p k; omega
            have hoi := ho.within
            have ho2 := ho.below ((Below.refl _ _).alloc (Nat.le_refl _) (.cells #[.int .i64 e.fr, .int .i64 e.to] 52))
            have hX2 := X.below ((Below.refl _ _).alloc (Nat.le_refl _) (.cells #[.int .i64 e.fr, .int .i64 e.to] 52))
            have hD2 := D.below ((Below.refl _ _).alloc (Nat.le_refl _) (.cells #[.int .i64 e.fr, .int .i64 e.to] 52))
            have hZ2 := Z.below ((Below.refl _ _).alloc (Nat.le_refl _) (.cells #[.int .i64 e.fr, .int .i64 e.to] 52))
            have hW2 := hW.alloc hW.size (.cells #[.int .i64 e.fr, .int .i64 e.to] 52)
            have hXl := X.lt
            go_wp2_with (at_builtin; refine wpList_push (v := v) edgeE (by decide) rfl (.tmp 52) (.tmp 54) rfl Try.underlying24 hi0 hz0 hz1 hz2 rfl e rfl ho2 ⟨wr.heap.size, 0, none⟩ 1 rfl (news_new _ #[.int .i64 e.fr, .int .i64 e.to] _ (by simp)) hll (by decide) (by simp; omega) ?_; intro v' w5 o5 g5; clear x0 x1 x2 x3 x4 xs xf y0 y1 y2 y3 y4 ys; obtain ⟨A5, c5, rfl, -⟩ := id (Rd.of_own o5); have X5 := hX2.far g5 (fun e => by have := hoi _ e.symm; omega); obtain ⟨x0, x1, x2, x3, x4, xs⟩ := X5.cells; have xf := X5.free)
            have D5 := hD2.far g5 (fun e => by have := hoi _ e.symm; omega)
            have Z5 := hZ2.far g5 (fun e => by have := hoi _ e.symm; omega)
            have W5 := hW2.grown g5 hW2.size (fun g hg => by have := hoi _ hg; omega)
            rw [List.length_append, List.length_singleton] at o5
            refine ⟨⟨k + 1, .slice A5 ((redL p k).length + 1) c5, by omega, by go_num, D5.other (by simp; omega) _, Z5.other (by simp; omega) _, ?_, ?_, W5.setCell (by simp; omega) _⟩, by simp [intOf]; omega⟩
            · exact X5.setEdges _ _
            · rw [S.out]
              exact ownsRow_setCell_below o5 (by simp) _
          · have S := Lib.hid (redL_skip (p := p) hlt (by rw [HPE.out, HTn.out]; exact hu))
            go_wp2
            exact ⟨⟨k + 1, v, by omega, by go_num, D, Z, by rw [S.out]; exact X, by rw [S.out]; exact ho, hW⟩, by simp [intOf]; omega⟩
    · have hltI : ¬ (k : Int) < (p.edges.length : Int) := by omega
      obtain ⟨x0, x1, x2, x3, x4, xs⟩ := X.cells
      obtain ⟨z0, z1, z2, z3, z4, zs⟩ := Z.cells
      have zf := Z.free
      have hk' : k = p.edges.length := by omega
      subst hk'
      obtain ⟨A6, c6, rfl, -⟩ := id (Rd.of_own ho)
      go_wp2
      refine bodyPost_ret (v := planV { p with edges := redL p p.edges.length } (.slice A6 (redL p p.edges.length).length c6)) ?_ rfl ⟨.slice A6 (redL p p.edges.length).length c6, by rw [H.out], ?_, ?_⟩
      · simp [planV, results, Try.results27, go_sem, *]
      · rw [H.out]
        refine Ow.more (base := w1.heap.size + 1) ?_ (by omega)
        unfold Ow at ho ⊢
        repeat (first | (with_reducible exact ho) | refine ownsRow_setCell_below ?_ (by simp <;> omega) _)
      · repeat (first | (with_reducible exact hW) | refine Below.setCell ?_ (by simp <;> omega) _)
end Go.Proofs.Ytnaicippgocdfaa
end
section
namespace Go.Proofs.Ytnaicippgocdfaa
open Go.ChangeShapes Go.WideShapes Go.ChangeAt Go.RowKit Go.Deep
set_option maxRecDepth 100000

section
variable {H : Type} {enc : TypeId × Value → H} {w : World} {spare : Nat → Bool} {held : Bool} {fuel : Nat} {cs : List Value} {x : DataW H × List MemPlace}
theorem u8_of {a : Int} (h : (Lit.int .u8 a).wf = true) : 0 ≤ a ∧ a ≤ 255 := by
  simp [Lit.wf, IntKind.min, IntKind.max, IntKind.signed, IntKind.bits] at h
  exact ⟨by omega, by omega⟩
theorem read_byteS (h : DataW.trod enc Try.prog w 0 spare held fuel 22 cs = some x) : ∃ (v : Value) (l : List UInt8), cs = [v] ∧ Rd byteE w w.heap.size v l ∧ l.length ≤ maxLen := by
  obtain ⟨v, l, h1, h2, _, h3⟩ := read_slice byteE (fun _ => True) Try.underlying22 (by kernel_rfl) (by decide) (fun n cs' y hy => by
    obtain ⟨a0, e0, _, hw⟩ := DataW.trod_int Try.underlying5 hy
    have hb := u8_of hw
    refine ⟨UInt8.ofNat a0.toNat, ?_, trivial⟩
    rw [e0]
    have : ((UInt8.ofNat a0.toNat).toNat : Int) = a0 := by
      rw [UInt8.toNat_ofNat']
      omega
    show [Value.int .u8 a0] = [Value.int .u8 ((UInt8.ofNat a0.toNat).toNat : Int)]
    rw [this]) h
  exact ⟨v, l, h1, h2, h3⟩
end
end Go.Proofs.Ytnaicippgocdfaa
end
section
namespace Go.Proofs.Ytnaicippgocdfaa
open Go.RowKit
set_option maxRecDepth 100000
set_option maxHeartbeats 2000000

open Classical in
noncomputable def orderOf (p : Plan) : List Nat := if planFault p = 0 then orderL (esOf p) p.tasks.toNat p.tasks.toNat else []
/-- the length in a slot -/
def slen : Value → Nat | .slice _ n _ => n | _ => 0

theorem mayCome_before {es : List (Nat × Nat)} {T : Nat} {out : List Nat} {t : Nat} (h1 : ∀ e ∈ es, e.1 < T) : mayCome es out t = (!decide (t ∈ out) && decide (∀ x ∈ beforeL es T t, x ∈ out)) := by
  rw [Bool.eq_iff_iff, mayCome_iff, Bool.and_eq_true, Bool.not_eq_true', decide_eq_false_iff_not, decide_eq_true_iff]
  have hm : ∀ x, x ∈ beforeL es T t ↔ x < T ∧ (x, t) ∈ es := fun x => by simp [beforeL]
  constructor
  · rintro ⟨a, b⟩
    exact ⟨a, fun x hx => b x ((hm x).1 hx).2⟩
  · rintro ⟨a, b⟩
    exact ⟨a, fun s hs => b s ((hm s).2 ⟨h1 _ hs, hs⟩)⟩

theorem plan_ac {p : Plan} (hf : planFault p = 0) : ∀ t, t < p.tasks.toNat → ¬ Pg.Reach (esOf p) t t := fun t ht hr => (planFault_zero.1 hf).2.2.2 ⟨t, ht, hr⟩

theorem implOrder_any (p : Plan) (ve : Value) (w : World) (hl : p.edges.length ≤ 2000000) (h : Rd edgeE w w.heap.size ve p.edges) :
    Calls Try.prog 67 #[planV p ve] w fun e w' => ∃ v, e = .returned v ∧ Ow natE 3 w' w.heap.size v (orderOf p) ∧ Below w.heap.size w w' := by
  have hb0 := planBox_below 26 p ve w
  have D0 := BoxAt.new 26 p ve w
  have hw0 := planBox_size 26 p ve w
  have Hw0 := Lib.hid hw0
  clear hw0
  by_cases hf : planFault p = 0
  case neg =>
    have hfb : (planFault p != 0) = true := by simp [hf]
    have H := Lib.hid (show orderOf p = [] by unfold orderOf; rw [if_neg hf])
    clear hf
    unfold planV
    go_enter Try.func67, Try.ntmps67
    go_wp2_with fail
    refine (implPlanFault_any p ve _ hl ((h.below hb0).more hb0.size)).mono ?_
    rintro e w1 ⟨rfl, hb1⟩
    go_wp2
    go_ret
    exact ⟨_, rfl, by rw [H.out]; exact Ow.nil _ _ _ _, bnext hb0 hb1⟩
  have hfb : (planFault p != 0) = false := by simp [hf]
  have G := Lib.hid (planFault_zero.1 hf)
  have HF := Lib.hid hf
  have hac := Lib.hid (plan_ac hf)
  obtain ⟨t1, t2⟩ := manyOk_tasks G.out.1
  obtain ⟨T, hT⟩ := Int.eq_ofNat_of_zero_le (show 0 ≤ p.tasks by omega)
  have HT := Lib.hid hT
  have HTn := Lib.hid (show p.tasks.toNat = T by omega)
  have hT12 : T ≤ 12 := by omega
  have H := Lib.hid (show orderOf p = orderL (esOf p) T T by unfold orderOf; rw [if_pos hf, HTn.out])
  have he1 := Lib.hid (show ∀ e ∈ esOf p, e.1 < T by have := (esOf_lt G.out.2.1).1; rw [HTn.out] at this; exact this)
  have hac' := Lib.hid (show ∀ t, t < T → ¬ Pg.Reach (esOf p) t t by have := hac.out; rw [HTn.out] at this; exact this)
  clear hf hT hac
  obtain ⟨j0, hj0, jz0, jz1, jz2⟩ := info_parts int_info
  unfold planV
  go_enter Try.func67, Try.ntmps67
  go_wp2_with fail
  refine (implPlanFault_any p ve _ hl ((h.below hb0).more hb0.size)).mono ?_
  rintro e w1 ⟨rfl, hb1⟩
  have D := D0.below hb1
  have hb := bnext hb0 hb1
  go_wp2
  clear D0 hb1
  go_loopw [3] (fun vl wr => ∃ n : Nat, n ≤ T ∧ Ow natE 3 wr (w.heap.size + 1) vl (orderL (esOf p) T n) ∧ BoxAt w.heap.size p ve wr ∧ Below w.heap.size w wr) (fun vl _ => T - slen vl)
  case atStart => exact ⟨0, Nat.zero_le _, Ow.nil _ _ _ _, D, hb⟩
  case round =>
    clear D hb
    obtain ⟨n, hn, ho, D, hb⟩ := hrel
    have hinv := Lib.hid (orderL_inv he1.out hac'.out n hn)
    obtain ⟨A, c, rfl, -⟩ := id (Rd.of_own ho)
    have hlen : (orderL (esOf p) T n).length = n := hinv.out.len
    rw [hlen] at ho ⊢
    obtain ⟨x0, x1, x2, x3, x4, xs⟩ := D.cells
    have hlen2 : (orderL (esOf p) T n).length ≤ 2000000 := by omega
    have HL := Lib.hid hlen
    have HL2 := Lib.hid hlen2
    clear hlen hlen2
    by_cases hlt : n < T
    · have hltI : (n : Int) < p.tasks := by rw [HT.out]; omega
      obtain ⟨wo, rfl⟩ : ∃ wo : World, wo = wr := ⟨_, rfl⟩
      go_wp2
      clear x0 x1 x2 x3 x4 xs
      go_loopw [3, 4] (fun vl i wr => ∃ k : Nat, k ≤ T ∧ vl = .slice A n c ∧ i = .int .i64 k ∧ Hid (∀ s, s < k → mayCome (esOf p) (orderL (esOf p) T n) s = false) ∧ Ow natE 3 wr (w.heap.size + 1) (.slice A n c) (orderL (esOf p) T n) ∧ BoxAt w.heap.size p ve wr ∧ Below w.heap.size w wr) (fun _ i _ => T - (intOf i).toNat)
      case atStart => exact ⟨0, Nat.zero_le _, rfl, rfl, fun s hs => absurd hs (by omega), ho, D, hb⟩
      case round =>
        clear ho D hb
        obtain ⟨k, hk, rfl, rfl, hno, ho, D, hb⟩ := hrel
        obtain ⟨x0, x1, x2, x3, x4, xs⟩ := D.cells
        by_cases hkt : k < T
        · have hktI : (k : Int) < p.tasks := by rw [HT.out]; omega
          have hmc := Lib.hid (mayCome_before (out := orderL (esOf p) T n) (t := k) he1.out)
          have hnext : mayCome (esOf p) (orderL (esOf p) T n) k = false → Hid (∀ s, s < k + 1 → mayCome (esOf p) (orderL (esOf p) T n) s = false) := fun hm s hs => by
            by_cases e : s = k
            · subst e; exact hm
            · exact hno.out s (by omega)
          cases hin : decide (k ∈ orderL (esOf p) T n)
          · have Hin := Lib.hid hin
            clear hin
            go_wp2_with fail
            refine (containsInt_any (.slice A n c) (orderL (esOf p) T n) k _ _ HL2.out (Rd.of_own ho)).mono ?_
            rintro e w2 ⟨rfl, rfl⟩
            rw [Hin.out]
            go_wp2_with fail
            refine (implBefore_any p ve k _ HF.out ((h.below hb).more hb.size)).mono ?_
            rintro e w3 ⟨v3, rfl, o3, b3⟩
            rw [HTn.out] at o3
            have ho := ho.below b3
            have D := D.below b3
            have hb := bnext hb b3
            clear x0 x1 x2 x3 x4 xs
            go_wp2_with fail
            refine (allIn_any v3 (beforeL (esOf p) T k) (.slice A n c) (orderL (esOf p) T n) _ HL2.out (by have := beforeL_len (esOf p) T k; omega) (Rd.of_own o3) (Rd.of_own ho)).mono ?_
            rintro e w4 ⟨rfl, b4⟩
            have ho := ho.below b4
            have D := D.below b4
            have hb := bnext hb b4
            cases hall : decide (∀ x ∈ beforeL (esOf p) T k, x ∈ orderL (esOf p) T n)
            · have S := hnext (by rw [hmc.out, hall]; simp)
              clear hnext
              go_wp2
              exact ⟨⟨k + 1, by omega, rfl, by go_num, S, ho, D, hb⟩, by simp [intOf]; omega⟩
            · have S := Lib.hid (orderL_succ (pickT_first hkt (show mayCome (esOf p) (orderL (esOf p) T n) k = true by rw [hmc.out, hall, Hin.out]; rfl) hno.out))
              have ha : Hid (∀ w : World, Below w.heap.size w (w.alloc (.cells #[.int .i64 (k : Int)] 3))) := fun w => (Below.refl _ _).alloc (Nat.le_refl _) _
              clear hnext
              go_wp2_with (at_builtin; refine wpList_push_all _ natE (by decide) rfl (.tmp 30) (.tmp 32) rfl Try.underlying27 hj0 jz0 jz1 jz2 rfl (l := orderL (esOf p) T n) rfl (ho.below (ha.out w4)) rfl (Rd.one natE _ _ k rfl rfl 1 (Nat.le_refl _) (Nat.lt_succ_self _)) (by have := HL2.out; omega) (by simp) (by decide) (by have := D.lt; simp; omega) ?_; intro v5 w5 o5 g5 _; obtain ⟨A5, c5, rfl, -⟩ := id (Rd.of_own o5))
              have D5 := (D.below (ha.out w4)).far g5 (fun e => by have := ho.within _ e.symm; omega)
              have hb' := bnext hb (ha.out w4)
              have W5 := hb'.grown g5 hb'.size (fun g hg => by have := ho.within _ hg; omega)
              have hlen5 : (orderL (esOf p) T n ++ [k]).length = n + 1 := by rw [List.length_append, HL.out]; rfl
              refine ⟨⟨n + 1, by omega, ?_, D5, W5⟩, ?_⟩
              · rw [S.out]
                simpa using o5
              · simp only [slen]
                have := HL.out
                first | omega | (simp; omega)
          · have Hin := Lib.hid hin
            have S := hnext (by rw [hmc.out, hin]; rfl)
            clear hin hnext
            go_wp2_with fail
            refine (containsInt_any (.slice A n c) (orderL (esOf p) T n) k _ _ HL2.out (Rd.of_own ho)).mono ?_
            rintro e w2 ⟨rfl, rfl⟩
            rw [Hin.out]
            go_wp2
            exact ⟨⟨k + 1, by omega, rfl, by go_num, S, ho, D, hb⟩, by simp [intOf]; omega⟩
        · exfalso
          obtain ⟨t, _, ht, hm⟩ := pick_some he1.out hac'.out (exists_out (T := T) (o := orderL (esOf p) T n) (by rw [HL.out]; exact hlt))
          rw [hno.out t (by omega)] at hm
          cases hm
    · have hltI : ¬ (n : Int) < p.tasks := by rw [HT.out]; omega
      have hn' : n = T := by omega
      subst hn'
      go_wp2
      go_ret
      refine ⟨_, rfl, ?_, hb⟩
      rw [H.out]
      exact ho.more (by omega)
end Go.Proofs.Ytnaicippgocdfaa
end
