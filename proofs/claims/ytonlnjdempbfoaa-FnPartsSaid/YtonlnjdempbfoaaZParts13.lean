/-
  Notes are drawn (l17Notes, DrawNotes). Places are drawn (DrawPlaces): twelve numbers below 10000. The small helpers of the laws: deeds and notes that are the same. Notes are drawn (DrawNotes). Drawn notes: how they are numbered, and how much there is of them. Plain. The law FnParts: its walk, out of the contracts of what it calls.
-/
import Derived.Test.YtonlnjdempbfoaaZParts12
section
namespace Go.Proofs.Ytonlnjdempbfoaa
open Go.RowKit
set_option maxRecDepth 100000
set_option maxHeartbeats 4000000
set_option linter.unusedVariables false
set_option linter.unusedSimpArgs false
/-- deeds with their numbers, from one on -/
def notesL (fr : Int) : List Deed → List Note
 | [] => []
 | d :: l => ⟨fr, d⟩ :: notesL (fr + 1) l
/-- deeds with their slices, numbered -/
def notesP (fr : Int) : List (Deed × Sl) → List (Note × Sl)
 | [] => []
 | d :: l => (⟨fr, d.1⟩, d.2) :: notesP (fr + 1) l
theorem notesP_snoc : ∀ (fr : Int) (l : List (Deed × Sl)) (d : Deed × Sl), notesP fr (l ++ [d]) = notesP fr l ++ [(⟨fr + l.length, d.1⟩, d.2)]
 | fr, [], d => by simp [notesP]
 | fr, x :: l, d => by
  rw [List.cons_append, notesP, notesP, notesP_snoc (fr + 1) l d, List.cons_append, List.length_cons, show fr + 1 + (l.length : Int) = fr + ((l.length + 1 : Nat) : Int) by push_cast; omega]
theorem notesP_len : ∀ (fr : Int) (l : List (Deed × Sl)), (notesP fr l).length = l.length
 | _, [] => rfl
 | fr, d :: l => by rw [notesP, List.length_cons, List.length_cons, notesP_len (fr + 1) l]
theorem notesP_map : ∀ (fr : Int) (l : List (Deed × Sl)), (notesP fr l).map (·.1) = notesL fr (l.map (·.1))
 | _, [] => rfl
 | fr, d :: l => by rw [notesP, List.map_cons, List.map_cons, notesL, notesP_map (fr + 1) l]
theorem notesP_mem : ∀ (fr : Int) (l : List (Deed × Sl)) {r : Note × Sl}, r ∈ notesP fr l → ∃ d ∈ l, r.1.deed = d.1 ∧ r.2 = d.2
 | _, [], _, h => by cases h
 | fr, d :: l, r, h => by
  rw [notesP] at h
  rcases List.mem_cons.1 h with h | h
  ·subst h; exact ⟨d, List.mem_cons_self .., rfl, rfl⟩
  ·obtain ⟨e, he, h1⟩ := notesP_mem (fr + 1) l h
   exact ⟨e, List.mem_cons_of_mem _ he, h1⟩
theorem notesL_len : ∀ (fr : Int) (l : List Deed), (notesL fr l).length = l.length
 | _, [] => rfl
 | fr, d :: l => by rw [notesL, List.length_cons, List.length_cons, notesL_len (fr + 1) l]
noncomputable def curNotes (code : List UInt8) (c : Cur) : List Note × Cur :=
 let m := curBelow code 9 c
 let d := deedsN code m.2 m.1.toNat
 let f := curBelow code 200 d.2
 (notesL (1 + f.1) d.1.1, f.2)
def NotesP (b : Nat) (v : Value) (code : List UInt8) (r : List Note × Cur) (w : World) (e : Ending) (w' : World) : Prop :=
 ∃ (l : Sl), e = .returned (.slice l.a l.n l.c) ∧ RdL noteD w' w'.heap.size l.v r.1 ∧ Drw b v code r.2 w' ∧ Chg [b] w w'
theorem notes_any (b : Nat) (v : Value) (code : List UInt8) (c : Cur) (w : World) (h : Drw b v code c w) :
  Calls Try.prog 17 #[.pointer (some ⟨b, 0, none⟩)] w (NotesP b v code (curNotes code c) w) := by
 have hb := h.box.lt
 obtain ⟨i0, hi0, hz0, hz1, hz2⟩ := info_parts note_infoD
 have bm := curBelow_bd code (n := 9) c (by decide)
 obtain ⟨mn, hmn⟩ : ∃ mn : Nat, (curBelow code 9 c).1 = mn := ⟨(curBelow code 9 c).1.toNat, by omega⟩
 have hmn8 : mn ≤ 8 := by omega
 have H : Hid (curNotes code c = (notesL (1 + (curBelow code 200 (deedsN code (curBelow code 9 c).2 mn).2).1) (deedsN code (curBelow code 9 c).2 mn).1.1, (curBelow code 200 (deedsN code (curBelow code 9 c).2 mn).2).2)) := by
  show curNotes code c = _
  unfold curNotes
  dsimp only
  rw [hmn, Int.toNat_natCast]
 have CB := Lib.hid (below_any 9 b _ code c w (by decide) h)
 rw [hmn] at CB
 clear bm hmn
 generalize (curBelow code 9 c).2 = c1 at *
 go_enter Try.func17, Try.ntmps17
 go_wp2_with fail
 refine CB.out.mono ?_
 rintro e1 w1 ⟨rfl, h1, cc1⟩
 clear CB h
 go_wp2_with fail
 refine (deeds_any b _ code c1 mn w1 (by omega) h1).mono ?_
 rintro e2 w2 ⟨⟨la, ln, lc⟩, F1, sy, F2, rfl, ol, nl, oy, ny, h2, cc2⟩
 have hlen := deedsN_len code c1 mn
 generalize deedsN code c1 mn = p at *
 obtain ⟨⟨L, Y⟩, cu⟩ := p
 dsimp only at hlen ol oy h2
 replace ol : OwL deedD w2 F1 (.slice la ln lc) L := ol
 have hln : ln = L.length := RdL.at1 (s := ⟨la, ln, lc⟩) ol.rd
 subst hln
 replace hlen := Lib.hid hlen
 have hL8 := Lib.hid (show L.length ≤ 8 by have := hlen.out; omega)
 have bf := curBelow_bd code (n := 200) cu (by decide)
 clear oy ny
 go_upto_region 2 with fail
 have b3 : Below w2.heap.size w2 (w2.alloc (.cells #[.int .i64 Y.now, .int .i64 Y.seq, .slice sy.1.a sy.1.n sy.1.c, .slice sy.2.a sy.2.n sy.2.c] 61)) := (Below.refl _ _).alloc (Nat.le_refl _) _
 replace h2 := h2.below b3
 replace ol := ol.below b3
 have hC := (cc1.trans cc2).trans (Chg.of_below [b] b3)
 have hs3 := hC.size
 have hc1s := cc1.size
 have holt := Lib.hid ol.lt
 have hnl := Lib.hid (fun x (hx : x ∈ F1) => Nat.le_trans hc1s (nl x hx))
 clear b3 cc1 cc2 nl h1
 generalize w2.alloc (.cells #[.int .i64 Y.now, .int .i64 Y.seq, .slice sy.1.a sy.1.n sy.1.c, .slice sy.2.a sy.2.n sy.2.c] 61) = w3 at *
 have b4 : Below w3.heap.size w3 (w3.alloc (.cells #[] 39)) := (Below.refl _ _).alloc (Nat.le_refl _) _
 go_upto_region 3 with fail
 have o0 := Ow.empty noteD.enc 39 w3 rfl
 replace h2 := h2.below b4
 replace ol := ol.below b4
 replace hC := hC.trans (Chg.of_below [b] b4)
 have hs4 := b4.size
 clear b4
 have wr1 : IntKind.i64.wrap (1 + (curBelow code 200 cu).1) = 1 + (curBelow code 200 cu).1 := IntWalk.i64_in _ (by omega)
 have hfr : 1 ≤ 1 + (curBelow code 200 cu).1 ∧ 1 + (curBelow code 200 cu).1 ≤ 1000 := by omega
 clear bf
 generalize w3.alloc (.cells #[] 39) = w4 at *
 go_wp2_with fail
 refine (below_any 200 b _ code cu w4 (by decide) h2).mono ?_
 rintro e5 w5 ⟨rfl, h5, cc5⟩
 have o5 := o0.grown cc5.grow (.inr (fun e => by have h6 := Option.some.inj (show some w3.heap.size = some b from e); omega))
 have hF1 : ∀ x ∈ F1, x ∉ [b] := fun x hx hx2 => by (have h6 : x = b := List.mem_singleton.1 hx2); (have h7 := hnl.out x hx); omega
 have ol5 := ol.chg cc5 hF1
 replace hC := hC.trans cc5
 have hs5 := cc5.size
 clear ol o0 h2 cc5
 obtain ⟨ds, Hh, G, hmd, hh, hG, hFG, hnd⟩ := ol5
 have hdl : ds.length = L.length := by rw [← hmd, List.length_map]
 have hlt3 : ∀ x ∈ Hh ++ G, x < w3.heap.size := fun x hx => holt.out x (by rw [hFG]; exact hx)
 replace hlt3 := Lib.hid hlt3
 generalize (curBelow code 200 cu).2 = c9 at *
 go_wp2
 generalize hfrE : 1 + (curBelow code 200 cu).1 = fr at *
 rw [← hdl] at hh
 replace hdl := Lib.hid hdl
 clear hfrE wr1
 have hg0 := hdl.out
 go_loopw [5, 7] (fun lv iv wr => ∃ (k : Nat) (vl : Value), k ≤ ds.length ∧ iv = .int .i64 k ∧ vl = lv ∧ Hid (Ow noteD.enc 39 wr w3.heap.size vl (notesP fr (ds.take k))) ∧ Hid (Hw deedD.enc wr Hh (.slice la ds.length lc) ds) ∧ Hid (Ows deedD wr G ds) ∧ Drw b v code c9 wr ∧ Chg [b] w wr ∧ w5.heap.size ≤ wr.heap.size) (fun _ i _ => L.length - (intOf i).toNat)
 case atStart => exact ⟨0, _, Nat.zero_le _, rfl, rfl, o5, hh, hG, h5, hC, Nat.le_refl _⟩
 case round =>
  clear o5 hh hG h5 hC
  obtain ⟨k, vl, hk, rfl, rfl, ho, hh, hG, h5, hC, hw5⟩ := hrel
  have hl8 := hL8.out
  by_cases hlt : k < ds.length
  ·have hltI : (k : Int) < (L.length : Int) := by omega
   have hk0 : (0 : Int) ≤ (k : Int) := by omega
   obtain ⟨A1_, c1_, hv1, _, hA⟩ := hh.out.rd
   simp only [Value.slice.injEq] at hv1
   obtain ⟨rfl, _, rfl⟩ := hv1
   obtain ⟨b9, o9, rfl, hb9, hcell⟩ := hA (by omega)
   have d0 : wr.cell? ⟨b9, o9 + k * 11, none⟩ = some (.int .i64 ds[k].1.kind) := hcell k hlt 0 _ rfl
   have d1 : wr.cell? ⟨b9, o9 + k * 11 + 1, none⟩ = some (.int .i64 ds[k].1.run) := hcell k hlt 1 _ rfl
   have d2 : wr.cell? ⟨b9, o9 + k * 11 + 2, none⟩ = some (.int .i64 ds[k].1.plan.prio) := hcell k hlt 2 _ rfl
   have d3 : wr.cell? ⟨b9, o9 + k * 11 + 3, none⟩ = some (.int .i64 ds[k].1.plan.most) := hcell k hlt 3 _ rfl
   have d4 : wr.cell? ⟨b9, o9 + k * 11 + 4, none⟩ = some (.int .i64 ds[k].1.plan.wait) := hcell k hlt 4 _ rfl
   have d5 : wr.cell? ⟨b9, o9 + k * 11 + 5, none⟩ = some (.int .i64 ds[k].1.plan.tasks) := hcell k hlt 5 _ rfl
   have d6 : wr.cell? ⟨b9, o9 + k * 11 + 6, none⟩ = some (.slice ds[k].2.a ds[k].2.n ds[k].2.c) := hcell k hlt 6 _ rfl
   have d7 : wr.cell? ⟨b9, o9 + k * 11 + 7, none⟩ = some (.int .i64 ds[k].1.task) := hcell k hlt 7 _ rfl
   have d8 : wr.cell? ⟨b9, o9 + k * 11 + 8, none⟩ = some (.int .i64 ds[k].1.try_) := hcell k hlt 8 _ rfl
   have d9 : wr.cell? ⟨b9, o9 + k * 11 + 9, none⟩ = some (.int .i64 ds[k].1.worker) := hcell k hlt 9 _ rfl
   have d10 : wr.cell? ⟨b9, o9 + k * 11 + 10, none⟩ = some (.int .i64 ds[k].1.draw) := hcell k hlt 10 _ rfl
   clear hcell hA
   have hS : Hid (notesP fr (ds.take (k + 1)) = notesP fr (ds.take k) ++ [(⟨fr + k, ds[k].1⟩, ds[k].2)]) := by
    show notesP fr (ds.take (k + 1)) = _
    rw [take_snoc ds k hlt, notesP_snoc, List.length_take, Nat.min_eq_left (Nat.le_of_lt hlt)]
   have wr2 : IntKind.i64.wrap (fr + (k : Int)) = fr + (k : Int) := IntWalk.i64_in _ (by omega)
   have hrl := Lib.hid (show (notesP fr (ds.take k)).length ≤ 3000000 by rw [notesP_len, List.length_take]; omega)
   generalize ds[k] = d at *
   obtain ⟨A7, c7, hv7, -⟩ := _root_.id (Rd.of_own ho.out)
   generalize hn7 : (notesP fr (ds.take k)).length = n7 at hv7
   subst hv7
   replace hn7 := Lib.hid hn7
   have ha := Lib.hid (show ∀ w : World, Below w.heap.size w (w.alloc (.cells #[.int .i64 (fr + (k : Int)), .int .i64 d.1.kind, .int .i64 d.1.run, .int .i64 d.1.plan.prio, .int .i64 d.1.plan.most, .int .i64 d.1.plan.wait, .int .i64 d.1.plan.tasks, .slice d.2.a d.2.n d.2.c, .int .i64 d.1.task, .int .i64 d.1.try_, .int .i64 d.1.worker, .int .i64 d.1.draw] 39)) from fun w => (Below.refl _ _).alloc (Nat.le_refl _) _)
   have hrow := Lib.hid (show ∀ x, (Value.slice A7 n7 c7).ownBlock = some x → w3.heap.size ≤ x from fun x hx => (ho.out.within x hx).1)
   go_wp2_with (at_builtin; refine wpList_push_all _ noteD.enc (by decide) rfl (.tmp 25) (.tmp 34) rfl Try.underlying24 hi0 hz0 hz1 hz2 rfl (base := w3.heap.size) (v := .slice A7 n7 c7) (l := notesP fr (ds.take k)) rfl (ho.out.below (ha.out wr)) rfl (Rd.one noteD.enc _ _ ((⟨fr + k, d.1⟩ : Note), d.2) rfl rfl 1 (Nat.le_refl _) (Nat.lt_succ_self _)) hrl.out (by simp) (by decide) (by simp; omega) ?_; intro v6 w6 o6 g6 f6)
   have g6s := g6.size
   simp only [World.size_alloc] at g6s
   have cg := Chg.grown (F := ((Value.slice A7 n7 c7).ownBlock).toList) g6 (fun g hg => by rw [hg]; simp)
   have hkp : ∀ z, z < w3.heap.size → w6.heap[z]? = wr.heap[z]? := fun z hz => (g6.block z (by simp; omega) (fun e => by have := hrow.out z e.symm; omega)).trans ((ha.out wr).block z (by omega))
   have h6 := (h5.below (ha.out wr)).chg cg (fun x hx => by have := hrow.out x (by simpa using hx); omega)
   have hC6 := (hC.trans (Chg.of_below [b] (ha.out wr))).moreL cg (fun x hx => by have := hrow.out x (by simpa using hx); omega)
   have hh6 := hh.out.keep (by omega) (fun z hz => hkp z (hlt3.out z (List.mem_append_left _ hz)))
   have hG6 := hG.out.keep (by omega) (fun z hz => hkp z (hlt3.out z (List.mem_append_right _ hz)))
   exact ⟨⟨k + 1, v6, by omega, by go_num, rfl, by rw [hS.out]; exact o6, hh6, hG6, h6, hC6, by omega⟩, by simp [intOf]; omega⟩
  ·have hltI : ¬ (k : Int) < (L.length : Int) := by omega
   obtain rfl : k = ds.length := by omega
   have ho1 := ho.out
   rw [List.take_length] at ho1
   obtain ⟨A7, c7, hv7, -⟩ := _root_.id (Rd.of_own ho1)
   subst hv7
   have hfin : RdL noteD wr wr.heap.size (.slice A7 (notesP fr ds).length c7) (notesL fr L) := ⟨notesP fr ds, by rw [notesP_map, hmd], Rd.of_own ho1, fun r hr => by
    obtain ⟨d, hd, e1, e2⟩ := notesP_mem fr ds hr
    have := hG.out.rd d hd
    show planD.rd wr wr.heap.size r.1.deed.plan r.2
    rw [e1, e2]
    exact this⟩
   clear ho ho1
   go_wp2
   go_ret
   exact ⟨⟨A7, _, c7⟩, rfl, by rw [H.out]; exact hfin, by rw [H.out]; exact h5, hC⟩
end Go.Proofs.Ytonlnjdempbfoaa
end
section
namespace Go.Proofs.Ytonlnjdempbfoaa
open Go.RowKit
set_option maxRecDepth 100000
set_option maxHeartbeats 2000000
set_option linter.unusedVariables false
set_option linter.unusedSimpArgs false
def PlacesP (w : World) (e : Ending) (w' : World) : Prop := ∃ u l, e = .returned u ∧ Ow intE 3 w' w.heap.size u l ∧ (l.length = 12 ∧ ∀ x ∈ l, 0 ≤ x ∧ x < 10000) ∧ Below w.heap.size w w'
theorem drawPlaces_any (v : Value) (code : List UInt8) (w : World) (hs : code.length ≤ 1048576) (h : Rd byteE w w.heap.size v code) :
  Calls Try.prog 6 #[v] w (PlacesP w) := by
 obtain ⟨A, cap, rfl, -⟩ := _root_.id h
 obtain ⟨j0, hj0, jz0, jz1, jz2⟩ := info_parts int_infoK
 go_enter Try.func6, Try.ntmps6
 go_wp2_with fail
 refine (new_any _ code w hs h).mono ?_
 rintro e1 w1 ⟨_, rfl, rfl, h1, b1⟩
 go_wp2_with fail
 refine (byte_any w.heap.size _ code (curNew code) w1 h1).mono ?_
 rintro e2 w2 ⟨rfl, h2, c2⟩
 have b2 : Below w.heap.size w w2 := b1.trans (c2.below b1.size (fun x hx => by (have h6 : x = w.heap.size := List.mem_singleton.1 hx); omega))
 have hl2 := h2.box.lt
 clear h h1 b1 c2
 generalize (curByte code (curNew code)).2 = cu at *
 go_upto_region 4 with fail
 have o0 := Ow.empty intE 3 w2 rfl
 have bb : Below w2.heap.size w2 (w2.alloc (.cells #[] 3)) := (Below.refl _ _).alloc (Nat.le_refl _) _
 replace h2 := h2.below bb
 replace b2 := bnext b2 bb
 replace o0 := o0.more (base' := w.heap.size + 1) (by omega)
 have hs2 := bb.size
 clear bb
 generalize w2.heap.size = g at *
 generalize w2.alloc (.cells #[] 3) = w3 at *
 go_wp2
 go_loopw [4, 5] (fun u i wr => ∃ (k : Nat) (l : List Int) (c : Cur) (vl : Value), k ≤ 12 ∧ vl = u ∧ i = .int .i64 k ∧ Hid (l.length = k) ∧ Hid (∀ x ∈ l, 0 ≤ x ∧ x < 10000) ∧ Hid (Ow intE 3 wr (w.heap.size + 1) vl l) ∧ Drw w.heap.size (.slice A code.length cap) code c wr ∧ Below w.heap.size w wr) (fun _ i _ => 12 - (intOf i).toNat)
 case atStart => exact ⟨0, [], cu, _, Nat.zero_le _, rfl, rfl, rfl, fun x hx => (by cases hx), o0, h2, b2⟩
 case round =>
  clear o0 h2 b2 hs2 hl2
  obtain ⟨k, l, c, vl, hk, rfl, rfl, hlen, hall, ho, hd, hb⟩ := hrel
  by_cases hlt : k < 12
  ·have hltI : (k : Int) < 12 := by omega
   have hbs := hb.size
   have hdl := hd.box.lt
   have B := curBelow_bd code (n := 10000) c (by decide)
   obtain ⟨A7, c7, hv7, -⟩ := _root_.id (Rd.of_own ho.out)
   have hln := hlen.out
   subst hv7
   have hrl : Hid (l.length ≤ 3000000) := by show _ ≤ _; omega
   have hrow := Lib.hid (show ∀ x, (Value.slice A7 l.length c7).ownBlock = some x → w.heap.size + 1 ≤ x from fun x hx => (ho.out.within x hx).1)
   clear hln
   go_wp2_with fail
   refine (below_any 10000 w.heap.size _ code c wr (by decide) hd).mono ?_
   rintro e3 w3 ⟨rfl, h3, c3⟩
   have o3 := ho.out.grown c3.grow (.inr (fun e => by (have h6 := hrow.out w.heap.size e); omega))
   have b3 : Below w.heap.size w w3 := hb.trans (c3.below hb.size (fun x hx => by (have h6 : x = w.heap.size := List.mem_singleton.1 hx); omega))
   have hs3 := c3.size
   clear c3 hd hb ho
   generalize (curBelow code 10000 c).1 = x at *
   generalize (curBelow code 10000 c).2 = c' at *
   have ha : Below w3.heap.size w3 (w3.alloc (.cells #[.int .i64 x] 3)) := (Below.refl _ _).alloc (Nat.le_refl _) _
   have hS1 : Hid ((l ++ [x]).length = k + 1) := by show _ = _; rw [List.length_append, hlen.out]; rfl
   have hS2 : Hid (∀ y ∈ l ++ [x], 0 ≤ y ∧ y < 10000) := by
    intro y hy
    rcases List.mem_append.1 hy with hy | hy
    ·exact hall.out y hy
    ·obtain rfl : y = x := List.mem_singleton.1 hy
     exact B
   clear B
   go_wp2_with (at_builtin; refine wpList_push_all _ intE (by decide) rfl (.tmp 15) (.tmp 18) rfl Try.underlying26 hj0 jz0 jz1 jz2 rfl (base := w.heap.size + 1) (v := .slice A7 l.length c7) (l := l) rfl (o3.below ha) rfl (Rd.one intE _ _ x rfl rfl 1 (Nat.le_refl _) (Nat.lt_succ_self _)) hrl.out (by simp) (by decide) (by simp; omega) ?_; intro v5 w5 o5 g5 _)
   have h5 : Drw w.heap.size (.slice A code.length cap) code c' w5 := (h3.below ha).chg (Chg.grown (F := ((Value.slice A7 l.length c7).ownBlock).toList) g5 (fun g hg => by rw [hg]; simp)) (fun y hy => by have := hrow.out y (by simpa using hy); omega)
   have b5 : Below w.heap.size w w5 := (bnext b3 ha).grown g5 (bnext b3 ha).size (fun g hg => by have := hrow.out g hg; omega)
   exact ⟨⟨k + 1, l ++ [x], c', v5, by omega, rfl, by go_num, hS1, hS2, o5, h5, b5⟩, by simp [intOf]; omega⟩
  ·have hltI : ¬ (k : Int) < 12 := by omega
   have hF : PlacesP w (.returned vl) wr := ⟨vl, l, rfl, ho.out.more (by omega), ⟨by rw [hlen.out]; omega, hall.out⟩, hb⟩
   have HF := Lib.hid hF
   clear hF
   go_wp2
   go_ret
   exact HF.out
end Go.Proofs.Ytonlnjdempbfoaa
end
section
namespace Go.Proofs.Ytonlnjdempbfoaa
open Go.RowKit
set_option maxRecDepth 100000
set_option maxHeartbeats 2000000
set_option linter.unusedVariables false
set_option linter.unusedSimpArgs false
theorem sameDeed_same (x : Deed) (s r : Sl) (w : World) (hl : x.plan.edges.length ≤ 2000000) (h : deedD.rd w w.heap.size x s) (h' : deedD.rd w w.heap.size x r) :
  Calls Try.prog 33 #[deedW x s, deedW x r] w fun e w' => e = .returned (.bool true) ∧ Below w.heap.size w w' := by
 obtain ⟨A, n, c⟩ := s
 obtain ⟨A', n', c'⟩ := r
 have X := (DBox.new 37 [.int .i64 x.kind, .int .i64 x.run, .int .i64 x.plan.prio, .int .i64 x.plan.most, .int .i64 x.plan.wait, .int .i64 x.plan.tasks, .slice A n c, .int .i64 x.task, .int .i64 x.try_, .int .i64 x.worker, .int .i64 x.draw] w (b := w.heap.size) rfl).below ((Below.refl _ _).alloc (Nat.le_refl _) (.cells #[.int .i64 x.kind, .int .i64 x.run, .int .i64 x.plan.prio, .int .i64 x.plan.most, .int .i64 x.plan.wait, .int .i64 x.plan.tasks, .slice A' n' c', .int .i64 x.task, .int .i64 x.try_, .int .i64 x.worker, .int .i64 x.draw] 37))
 have Y := DBox.new 37 [.int .i64 x.kind, .int .i64 x.run, .int .i64 x.plan.prio, .int .i64 x.plan.most, .int .i64 x.plan.wait, .int .i64 x.plan.tasks, .slice A' n' c', .int .i64 x.task, .int .i64 x.try_, .int .i64 x.worker, .int .i64 x.draw] (w.alloc (.cells #[.int .i64 x.kind, .int .i64 x.run, .int .i64 x.plan.prio, .int .i64 x.plan.most, .int .i64 x.plan.wait, .int .i64 x.plan.tasks, .slice A n c, .int .i64 x.task, .int .i64 x.try_, .int .i64 x.worker, .int .i64 x.draw] 37)) (b := w.heap.size + 1) (by simp)
 have B0 : Below w.heap.size w ((w.alloc (.cells #[.int .i64 x.kind, .int .i64 x.run, .int .i64 x.plan.prio, .int .i64 x.plan.most, .int .i64 x.plan.wait, .int .i64 x.plan.tasks, .slice A n c, .int .i64 x.task, .int .i64 x.try_, .int .i64 x.worker, .int .i64 x.draw] 37)).alloc (.cells #[.int .i64 x.kind, .int .i64 x.run, .int .i64 x.plan.prio, .int .i64 x.plan.most, .int .i64 x.plan.wait, .int .i64 x.plan.tasks, .slice A' n' c', .int .i64 x.task, .int .i64 x.try_, .int .i64 x.worker, .int .i64 x.draw] 37)) := by repeat (first | exact Below.refl _ _ | refine Below.alloc ?_ (by simp <;> omega) _)
 have C := Lib.hid (samePlan_same x.plan (.slice A n c) (.slice A' n' c') _ hl ((edge_rd (show RdL edgeD w w.heap.size (.slice A n c) x.plan.edges from h)).below B0 |>.more B0.size) ((edge_rd (show RdL edgeD w w.heap.size (.slice A' n' c') x.plan.edges from h')).below B0 |>.more B0.size))
 go_enter Try.func33, Try.ntmps33
 go_wp2_with fail
 generalize ((w.alloc (.cells #[.int .i64 x.kind, .int .i64 x.run, .int .i64 x.plan.prio, .int .i64 x.plan.most, .int .i64 x.plan.wait, .int .i64 x.plan.tasks, .slice A n c, .int .i64 x.task, .int .i64 x.try_, .int .i64 x.worker, .int .i64 x.draw] 37)).alloc (.cells #[.int .i64 x.kind, .int .i64 x.run, .int .i64 x.plan.prio, .int .i64 x.plan.most, .int .i64 x.plan.wait, .int .i64 x.plan.tasks, .slice A' n' c', .int .i64 x.task, .int .i64 x.try_, .int .i64 x.worker, .int .i64 x.draw] 37)) = W at *
 refine C.out.mono ?_
 rintro e w1 ⟨rfl, b1⟩
 replace X := X.below b1
 replace Y := Y.below b1
 obtain ⟨X_0, X_1, X_2, X_3, X_4, X_5, X_6, X_7, X_8, X_9, X_10, X_l⟩ := X.g11
 obtain ⟨Y_0, Y_1, Y_2, Y_3, Y_4, Y_5, Y_6, Y_7, Y_8, Y_9, Y_10, Y_l⟩ := Y.g11
 go_wp2
 go_ret
 exact ⟨rfl, bnext B0 b1⟩
theorem sameNote_same (x : Note) (s r : Sl) (w : World) (hl : x.deed.plan.edges.length ≤ 2000000) (h : noteD.rd w w.heap.size x s) (h' : noteD.rd w w.heap.size x r) :
  Calls Try.prog 24 #[noteW x s, noteW x r] w fun e w' => e = .returned (.bool true) ∧ Below w.heap.size w w' := by
 obtain ⟨A, n, c⟩ := s
 obtain ⟨A', n', c'⟩ := r
 have X := (DBox.new 39 [.int .i64 x.seq, .int .i64 x.deed.kind, .int .i64 x.deed.run, .int .i64 x.deed.plan.prio, .int .i64 x.deed.plan.most, .int .i64 x.deed.plan.wait, .int .i64 x.deed.plan.tasks, .slice A n c, .int .i64 x.deed.task, .int .i64 x.deed.try_, .int .i64 x.deed.worker, .int .i64 x.deed.draw] w (b := w.heap.size) rfl).below ((Below.refl _ _).alloc (Nat.le_refl _) (.cells #[.int .i64 x.seq, .int .i64 x.deed.kind, .int .i64 x.deed.run, .int .i64 x.deed.plan.prio, .int .i64 x.deed.plan.most, .int .i64 x.deed.plan.wait, .int .i64 x.deed.plan.tasks, .slice A' n' c', .int .i64 x.deed.task, .int .i64 x.deed.try_, .int .i64 x.deed.worker, .int .i64 x.deed.draw] 39))
 have Y := DBox.new 39 [.int .i64 x.seq, .int .i64 x.deed.kind, .int .i64 x.deed.run, .int .i64 x.deed.plan.prio, .int .i64 x.deed.plan.most, .int .i64 x.deed.plan.wait, .int .i64 x.deed.plan.tasks, .slice A' n' c', .int .i64 x.deed.task, .int .i64 x.deed.try_, .int .i64 x.deed.worker, .int .i64 x.deed.draw] (w.alloc (.cells #[.int .i64 x.seq, .int .i64 x.deed.kind, .int .i64 x.deed.run, .int .i64 x.deed.plan.prio, .int .i64 x.deed.plan.most, .int .i64 x.deed.plan.wait, .int .i64 x.deed.plan.tasks, .slice A n c, .int .i64 x.deed.task, .int .i64 x.deed.try_, .int .i64 x.deed.worker, .int .i64 x.deed.draw] 39)) (b := w.heap.size + 1) (by simp)
 have B0 : Below w.heap.size w ((w.alloc (.cells #[.int .i64 x.seq, .int .i64 x.deed.kind, .int .i64 x.deed.run, .int .i64 x.deed.plan.prio, .int .i64 x.deed.plan.most, .int .i64 x.deed.plan.wait, .int .i64 x.deed.plan.tasks, .slice A n c, .int .i64 x.deed.task, .int .i64 x.deed.try_, .int .i64 x.deed.worker, .int .i64 x.deed.draw] 39)).alloc (.cells #[.int .i64 x.seq, .int .i64 x.deed.kind, .int .i64 x.deed.run, .int .i64 x.deed.plan.prio, .int .i64 x.deed.plan.most, .int .i64 x.deed.plan.wait, .int .i64 x.deed.plan.tasks, .slice A' n' c', .int .i64 x.deed.task, .int .i64 x.deed.try_, .int .i64 x.deed.worker, .int .i64 x.deed.draw] 39)) := by repeat (first | exact Below.refl _ _ | refine Below.alloc ?_ (by simp <;> omega) _)
 have C := Lib.hid (sameDeed_same x.deed ⟨A, n, c⟩ ⟨A', n', c'⟩ _ hl (deedD.rd_more (deedD.rd_below (show deedD.rd w w.heap.size x.deed ⟨A, n, c⟩ from h) B0) B0.size) (deedD.rd_more (deedD.rd_below (show deedD.rd w w.heap.size x.deed ⟨A', n', c'⟩ from h') B0) B0.size))
 go_enter Try.func24, Try.ntmps24
 go_wp2_with fail
 generalize ((w.alloc (.cells #[.int .i64 x.seq, .int .i64 x.deed.kind, .int .i64 x.deed.run, .int .i64 x.deed.plan.prio, .int .i64 x.deed.plan.most, .int .i64 x.deed.plan.wait, .int .i64 x.deed.plan.tasks, .slice A n c, .int .i64 x.deed.task, .int .i64 x.deed.try_, .int .i64 x.deed.worker, .int .i64 x.deed.draw] 39)).alloc (.cells #[.int .i64 x.seq, .int .i64 x.deed.kind, .int .i64 x.deed.run, .int .i64 x.deed.plan.prio, .int .i64 x.deed.plan.most, .int .i64 x.deed.plan.wait, .int .i64 x.deed.plan.tasks, .slice A' n' c', .int .i64 x.deed.task, .int .i64 x.deed.try_, .int .i64 x.deed.worker, .int .i64 x.deed.draw] 39)) = W at *
 refine C.out.mono ?_
 rintro e w1 ⟨rfl, b1⟩
 go_wp2
 go_ret
 exact ⟨rfl, bnext B0 b1⟩
theorem sameNotes_same (l : List Note) (s r : Sl) (w : World) (hl : cntL cntNote l ≤ 2000000) (h : RdL noteD w w.heap.size s.v l) (h' : RdL noteD w w.heap.size r.v l) :
  Calls Try.prog 9 #[.slice s.a s.n s.c, .slice r.a r.n r.c] w fun e w' => e = .returned (.bool true) ∧ Below w.heap.size w w' := by
 obtain ⟨A, n, c⟩ := s
 obtain ⟨A', n', c'⟩ := r
 obtain rfl : n = l.length := RdL.at1 (s := ⟨A, n, c⟩) h
 obtain rfl : n' = l.length := RdL.at1 (s := ⟨A', n', c'⟩) h'
 have hll : l.length ≤ 2000000 := Nat.le_trans (cntL_len _ _) hl
 have hcc := Lib.hid (show ∀ k (hk : k < l.length), l[k].deed.plan.edges.length ≤ 2000000 from fun k hk => by
  have h1 := cntL_mem (cnt := cntNote) (List.getElem_mem hk)
  have h2 : l[k].deed.plan.edges.length ≤ cntNote l[k] := cntL_len cntEdge l[k].deed.plan.edges
  omega)
 clear hl
 go_enter Try.func9, Try.ntmps9
 go_wp2
 go_loopw [5] (fun i wr => ∃ k : Nat, k ≤ l.length ∧ i = .int .i64 k ∧ Below w.heap.size w wr) (fun i _ => l.length - (intOf i).toNat)
 case atStart => exact ⟨0, Nat.zero_le _, rfl, Below.refl _ _⟩
 case round =>
  obtain ⟨k, hk, rfl, hb⟩ := hrel
  by_cases hlt : k < l.length
  ·obtain ⟨b, o, s1, rfl, hbb, hr, c0, c1, c2, c3, c4, c5, c6, c7, c8, c9, c10, c11⟩ := (h.below hb).note hlt
   obtain ⟨b', o', s2, rfl, hbb', hr', d0, d1, d2, d3, d4, d5, d6, d7, d8, d9, d10, d11⟩ := (h'.below hb).note hlt
   have i1 : (k : Int) < (l.length : Int) := by omega
   have hs := hb.size
   have hbw : b < wr.heap.size := by omega
   have hbw' : b' < wr.heap.size := by omega
   have hlc := later_cell wr
   have H1 := Lib.hid (fun W (hW : Below wr.heap.size wr W) => noteD.rd_more (noteD.rd_below (noteD.rd_more hr hb.size) hW) hW.size)
   have H2 := Lib.hid (fun W (hW : Below wr.heap.size wr W) => noteD.rd_more (noteD.rd_below (noteD.rd_more hr' hb.size) hW) hW.size)
   go_wp2
   refine wp_region_pure (by kernel_rfl) (by kernel_rfl) ?_
   repeat (go_big_quiet_step ((go_at_call 24; rename_i x; have h1 := sameNote_same l[k] s1 s2 x.1 (hcc.out k hlt) (H1.out x.1 x.2) (H2.out x.1 x.2); exact pure_of h1)))
   refine wpQuiet_nil ?_
   rintro _ ⟨⟨w1, hb1⟩, rfl⟩
   clear hlc
   go_wp2
   exact ⟨⟨k + 1, by omega, by go_num, bnext hb hb1⟩, by simp [intOf]; omega⟩
  ·have i1 : ¬ (k : Int) < (l.length : Int) := by omega
   go_wp2
   go_ret
   exact ⟨rfl, hb⟩
end Go.Proofs.Ytonlnjdempbfoaa
end
section
namespace Go.Proofs.Ytonlnjdempbfoaa
open Go.RowKit
set_option maxRecDepth 100000
set_option maxHeartbeats 400000
set_option linter.unusedVariables false
set_option linter.unusedSimpArgs false
noncomputable def drawnNotes (code : List UInt8) : List Note := (curNotes code (curNew code)).1
def NotesD (code : List UInt8) (w : World) (e : Ending) (w' : World) : Prop := ∃ (l : Sl), e = .returned (.slice l.a l.n l.c) ∧ RdL noteD w' w'.heap.size l.v (drawnNotes code) ∧ Below w.heap.size w w'
theorem drawNotes_any (v : Value) (code : List UInt8) (w : World) (hs : code.length ≤ 1048576) (h : Rd byteE w w.heap.size v code) :
  Calls Try.prog 5 #[v] w (NotesD code w) := by
 obtain ⟨A, cap, rfl, -⟩ := _root_.id h
 have hD : Hid (∀ W, Below w.heap.size w W → Rd byteE W W.heap.size (.slice A code.length cap) code) := fun W hW => (h.below hW).more hW.size
 go_enter Try.func5, Try.ntmps5
 go_wp2_with fail
 refine (new_any _ code w hs h).mono ?_
 rintro e1 w1 ⟨_, rfl, rfl, h1, b1⟩
 have CN := Lib.hid (notes_any w.heap.size _ code (curNew code) w1 h1)
 have hdn : Hid (drawnNotes code = (curNotes code (curNew code)).1) := rfl
 generalize curNotes code (curNew code) = P at *
 go_wp2_with fail
 refine CN.out.mono ?_
 rintro e2 w2 ⟨l, rfl, hr, h2, cc⟩
 have HF : Hid (NotesD code w (.returned (.slice l.a l.n l.c)) w2) := ⟨l, rfl, by rw [hdn.out]; exact hr, b1.trans (cc.below b1.size (fun x hx => by (have h6 : x = w.heap.size := List.mem_singleton.1 hx); omega))⟩
 clear hdn hr h2 cc h1 b1 CN hD h
 generalize NotesD code w = Q at *
 go_wp2
 exact HF.out
end Go.Proofs.Ytonlnjdempbfoaa
end
section
namespace Go.Proofs.Ytonlnjdempbfoaa
open Go.RowKit
set_option linter.unusedVariables false
set_option linter.unusedSimpArgs false
theorem curDeed_e30 (code : List UInt8) (y : Yard) (c : Cur) : (curDeed code y c).1.plan.edges.length ≤ 30 := by
 have h0 : noPlan.edges.length ≤ 30 := by decide
 have h1 : ∀ c, (curPlan code c).1.edges.length ≤ 30 := fun c => manyOk_edges (planFault_zero.1 (curPlan_ok code c)).1
 unfold curDeed
 simp only []
 (repeat' split) <;> first | exact h0 | exact h1 _
theorem deedsN_e30 (code : List UInt8) (c : Cur) : ∀ n, ∀ d ∈ (deedsN code c n).1.1, d.plan.edges.length ≤ 30
 | 0 => fun d hd => by cases hd
 | n + 1 => fun d hd => by
  have hd' : d ∈ (deedsN code c n).1.1 ++ [(curDeed code (deedsN code c n).1.2 (deedsN code c n).2).1] := hd
  rcases List.mem_append.1 hd' with h | h
  ·exact deedsN_e30 code c n d h
  ·rw [List.mem_singleton.1 h]
   exact curDeed_e30 code _ _
theorem notesL_numb : ∀ (fr : Int) (l : List Deed), Numb (notesL fr l) fr
 | fr, [], i, h => absurd h (by simp [notesL])
 | fr, d :: l, 0, h => by simp [notesL]
 | fr, d :: l, i + 1, h => by
  have := notesL_numb (fr + 1) l i (by simpa [notesL] using h)
  simp only [notesL, List.getElem_cons_succ]
  rw [this]
  push_cast
  omega
theorem notesL_mem : ∀ (fr : Int) (l : List Deed) {x : Note}, x ∈ notesL fr l → x.deed ∈ l
 | fr, [], x, h => by cases h
 | fr, d :: l, x, h => by
  rw [notesL] at h
  rcases List.mem_cons.1 h with h | h
  ·subst h; exact List.mem_cons_self ..
  ·exact List.mem_cons_of_mem _ (notesL_mem (fr + 1) l h)
theorem cntNote_eq (x : Note) : cntNote x = x.deed.plan.edges.length := cntL_zero (fun _ => rfl) _
/-- what is known of drawn notes -/
structure NotesK (l : List Note) : Prop where
 num : ∃ fr : Int, 1 ≤ fr ∧ fr ≤ 200 ∧ Numb l fr
 len : l.length ≤ 8
 cnt : cntL cntNote l ≤ 248
theorem drawnNotes_k (code : List UInt8) : NotesK (drawnNotes code) := by
 have b1 := curBelow_bd code (n := 9) (curNew code) (by decide)
 have b2 := fun c => curBelow_bd code (n := 200) c (by decide)
 unfold drawnNotes curNotes
 simp only []
 generalize hm : (curBelow code 9 (curNew code)).1.toNat = m at *
 have hm8 : m ≤ 8 := by omega
 generalize (curBelow code 9 (curNew code)).2 = c1 at *
 have b3 := b2 (deedsN code c1 m).2
 have hlen := deedsN_len code c1 m
 have he := deedsN_e30 code c1 m
 generalize (curBelow code 200 (deedsN code c1 m).2).1 = f at *
 generalize (deedsN code c1 m).1.1 = L at *
 have hl : (notesL (1 + f) L).length = m := by rw [notesL_len, hlen]
 refine ⟨⟨1 + f, by omega, by omega, notesL_numb _ _⟩, by omega, ?_⟩
 have h1 : cntL cntNote (notesL (1 + f) L) ≤ (notesL (1 + f) L).length * (30 + 1) := cntL_le (fun x hx => by
  rw [cntNote_eq]
  exact he _ (notesL_mem _ _ hx))
 rw [hl] at h1
 have h2 : m * (30 + 1) ≤ 8 * 31 := Nat.mul_le_mul_right _ hm8
 omega
end Go.Proofs.Ytonlnjdempbfoaa
end
section
namespace Go.Proofs.Ytonlnjdempbfoaa
open Go.RowKit
set_option maxRecDepth 100000
set_option maxHeartbeats 4000000
set_option linter.unusedVariables false
set_option linter.unusedSimpArgs false
/-- what lies in memory all along -/
structure PW (N : List Note) (P : List Int) (l1 l2 : Sl) (u : Value) (w : World) : Prop where
 r1 : RdL noteD w w.heap.size l1.v N
 r2 : RdL noteD w w.heap.size l2.v N
 rp : Rd intE w w.heap.size u P
theorem PW.below {N : List Note} {P : List Int} {l1 l2 : Sl} {u : Value} {w w' : World} (h : PW N P l1 l2 u w) (hb : Below w.heap.size w w') : PW N P l1 l2 u w' :=
 ⟨(h.r1.below hb).more hb.size, (h.r2.below hb).more hb.size, (h.rp.below hb).more hb.size⟩
theorem lawParts_walk (v : Value) (code : List UInt8) (w : World) (hm : code.length ≤ 9223372036854775807) (h : Rd byteE w w.heap.size v code) :
  Calls Try.prog 3 #[v] w fun e w' => e = .returned (.bool true) ∧ Below w.heap.size w w' := by
 by_cases hbig : (1048576 : Int) < (code.length : Int)
 ·go_enter Try.func3, Try.ntmps3
  go_wp2_with fail
  refine (big_any v code w hm h).mono ?_
  rintro e w1 ⟨rfl, rfl⟩
  go_wp2
  go_ret
  exact ⟨rfl, Below.refl _ _⟩
 have hs : code.length ≤ 1048576 := by omega
 have hbg : decide ((1048576 : Int) < (code.length : Int)) = false := by simpa using hbig
 have hD := Lib.hid (fun (W : World) (hW : Rd byteE W W.heap.size v code) => drawNotes_any v code W hs hW)
 have hP := Lib.hid (fun (W : World) (hW : Rd byteE W W.heap.size v code) => drawPlaces_any v code W hs hW)
 unfold NotesD at hD
 unfold PlacesP at hP
 have HK := Lib.hid (drawnNotes_k code)
 generalize drawnNotes code = N at *
 go_enter Try.func3, Try.ntmps3
 go_wp2_with fail
 refine (big_any v code w hm h).mono ?_
 rintro e w0 ⟨rfl, rfl⟩
 rw [hbg]
 clear hbg hbig
 go_wp2_with fail
 refine (hD.out w h).mono ?_
 rintro e w1 ⟨⟨A1, n1, c1⟩, rfl, q1, b1⟩
 have h1 := (h.below b1).more b1.size
 go_wp2_with fail
 refine (hD.out w1 h1).mono ?_
 rintro e w2 ⟨⟨A2, n2, c2⟩, rfl, q2, b2⟩
 have h2 := (h1.below b2).more b2.size
 go_wp2_with fail
 refine (hP.out w2 h2).mono ?_
 rintro e w3 ⟨u, P, rfl, oP, hPl, b3⟩
 have X : PW N P ⟨A1, n1, c1⟩ ⟨A2, n2, c2⟩ u w3 := ⟨(((q1.below b2).more b2.size).below b3).more b3.size, (q2.below b3).more b3.size, Rd.of_own oP⟩
 have B3 := bnext (bnext b1 b2) b3
 clear hD hP h h1 h2 q1 q2 oP b1 b2 b3
 obtain ⟨hP12, hPr⟩ := hPl
 have hp0 := hPr P[0] (List.getElem_mem (by omega))
 have hp1 := hPr P[1] (List.getElem_mem (by omega))
 obtain ⟨Au, cu, rfl, -⟩ := _root_.id X.rp
 rw [hP12] at X ⊢
 have hP0 : 0 < P.length := by omega
 have hP1 : 1 < P.length := by omega
 replace hP12 := Lib.hid hP12
 replace hPr := Lib.hid hPr
 obtain ⟨bp, op, rfl, hbp, e0⟩ := X.rp.int hP0
 obtain ⟨_, _, hAe, _, e1⟩ := X.rp.int hP1
 simp only [Option.some.injEq, Addr.mk.injEq, and_true] at hAe
 obtain ⟨rfl, rfl⟩ := hAe
 rw [Nat.add_zero] at e0
 obtain ⟨p0, hq0⟩ : ∃ x, P[0] = x := ⟨_, rfl⟩
 obtain ⟨p1, hq1⟩ : ∃ x, P[1] = x := ⟨_, rfl⟩
 rw [hq0] at e0 hp0
 rw [hq1] at e1 hp1
 replace hq0 := Lib.hid hq0
 replace hq1 := Lib.hid hq1
 have rA : p0.tmod 4 = p0 % 4 := Int.tmod_eq_emod_of_nonneg hp0.1
 have hm4 : 1 ≤ 1 + p0 % 4 ∧ 1 + p0 % 4 ≤ 4 := by omega
 have wA : IntKind.i64.wrap (p0 % 4) = p0 % 4 := IntWalk.i64_in _ (by omega)
 have wB : IntKind.i64.wrap (1 + p0 % 4) = 1 + p0 % 4 := IntWalk.i64_in _ (by omega)
 obtain ⟨m, hmE⟩ : ∃ m : Nat, 1 + p0 % 4 = (m : Int) := ⟨(1 + p0 % 4).toNat, by omega⟩
 have hm1 : 1 ≤ m ∧ m ≤ 4 := by omega
 obtain ⟨fr, hf1, hf2, hnum⟩ := HK.out.num
 have hlen8 := HK.out.len
 have hcut := Lib.hid (cutAll_ok (m := m) (by omega) (by omega) hnum hf1 (by omega))
 have hseg := Lib.hid (show segsOf N (1 + p0 % 4) = cutAll N m by
  unfold segsOf
  rw [hmE, Int.toNat_natCast, if_pos ⟨inB_iff.2 (by omega), by omega, hcut.out⟩])
 have hnot := Lib.hid (cutAll_notes N m (by omega))
 have hcl := Lib.hid (cutAll_len N m)
 have hcn := Lib.hid (show cntL cntSeg (cutAll N m) ≤ 2000000 by have := cutAll_cnt N m (by omega) (by omega); have := HK.out.cnt; omega)
 have hcnN : cntL cntNote N ≤ 1048576 := by have := HK.out.cnt; omega
 have hwN := Lib.hid (show ∀ x ∈ N, x.seq ≤ 9223372036854775807 from fun x hx => by
  obtain ⟨i, hi, rfl⟩ := List.getElem_of_mem hx
  rw [hnum i hi]; omega)
 have n1E : n1 = N.length := RdL.at1 (s := ⟨A1, n1, c1⟩) X.r1
 have n2E : n2 = N.length := RdL.at1 (s := ⟨A2, n2, c2⟩) X.r2
 subst n1E n2E
 replace hnum := Lib.hid hnum
 go_wp2_with fail
 rw [hmE] at hseg
 refine (implSegs_own N ⟨A1, N.length, c1⟩ (m : Int) _ hcnN X.r1).mono ?_
 rintro e w4 ⟨⟨A3, n3, c3⟩, F3, rfl, o3, nF3, b4⟩
 dsimp only [slV]
 rw [hseg.out] at o3
 replace X := X.below b4
 have B4 := bnext B3 b4
 have s3 : RdL segD w4 w4.heap.size (.slice A3 n3 c3) (cutAll N m) := OwL.rd o3
 have n3E : n3 = (cutAll N m).length := RdL.at1 (s := ⟨A3, n3, c3⟩) s3
 subst n3E
 have HFor := Lib.hid (fun q => segFor_in (m := m) (by omega) hnum.out q hcut.out)
 have HSin := Lib.hid (fun q => since_dropTo (l := N) (m := m) (by omega) q hcut.out)
 have HDl := Lib.hid (fun q (hp : 0 < (cutAll N m).length) => dropTo_len (q := q) hcut.out hp)
 clear o3 nF3 b4 B3 e0 e1
 generalize cutAll N m = S at *
 go_wp2_with fail
 refine (implSegsOk_own S ⟨A3, S.length, c3⟩ w4 hcn.out s3).mono ?_
 rintro e w5 ⟨rfl, b5⟩
 rw [hcut.out]
 replace X := X.below b5
 replace s3 := (s3.below b5).more b5.size
 have B5 := bnext B4 b5
 clear B4 b5
 go_wp2_with fail
 refine (implNotesOf_own S ⟨A3, S.length, c3⟩ w5 hcn.out s3).mono ?_
 rintro e w6 ⟨⟨A6, n6, c6⟩, F6, rfl, o6, nF6, b6⟩
 dsimp only [slV]
 rw [hnot.out] at o6
 replace X := X.below b6
 replace s3 := (s3.below b6).more b6.size
 have B6 := bnext B5 b6
 have s6 : RdL noteD w6 w6.heap.size (.slice A6 n6 c6) N := OwL.rd o6
 clear B5 b6 nF6 o6
 go_wp2_with fail
 refine (sameNotes_same N ⟨A6, n6, c6⟩ ⟨A2, N.length, c2⟩ w6 (by omega) s6 X.r2).mono ?_
 rintro e w7 ⟨rfl, b7⟩
 replace X := X.below b7
 replace s3 := (s3.below b7).more b7.size
 have B7 := bnext B6 b7
 clear B6 b7 s6
 by_cases hN : N.length = 0
 ·obtain rfl : N = [] := List.eq_nil_of_length_eq_zero hN
  have hS0 : S.length = 0 := by
   rw [hcl.out]
   exact Nat.div_eq_of_lt (by simp; omega)
  obtain rfl : S = [] := List.eq_nil_of_length_eq_zero hS0
  clear hN hS0
  go_wp2
  go_ret
  exact ⟨rfl, B7⟩
 have hN1 : 0 < N.length := by omega
 have hNe : ((N.length : Int) == 0) = false := beq_eq_false_iff_ne.2 (by omega)
 have hN2 : (0 : Int) < (N.length : Int) := by omega
 go_upto_region 11 with fail
 obtain ⟨_, _, hAe, hbp7, e1⟩ := X.rp.int hP1
 simp only [Option.some.injEq, Addr.mk.injEq, and_true] at hAe
 obtain ⟨rfl, rfl⟩ := hAe
 obtain ⟨_, _, hAe, _, e0⟩ := X.rp.int hP0
 simp only [Option.some.injEq, Addr.mk.injEq, and_true] at hAe
 obtain ⟨rfl, rfl⟩ := hAe
 rw [Nat.add_zero, hq0.out] at e0
 rw [hq1.out] at e1
 obtain ⟨b2, o2, s2', rfl, hb2, -, d0, -⟩ := X.r2.note (k := 0) hN1
 rw [Nat.zero_mul, Nat.add_zero, hnum.out 0 hN1, show fr + ((0 : Nat) : Int) = fr by omega] at d0
 have w1 : IntKind.i64.wrap (fr - 1) = fr - 1 := IntWalk.i64_in _ (by omega)
 have w2 : IntKind.i64.wrap ((N.length : Int) + 2) = (N.length : Int) + 2 := IntWalk.i64_in _ (by omega)
 have rB : p1.tmod ((N.length : Int) + 2) = p1 % ((N.length : Int) + 2) := Int.tmod_eq_emod_of_nonneg hp1.1
 have rb1 := Int.emod_nonneg p1 (show (N.length : Int) + 2 ≠ 0 by omega)
 have rb2 := Int.emod_lt_of_pos p1 (show 0 < (N.length : Int) + 2 by omega)
 have w3' : IntKind.i64.wrap (p1 % ((N.length : Int) + 2)) = p1 % ((N.length : Int) + 2) := IntWalk.i64_in _ (by omega)
 have w4' : IntKind.i64.wrap (fr - 1 + p1 % ((N.length : Int) + 2)) = fr - 1 + p1 % ((N.length : Int) + 2) := IntWalk.i64_in _ (by omega)
 have hnz : ((N.length : Int) + 2 == 0) = false := beq_eq_false_iff_ne.2 (by omega)
 have hlc := later_cell w7
 refine wp_region_pure (by kernel_rfl) (by kernel_rfl) ?_
 repeat (go_big_quiet_step (fail))
 refine wpQuiet_nil ?_
 rintro w8 ⟨⟨_, b8⟩, rfl⟩
 replace X := X.below b8
 replace s3 := (s3.below b8).more b8.size
 have B8 := bnext B7 b8
 obtain ⟨q, hq⟩ : ∃ q, fr - 1 + p1 % ((N.length : Int) + 2) = q := ⟨_, rfl⟩
 have hqb : 0 ≤ q ∧ q ≤ 300 := by omega
 rw [hq]
 clear hlc e0 e1 d0 w1 w2 rB rb1 rb2 w3' w4' hnz hq hb2 hbp7 b8 B7
 go_wp2_with fail
 refine (implDropTo_own S ⟨A3, S.length, c3⟩ q w8 hcn.out s3).mono ?_
 rintro e w9 ⟨⟨A9, n9, c9⟩, F9, rfl, o9, nF9, b9⟩
 dsimp only [slV]
 have hSl : 0 < S.length := by
  have := hcl.out
  rw [this]
  exact Nat.div_pos (by omega) (by omega)
 obtain ⟨hD1, hD2, hD3⟩ := HDl.out q hSl
 have hDn := Lib.hid (HSin.out q)
 have hDc := Lib.hid (show cntL cntSeg (dropTo S q) ≤ 2000000 from Nat.le_trans (dropTo_cnt S q) hcn.out)
 generalize dropTo S q = D at *
 have s9 : RdL segD w9 w9.heap.size (.slice A9 n9 c9) D := OwL.rd o9
 have n9E : n9 = D.length := RdL.at1 (s := ⟨A9, n9, c9⟩) s9
 subst n9E
 replace X := X.below b9
 replace s3 := (s3.below b9).more b9.size
 have B9 := bnext B8 b9
 clear B8 b9 o9 nF9
 go_wp2_with fail
 refine (implSegFor_own S ⟨A3, S.length, c3⟩ q w9 hcn.out s3).mono ?_
 rintro e w10 ⟨rfl, b10⟩
 replace X := X.below b10
 replace s3 := (s3.below b10).more b10.size
 replace s9 := (s9.below b10).more b10.size
 have B10 := bnext B9 b10
 clear B9 b10
 have hK := HFor.out q
 obtain ⟨K, hKe⟩ : ∃ K, segFor S q = K := ⟨_, rfl⟩
 rw [hKe] at hK ⊢
 replace hKe := Lib.hid hKe
 have hz10 := Lib.hid (show ∀ W, Below w10.heap.size w10 W → ∃ b o, b2 = b ∧ o2 = o ∧ b < W.heap.size ∧ W.cell? ⟨b, o, none⟩ = some (.int .i64 fr) from fun W hW => by
  obtain ⟨b, o, _, hAe, hb, -, d0, -⟩ := (X.below hW).r2.note (k := 0) hN1
  simp only [Option.some.injEq, Addr.mk.injEq, and_true] at hAe
  obtain ⟨rfl, rfl⟩ := hAe
  rw [Nat.zero_mul, Nat.add_zero, hnum.out 0 hN1, show fr + ((0 : Nat) : Int) = fr by omega] at d0
  exact ⟨_, _, rfl, rfl, hb, d0⟩)
 have hp10 := Lib.hid (show ∀ W, Below w10.heap.size w10 W → bp < W.heap.size ∧ W.cell? ⟨bp, op, none⟩ = some (.int .i64 p0) from fun W hW => by
  obtain ⟨_, _, hAe, hb, e0⟩ := (X.below hW).rp.int hP0
  simp only [Option.some.injEq, Addr.mk.injEq, and_true] at hAe
  obtain ⟨rfl, rfl⟩ := hAe
  rw [Nat.add_zero, hq0.out] at e0
  exact ⟨hb, e0⟩)
 have hDI : (1 : Int) ≤ (D.length : Int) := by omega
 have hDI2 : (D.length : Int) ≤ (S.length : Int) := by omega
 go_wp2_with fail
 refine (implSegsOk_own D ⟨A9, D.length, c9⟩ w10 hDc.out s9).mono ?_
 rintro e w11 ⟨rfl, b11⟩
 rw [hD3]
 replace s3 := (s3.below b11).more b11.size
 replace s9 := (s9.below b11).more b11.size
 clear s3
 go_wp2_with fail
 refine (implNotesOf_own D ⟨A9, D.length, c9⟩ w11 hDc.out s9).mono ?_
 rintro e w12 ⟨⟨A12, n12, c12⟩, F12, rfl, o12, nF12, b12⟩
 dsimp only [slV]
 have s12 : RdL noteD w12 w12.heap.size (.slice A12 n12 c12) (notesOf D) := OwL.rd o12
 have B12 := bnext b11 b12
 have hDm := Lib.hid (show ∀ x ∈ notesOf D, x.seq ≤ 9223372036854775807 from fun x hx => by
  unfold notesOf at hx
  obtain ⟨g, hg, hx⟩ := List.mem_flatMap.1 hx
  obtain ⟨i, hi, rfl⟩ := List.getElem_of_mem hg
  obtain ⟨j, hj, rfl⟩ := List.getElem_of_mem hx
  have h1 := (segFit_get hi ((segsOk_get hD3).2.2 i hi)).2
  have h2 := notesFit_get h1 hj
  omega)
 go_wp2_with fail
 refine (implSince_own (notesOf D) ⟨A12, n12, c12⟩ q w12 (Nat.le_trans (cnt_notesOf D) hDc.out) (by omega) hDm.out s12).mono ?_
 rintro e w13 ⟨⟨A13, n13, c13⟩, F13, rfl, o13, nF13, b13⟩
 dsimp only [slV]
 rw [hDn.out] at o13
 have s13 : RdL noteD w13 w13.heap.size (.slice A13 n13 c13) (sinceN N q) := OwL.rd o13
 have B13 := bnext B12 b13
 clear o13 s12 o12
 go_wp2_with fail
 refine (specSince_own N ⟨some ⟨b2, o2, none⟩, N.length, c2⟩ q w13 (by omega) (by omega) hwN.out (X.below B13).r2).mono ?_
 rintro e w14 ⟨⟨A14, n14, c14⟩, F14, rfl, o14, nF14, b14⟩
 dsimp only [slV]
 have s14 : RdL noteD w14 w14.heap.size (.slice A14 n14 c14) (sinceN N q) := OwL.rd o14
 have B14 := bnext B13 b14
 replace s13 := (s13.below b14).more b14.size
 clear o14
 go_wp2_with fail
 refine (sameNotes_same (sinceN N q) ⟨A13, n13, c13⟩ ⟨A14, n14, c14⟩ w14 (Nat.le_trans (since_cnt N q) (by omega)) s13 s14).mono ?_
 rintro e w15 ⟨rfl, b15⟩
 have B15 := bnext B14 b15
 obtain ⟨b, o, rfl, rfl, hb, d0⟩ := hz10.out w15 B15
 obtain ⟨hpb, e0⟩ := hp10.out w15 B15
 clear s13 s14 b15 b14 b13 b12 b11 B12 B13 B14
 have wS : IntKind.i64.wrap (fr + (N.length : Int)) = fr + (N.length : Int) := IntWalk.i64_in _ (by omega)
 have CS := Lib.hid (specSegs_own N ⟨some ⟨b2, o2, none⟩, N.length, c2⟩ (m : Int) w15 hcnN (X.below B15).r2)
 rw [hseg.out] at CS
 by_cases hin : fr ≤ q ∧ q < fr + (N.length : Int)
 ·have k0 : 0 ≤ K := hK.2 hin
  obtain ⟨i1, i2⟩ := hin
  clear hK
  go_wp2_with fail
  refine CS.out.mono ?_
  rintro e w16 ⟨⟨A16, n16, c16⟩, F16, rfl, o16, nF16, b16⟩
  dsimp only [slV]
  go_wp2_with fail
  refine (specSegFor_own S ⟨A16, n16, c16⟩ q w16 hcn.out (OwL.rd o16)).mono ?_
  rintro e w17 ⟨rfl, b17⟩
  rw [hKe.out]
  have B17 := bnext (bnext (bnext B10 B15) b16) b17
  go_wp2
  go_ret
  exact ⟨by first | rfl | (show Ending.returned (.bool (!decide (0 ≤ K))) = _; rw [decide_eq_false (by omega)]; rfl), B17⟩
 have k0 : ¬ 0 ≤ K := fun h => hin (hK.1 h)
 clear hK
 by_cases i1 : fr ≤ q
 ·have i2 : ¬ q < fr + (N.length : Int) := fun h => hin ⟨i1, h⟩
  clear hin
  go_wp2_with fail
  refine CS.out.mono ?_
  rintro e w16 ⟨⟨A16, n16, c16⟩, F16, rfl, o16, nF16, b16⟩
  dsimp only [slV]
  go_wp2_with fail
  refine (specSegFor_own S ⟨A16, n16, c16⟩ q w16 hcn.out (OwL.rd o16)).mono ?_
  rintro e w17 ⟨rfl, b17⟩
  rw [hKe.out]
  have B17 := bnext (bnext (bnext B10 B15) b16) b17
  go_wp2
  go_ret
  exact ⟨by first | rfl | (show Ending.returned (.bool (!decide (0 ≤ K))) = _; rw [decide_eq_false (by omega)]; rfl), B17⟩
 ·clear hin
  go_wp2_with fail
  refine CS.out.mono ?_
  rintro e w16 ⟨⟨A16, n16, c16⟩, F16, rfl, o16, nF16, b16⟩
  dsimp only [slV]
  go_wp2_with fail
  refine (specSegFor_own S ⟨A16, n16, c16⟩ q w16 hcn.out (OwL.rd o16)).mono ?_
  rintro e w17 ⟨rfl, b17⟩
  rw [hKe.out]
  have B17 := bnext (bnext (bnext B10 B15) b16) b17
  go_wp2
  go_ret
  exact ⟨by first | rfl | (show Ending.returned (.bool (!decide (0 ≤ K))) = _; rw [decide_eq_false (by omega)]; rfl), B17⟩
end Go.Proofs.Ytonlnjdempbfoaa
end
