/-
  copyNote of the program. Written by program (cn.py). The entries of all shelves; entries whose task stands ready; the slots that a yard takes: the program's walks and the reference's. Tasks that are right: the program's walk and the reference's; the state that a run has to have. YardNew and DeskNew of the reference and of the program. Copies of lists of notes; the notes of all parts. Written by program (cs.py). Entries whose task stands ready: the program's walk and the reference's. Tasks that are right: the reference's walk. The state that a run has to have: the reference's walk; runs that ar
-/
import Derived.Test.YtonlnjdempbfoaaZParts2
section
namespace Go.Proofs.Ytonlnjdempbfoaa
open Go.RowKit
set_option maxRecDepth 100000
set_option maxHeartbeats 1000000
set_option linter.unusedVariables false
set_option linter.unusedSimpArgs false
theorem implCopyNote_own (x : Note) (s : Sl) (w : World) (hl : cntNote x ≤ 2000000) (h : noteD.rd w w.heap.size x s) :
  Calls Try.prog 27 #[noteW x s] w (OwnPost noteD noteW x w) := by
 have hbx : ∀ W, Below w.heap.size w W → noteD.rd W W.heap.size x s := fun W hW => noteD.rd_more (noteD.rd_below h hW) hW.size
 have D0 := DBox.new 39 [.int .i64 x.seq, .int .i64 x.deed.kind, .int .i64 x.deed.run, .int .i64 x.deed.plan.prio, .int .i64 x.deed.plan.most, .int .i64 x.deed.plan.wait, .int .i64 x.deed.plan.tasks, .slice s.a s.n s.c, .int .i64 x.deed.task, .int .i64 x.deed.try_, .int .i64 x.deed.worker, .int .i64 x.deed.draw] w rfl
 have D := D0.below ((Below.refl _ _).alloc (Nat.le_refl _) (.cells #[.int .i64 (⟨0, ⟨0, 0, ⟨0, 0, 0, 0, []⟩, 0, 0, 0, 0⟩⟩ : Note).seq, .int .i64 (⟨0, ⟨0, 0, ⟨0, 0, 0, 0, []⟩, 0, 0, 0, 0⟩⟩ : Note).deed.kind, .int .i64 (⟨0, ⟨0, 0, ⟨0, 0, 0, 0, []⟩, 0, 0, 0, 0⟩⟩ : Note).deed.run, .int .i64 (⟨0, ⟨0, 0, ⟨0, 0, 0, 0, []⟩, 0, 0, 0, 0⟩⟩ : Note).deed.plan.prio, .int .i64 (⟨0, ⟨0, 0, ⟨0, 0, 0, 0, []⟩, 0, 0, 0, 0⟩⟩ : Note).deed.plan.most, .int .i64 (⟨0, ⟨0, 0, ⟨0, 0, 0, 0, []⟩, 0, 0, 0, 0⟩⟩ : Note).deed.plan.wait, .int .i64 (⟨0, ⟨0, 0, ⟨0, 0, 0, 0, []⟩, 0, 0, 0, 0⟩⟩ : Note).deed.plan.tasks, .slice (⟨none, 0, 0⟩ : Sl).a (⟨none, 0, 0⟩ : Sl).n (⟨none, 0, 0⟩ : Sl).c, .int .i64 (⟨0, ⟨0, 0, ⟨0, 0, 0, 0, []⟩, 0, 0, 0, 0⟩⟩ : Note).deed.task, .int .i64 (⟨0, ⟨0, 0, ⟨0, 0, 0, 0, []⟩, 0, 0, 0, 0⟩⟩ : Note).deed.try_, .int .i64 (⟨0, ⟨0, 0, ⟨0, 0, 0, 0, []⟩, 0, 0, 0, 0⟩⟩ : Note).deed.worker, .int .i64 (⟨0, ⟨0, 0, ⟨0, 0, 0, 0, []⟩, 0, 0, 0, 0⟩⟩ : Note).deed.draw] 39))
 go_enter Try.func27, Try.ntmps27
 go_wp2_with fail
 generalize hW1 : (w.alloc _).alloc _ = w1
 have B1 : Below w.heap.size w w1 := by rw [← hW1]; repeat (first | exact Below.refl _ _ | refine Below.alloc ?_ (by simp <;> omega) _)
 have z1 : w1.heap.size = w.heap.size + 1 + 1 := by rw [← hW1]; simp
 have D : DBox w.heap.size [.int .i64 x.seq, .int .i64 x.deed.kind, .int .i64 x.deed.run, .int .i64 x.deed.plan.prio, .int .i64 x.deed.plan.most, .int .i64 x.deed.plan.wait, .int .i64 x.deed.plan.tasks, .slice s.a s.n s.c, .int .i64 x.deed.task, .int .i64 x.deed.try_, .int .i64 x.deed.worker, .int .i64 x.deed.draw] w1 := by rw [← hW1]; exact D0.below ((Below.refl _ _).alloc (Nat.le_refl _) _)
 have Z : DBox (w.heap.size + 1) [.int .i64 0, .int .i64 0, .int .i64 0, .int .i64 0, .int .i64 0, .int .i64 0, .int .i64 0, .slice none 0 0, .int .i64 0, .int .i64 0, .int .i64 0, .int .i64 0] w1 := by rw [← hW1]; exact DBox.new _ _ _ (by simp)
 clear hW1 D0
 refine wp_region_last (fun w' => w'.cell? ⟨w.heap.size, 0, none⟩ = some (.int .i64 x.seq) ∧ w'.cell? ⟨w.heap.size, 1, none⟩ = some (.int .i64 x.deed.kind) ∧ w'.cell? ⟨w.heap.size, 2, none⟩ = some (.int .i64 x.deed.run) ∧ w'.cell? ⟨w.heap.size, 3, none⟩ = some (.int .i64 x.deed.plan.prio) ∧ w'.cell? ⟨w.heap.size, 4, none⟩ = some (.int .i64 x.deed.plan.most) ∧ w'.cell? ⟨w.heap.size, 5, none⟩ = some (.int .i64 x.deed.plan.wait) ∧ w'.cell? ⟨w.heap.size, 6, none⟩ = some (.int .i64 x.deed.plan.tasks) ∧ w'.cell? ⟨w.heap.size, 7, none⟩ = some (.slice s.a s.n s.c) ∧ w'.cell? ⟨w.heap.size, 8, none⟩ = some (.int .i64 x.deed.task) ∧ w'.cell? ⟨w.heap.size, 9, none⟩ = some (.int .i64 x.deed.try_) ∧ w'.cell? ⟨w.heap.size, 10, none⟩ = some (.int .i64 x.deed.worker) ∧ w'.cell? ⟨w.heap.size, 11, none⟩ = some (.int .i64 x.deed.draw)) 6 (by kernel_rfl) ?_ (fun hHeld => ?_)
 ·exact ⟨D.cell 0 _ rfl, D.cell 1 _ rfl, D.cell 2 _ rfl, D.cell 3 _ rfl, D.cell 4 _ rfl, D.cell 5 _ rfl, D.cell 6 _ rfl, D.cell 7 _ rfl, D.cell 8 _ rfl, D.cell 9 _ rfl, D.cell 10 _ rfl, D.cell 11 _ rfl⟩
 refine aT 0 hHeld ?_
 try simp only [pS]
 refine aT 1 hHeld ?_
 try simp only [pS]
 refine aT 2 hHeld ?_
 try simp only [pS]
 refine aT 3 hHeld ?_
 try simp only [pS]
 refine oT 4 (fun K hK => ?_)
 (go_simp; refine (implCopyDeed_own x.deed s _ (by unfold cntNote at hl; omega) (hbx _ B1.drew)).mono ?_; rintro e w2 ⟨s2, F2, rfl, o2, n2, b2⟩; have B12 := bnext ((Below.refl w1.heap.size w1).drew) b2; have B2 := bnext B1 B12; have D2 := D.below B12; have Z2 := Z.below B12; have zf := Z2.free; have k0 : w2.cell? ⟨w.heap.size, 0, none⟩ = some (.int .i64 x.seq) := D2.cell 0 _ rfl; have k1 : w2.cell? ⟨w.heap.size, 1, none⟩ = some (.int .i64 x.deed.kind) := D2.cell 1 _ rfl; have k2 : w2.cell? ⟨w.heap.size, 2, none⟩ = some (.int .i64 x.deed.run) := D2.cell 2 _ rfl; have k3 : w2.cell? ⟨w.heap.size, 3, none⟩ = some (.int .i64 x.deed.plan.prio) := D2.cell 3 _ rfl; have k4 : w2.cell? ⟨w.heap.size, 4, none⟩ = some (.int .i64 x.deed.plan.most) := D2.cell 4 _ rfl; have k5 : w2.cell? ⟨w.heap.size, 5, none⟩ = some (.int .i64 x.deed.plan.wait) := D2.cell 5 _ rfl; have k6 : w2.cell? ⟨w.heap.size, 6, none⟩ = some (.int .i64 x.deed.plan.tasks) := D2.cell 6 _ rfl; have k7 : w2.cell? ⟨w.heap.size, 7, none⟩ = some (.slice s.a s.n s.c) := D2.cell 7 _ rfl; have k8 : w2.cell? ⟨w.heap.size, 8, none⟩ = some (.int .i64 x.deed.task) := D2.cell 8 _ rfl; have k9 : w2.cell? ⟨w.heap.size, 9, none⟩ = some (.int .i64 x.deed.try_) := D2.cell 9 _ rfl; have k10 : w2.cell? ⟨w.heap.size, 10, none⟩ = some (.int .i64 x.deed.worker) := D2.cell 10 _ rfl; have k11 : w2.cell? ⟨w.heap.size, 11, none⟩ = some (.int .i64 x.deed.draw) := D2.cell 11 _ rfl; have z0 := Z2.cell 0 _ rfl; have z1 := Z2.cell 1 _ rfl; have z2 := Z2.cell 2 _ rfl; have z3 := Z2.cell 3 _ rfl; have z4 := Z2.cell 4 _ rfl; have z5 := Z2.cell 5 _ rfl; have z6 := Z2.cell 6 _ rfl; have z7 := Z2.cell 7 _ rfl; have z8 := Z2.cell 8 _ rfl; have z9 := Z2.cell 9 _ rfl; have z10 := Z2.cell 10 _ rfl; have z11 := Z2.cell 11 _ rfl; go_simp)
 refine hK.out _ _ (fun _ => ?_) ?_
 ·exact ⟨k0, k1, k2, k3, k4, k5, k6, k7, k8, k9, k10, k11⟩
 clear hK K
 try simp only [pS]
 refine oT 5 (fun K hK => ?_)
 go_simp
 refine hK.out _ _ (fun _ => ?_) ?_
 ·exact ⟨k0, k1, k2, k3, k4, k5, k6, k7, k8, k9, k10, k11⟩
 clear hK K
 try simp only [pS]
 refine oT 6 (fun K hK => ?_)
 go_simp
 refine hK.out _ _ (fun hne => absurd rfl hne) ?_
 clear hK K
 try simp only [pS]
 refine wpAnyL_done (by kernel_rfl) ?_ _
 go_wp2
 refine bodyPost_ret (v := noteW x s2) ?_ rfl ?_
 ·simp [noteW, results, Try.results27, go_sem, *]
 ·refine ⟨s2, F2, rfl, ?_, ?_, ?_⟩
  ·have hn : (w.heap.size + 1) ∉ F2 := fun hm => by have := n2 _ hm; simp only [World.size_drew] at this; omega
   repeat (first | (with_reducible exact o2) | refine Dt.ow_set deedD ?_ hn _)
  ·intro b hb
   have := n2 b hb
   simp only [World.size_drew] at this
   omega
  ·repeat (first | (with_reducible exact B2) | refine Below.setCell ?_ (by simp <;> omega) _)
end Go.Proofs.Ytonlnjdempbfoaa
end
section
namespace Go.Proofs.Ytonlnjdempbfoaa
open Go.RowKit
set_option maxRecDepth 100000
set_option maxHeartbeats 2000000
set_option linter.unusedVariables false
set_option linter.unusedSimpArgs false
/-- entries as flat data -/
def entE : Enc Entry := { cells := fun x => [.int .i64 x.prio, .int .i64 x.seq, .int .i64 x.run, .int .i64 x.task], sz := 4, len := fun _ => rfl, one := fun _ u hu => by simp at hu; rcases hu with rfl | rfl | rfl | rfl <;> rfl }
theorem ent_rd {w : World} {B : Nat} {v : Value} {l : List Entry} (h : RdL entryD w B v l) : Rd entE w B v l := by
 obtain ⟨rs, rfl, ⟨A, c, rfl, hcap, hA⟩, _⟩ := h
 refine ⟨A, c, by rw [List.length_map], by rw [List.length_map]; exact hcap, fun hl => ?_⟩
 rw [List.length_map] at hl
 obtain ⟨b, o, hb, hlt, hc⟩ := hA hl
 refine ⟨b, o, hb, hlt, fun k hk j u hu => ?_⟩
 rw [List.length_map] at hk
 rw [List.getElem_map] at hu
 exact hc k hk j u hu
theorem ent_rdL {w : World} {B : Nat} {v : Value} {l : List Entry} (h : Rd entE w B v l) : RdL entryD w B v l := by
 obtain ⟨A, c, rfl, hcap, hA⟩ := h
 refine ⟨l.map fun x => (x, ()), by rw [List.map_map]; exact List.map_id' l, ⟨A, c, by rw [List.length_map], by rw [List.length_map]; exact hcap, fun hl => ?_⟩, fun _ _ => trivial⟩
 rw [List.length_map] at hl
 obtain ⟨b, o, hb, hlt, hc⟩ := hA hl
 refine ⟨b, o, hb, hlt, fun k hk j u hu => ?_⟩
 rw [List.length_map] at hk
 rw [List.getElem_map] at hu
 exact hc k hk j u hu
theorem entE_info : (Try.prog.info? 116).map (fun i => (i.zero, i.size, i.bytes)) = some (some (.agg #[.int .i64 0, .int .i64 0, .int .i64 0, .int .i64 0]), 4, 32) := by kernel_rfl
theorem flat_take_succ {α : Type} (l : List (List α)) (k : Nat) (hk : k < l.length) : (l.take (k + 1)).flatten = (l.take k).flatten ++ l[k] := by
 rw [take_snoc l k hk, List.flatten_append]
 simp
theorem flat_take_le (l : List (List Entry)) (k : Nat) : (l.take k).flatten.length ≤ cntL cntEntryS l := by
 induction l generalizing k with
 | nil => simp
 | cons x l ih =>
  cases k with
  | zero => simp
  | succ k =>
   have := ih k
   rw [List.take_succ_cons, List.flatten_cons, List.length_append]
   unfold cntL at *
   have hx : x.length ≤ cntEntryS x := cntL_len cntEntry x
   simp only [List.length_cons, List.map_cons, List.sum_cons]
   omega
theorem specEntries_any (y : Yard) (s : Sl × Sl) (w : World) (hl : cntYard y ≤ 2000000) (h : yardD.rd w w.heap.size y s) :
  Calls Try.prog 81 #[yardW y s] w fun e w' => ∃ v, e = .returned v ∧ Ow entE 116 w' w.heap.size v (entriesOf y) ∧ Below w.heap.size w w' := by
 obtain ⟨⟨A1, n1, c1⟩, ⟨A2, n2, c2⟩⟩ := s
 obtain rfl : n1 = y.shelf.length := RdL.at1 (s := ⟨A1, n1, c1⟩) h.1
 have h1 : RdL (Dt.list entryD) w w.heap.size (.slice A1 y.shelf.length c1) y.shelf := h.1
 have hll : y.shelf.length ≤ 2000000 := Nat.le_trans (cntL_len cntEntryS _) (by unfold cntYard at hl; omega)
 have HL := Lib.hid (show ∀ k, (y.shelf.take k).flatten.length ≤ 2000000 from fun k => Nat.le_trans (flat_take_le y.shelf k) (by unfold cntYard at hl; omega))
 have HE := Lib.hid (show ∀ k (hk : k < y.shelf.length), y.shelf[k].length ≤ 2000000 from fun k hk => by
  have := cntL_mem (cnt := cntEntryS) (List.getElem_mem hk)
  have h2 : y.shelf[k].length ≤ cntEntryS y.shelf[k] := cntL_len cntEntry _
  unfold cntYard at hl
  omega)
 clear hl h
 have X := (DBox.new 61 [.int .i64 y.now, .int .i64 y.seq, .slice A1 y.shelf.length c1, .slice A2 n2 c2] w (b := w.heap.size) rfl).below ((Below.refl _ _).alloc (Nat.le_refl _) (.cells #[] 116))
 have E := DBox.new 116 [] (w.alloc (.cells #[.int .i64 y.now, .int .i64 y.seq, .slice A1 y.shelf.length c1, .slice A2 n2 c2] 61)) (b := w.heap.size + 1) (by simp)
 have B0 : Below w.heap.size w ((w.alloc (.cells #[.int .i64 y.now, .int .i64 y.seq, .slice A1 y.shelf.length c1, .slice A2 n2 c2] 61)).alloc (.cells #[] 116)) := by repeat (first | exact Below.refl _ _ | refine Below.alloc ?_ (by simp <;> omega) _)
 have O0 := Ow.empty entE 116 (w.alloc (.cells #[.int .i64 y.now, .int .i64 y.seq, .slice A1 y.shelf.length c1, .slice A2 n2 c2] 61)) (g := w.heap.size + 1) (by simp)
 obtain ⟨j0, hj0, jz0, jz1, jz2⟩ := info_parts entE_info
 clear E
 go_enter Try.func81, Try.ntmps81
 go_wp2
 generalize ((w.alloc (.cells #[.int .i64 y.now, .int .i64 y.seq, .slice A1 y.shelf.length c1, .slice A2 n2 c2] 61)).alloc (.cells #[] 116)) = W at *
 go_loopw [3, 4] (fun vl i wr => ∃ k : Nat, k ≤ y.shelf.length ∧ i = .int .i64 k ∧ Ow entE 116 wr (w.heap.size + 1) vl (y.shelf.take k).flatten ∧ DBox w.heap.size [.int .i64 y.now, .int .i64 y.seq, .slice A1 y.shelf.length c1, .slice A2 n2 c2] wr ∧ Below w.heap.size w wr) (fun _ i _ => y.shelf.length - (intOf i).toNat)
 case atStart => exact ⟨0, Nat.zero_le _, rfl, by simpa using O0, X, B0⟩
 case round =>
  clear X B0 O0
  obtain ⟨k, hk, rfl, ho, X, hb⟩ := hrel
  obtain ⟨X_0, X_1, X_2, X_3, X_l⟩ := X.g4
  by_cases hlt : k < y.shelf.length
  ·have hltI : (k : Int) < (y.shelf.length : Int) := by omega
   obtain ⟨b, o, ⟨As, ns, cs⟩, rfl, hbb, hr, d0⟩ := (h1.below hb).entryS hlt
   obtain rfl : ns = y.shelf[k].length := RdL.at1 (s := ⟨As, ns, cs⟩) hr
   have hrr := (ent_rd hr).more hb.size
   have S := Lib.hid (flat_take_succ y.shelf k hlt)
   have HLk := Lib.hid (HL.out k)
   have HEk := Lib.hid (HE.out k hlt)
   go_wp2_with (at_builtin; refine wpList_push_all _ entE (by decide) rfl (.tmp 13) (.tmp 18) rfl Try.underlying77 hj0 jz0 jz1 jz2 rfl (l := (y.shelf.take k).flatten) rfl ho rfl hrr (Nat.le_trans HLk.out (by omega)) (Nat.le_trans HEk.out (by omega)) (by decide) (by omega) ?_; intro v5 w5 o5 g5 _)
   have W5 := hb.grown g5 hb.size (fun g hg => by have := ho.within _ hg; omega)
   have X5 := X.off g5 (fun e => by have := ho.within _ e.symm; omega)
   refine ⟨⟨k + 1, by omega, by go_num, ?_, X5, W5⟩, by simp [intOf]; omega⟩
   rw [S.out]
   exact o5
  ·have hltI : ¬ (k : Int) < (y.shelf.length : Int) := by omega
   have hk' : k = y.shelf.length := by omega
   subst hk'
   rw [List.take_length] at ho
   go_wp2
   go_ret
   exact ⟨_, rfl, ho.more (by omega), hb⟩
end Go.Proofs.Ytonlnjdempbfoaa
end
section
namespace Go.Proofs.Ytonlnjdempbfoaa
open Go.RowKit
set_option maxRecDepth 100000
set_option maxHeartbeats 2000000
set_option linter.unusedVariables false
set_option linter.unusedSimpArgs false
def taskFin (x : Task) (most : Int) : Bool :=
 (if x.state = 3 then inB x.until_ 1 1000000000 else (x.until_ == 0)) && (if x.state = 1 then decide (0 < x.need) else if x.state = 2 then (x.need == 0) && decide (x.try_ < most) else if x.state = 6 then true else (x.need == 0) && decide (1 ≤ x.try_))
theorem taskQ_fin {x : Task} {N : Nat} {most : Int} (h1 : 1 ≤ x.state ∧ x.state ≤ 6) (h2 : x.need = N) (h3 : 0 ≤ x.try_ ∧ x.try_ ≤ most) : tf (taskQ x N most) = taskFin x most := by
 rw [Bool.eq_iff_iff, tf_iff]
 obtain ⟨st, nd, tr, un⟩ := x
 unfold taskQ taskFin
 simp only at *
 rcases (show st = 1 ∨ st = 2 ∨ st = 3 ∨ st = 4 ∨ st = 5 ∨ st = 6 by omega) with rfl | rfl | rfl | rfl | rfl | rfl <;> simp [inB] <;> omega
theorem bne_t {a b : Int} (h : (a != b) = true) : ¬ a = b := by simpa using h
theorem bne_f {a b : Int} (h : (a != b) = false) : a = b := by simpa using h
theorem beq_t {a b : Int} (h : (a == b) = true) : a = b := by simpa using h
theorem beq_f {a b : Int} (h : (a == b) = false) : ¬ a = b := by simpa using h
end Go.Proofs.Ytonlnjdempbfoaa
end
section
namespace Go.Proofs.Ytonlnjdempbfoaa
open Go.RowKit
set_option maxRecDepth 100000
set_option maxHeartbeats 1000000
set_option linter.unusedVariables false
set_option linter.unusedSimpArgs false
def yardNew : Yard := ⟨0, 1, [[], [], [], []], []⟩
theorem specYardNew_own (w : World) : Calls Try.prog 36 #[] w (OwnPost yardD yardW yardNew w) := by
 obtain ⟨i0, hi0, hz0, hz1, hz2⟩ := info_parts entryS_infoD
 have D0 := DBox.new 61 [.int .i64 0, .int .i64 0, .slice none 0 0, .slice none 0 0] w rfl
 have D1 := D0.below ((Below.refl _ _).alloc (Nat.le_refl _) (.cells #[.int .i64 0, .int .i64 1, .slice none 0 0, .slice none 0 0] 61))
 have E1 := DBox.new 61 [.int .i64 0, .int .i64 1, .slice none 0 0, .slice none 0 0] (w.alloc (.cells #[.int .i64 0, .int .i64 0, .slice none 0 0, .slice none 0 0] 61)) (b := w.heap.size + 1) (by simp)
 have B0 : Below w.heap.size w ((w.alloc (.cells #[.int .i64 0, .int .i64 0, .slice none 0 0, .slice none 0 0] 61)).alloc (.cells #[.int .i64 0, .int .i64 1, .slice none 0 0, .slice none 0 0] 61)) := by repeat (first | exact Below.refl _ _ | refine Below.alloc ?_ (by simp <;> omega) _)
 have S0 : w.heap.size + 2 ≤ ((w.alloc (.cells #[.int .i64 0, .int .i64 0, .slice none 0 0, .slice none 0 0] 61)).alloc (.cells #[.int .i64 0, .int .i64 1, .slice none 0 0, .slice none 0 0] 61)).heap.size := by simp
 clear D0
 go_enter Try.func36, Try.ntmps36
 go_wp2
 generalize ((w.alloc (.cells #[.int .i64 0, .int .i64 0, .slice none 0 0, .slice none 0 0] 61)).alloc (.cells #[.int .i64 0, .int .i64 1, .slice none 0 0, .slice none 0 0] 61)) = W at *
 go_loopw [2] (fun i wr => ∃ (k : Nat) (v : Value), k ≤ 4 ∧ i = .int .i64 k ∧ Hid (Bls (Dt.list entryD) 77 wr (w.heap.size + 2) v (List.replicate k [])) ∧ DBox w.heap.size [.int .i64 0, .int .i64 0, .slice none 0 0, .slice none 0 0] wr ∧ DBox (w.heap.size + 1) [.int .i64 0, .int .i64 1, v, .slice none 0 0] wr ∧ Below w.heap.size w wr ∧ w.heap.size + 2 ≤ wr.heap.size) (fun i _ => 4 - (intOf i).toNat)
 case atStart => exact ⟨0, _, Nat.zero_le _, rfl, ⟨[], rfl, Bld.nil _ _ _ _⟩, D1, E1, B0, S0⟩
 case round =>
  clear D1 E1 B0 S0
  obtain ⟨k, v, hk, rfl, hB0, D, E, hb, hsz⟩ := hrel
  have e0 : wr.cell? ⟨w.heap.size + 1, 0, none⟩ = some (.int .i64 0) := E.cell 0 _ rfl
  have e1 : wr.cell? ⟨w.heap.size + 1, 1, none⟩ = some (.int .i64 1) := E.cell 1 _ rfl
  have e2 : wr.cell? ⟨w.heap.size + 1, 2, none⟩ = some v := E.cell 2 _ rfl
  have e3 : wr.cell? ⟨w.heap.size + 1, 3, none⟩ = some (.slice none 0 0) := E.cell 3 _ rfl
  have ef := E.free
  have el := E.lt
  by_cases hlt : k < 4
  ·obtain ⟨rs, hm, hB⟩ := hB0.out
   have hrl : rs.length = k := by have := congrArg List.length hm; simpa using this
   have hO := hB.ow
   have hne : v.ownBlock ≠ some (w.heap.size + 1) := fun e => by have := hO.within _ e; omega
   have hne2 : v.ownBlock ≠ some w.heap.size := fun e => by have := hO.within _ e; omega
   have B1 := (Below.refl wr.heap.size wr).alloc (Nat.le_refl _) (.cells #[] 116)
   go_wp2_with (at_builtin; refine wpList_push_all _ (Dt.list entryD).enc (by decide) rfl (.tmp 9) (.tmp 11) rfl Try.underlying58 hi0 hz0 hz1 hz2 rfl (v := v) (l := rs) rfl (hO.below (B1.alloc (by simp) _)) rfl (Rd.one (Dt.list entryD).enc _ _ (([] : List Entry), (⟨some ⟨wr.heap.size, 0, none⟩, 0, 0⟩ : Sl)) (by simp) rfl 1 (Nat.le_refl _) (Nat.lt_succ_self _)) (by omega) (by simp) (by decide) (by simp; omega) ?_; intro v5 w5 o5 g5 f5; obtain ⟨A5, c5, rfl, -⟩ := id (Rd.of_own o5); have E5 := ((E.below B1).below ((Below.refl _ _).alloc (Nat.le_refl _) _)).off g5 (fun e => hne e.symm); have D5 := ((D.below B1).below ((Below.refl _ _).alloc (Nat.le_refl _) _)).off g5 (fun e => hne2 e.symm); have m2 : w5.cell? ⟨w.heap.size + 1, 2, none⟩ = some v := E5.cell 2 _ rfl; have mf := E5.free; have ml := E5.lt)
   have hP := Bld.push1 (d := Dt.list entryD) (x := []) (s := ⟨some ⟨wr.heap.size, 0, none⟩, 0, 0⟩) hB B1 (OwL.nil entryD _ _ _) (fun b hb' => by cases hb') hsz ((Below.refl _ _).alloc (Nat.le_refl _) _) o5 g5 f5
   have hlen : (rs ++ [(([] : List Entry), (⟨some ⟨wr.heap.size, 0, none⟩, 0, 0⟩ : Sl))]).length = k + 1 := by simp [hrl]
   rw [hlen] at hP
   have g5s := g5.size
   simp only [World.size_alloc] at g5s
   refine ⟨⟨k + 1, _, by omega, by go_num, ⟨rs ++ [([], ⟨some ⟨wr.heap.size, 0, none⟩, 0, 0⟩)], by rw [List.map_append, hm, List.replicate_succ']; rfl, hP.setOther (a := ⟨w.heap.size + 1, 2, none⟩) (by show w.heap.size + 1 < _; omega) _⟩, D5.setOther (a := ⟨w.heap.size + 1, 2, none⟩) (by show w.heap.size ≠ w.heap.size + 1; omega) _, E5.set 2 (by simp) _, ?_, by simp [World.setCell]; omega⟩, by simp [intOf]; omega⟩
   exact Below.setCell ((((hb.trans (B1.mono hb.size)).alloc (by simp; omega) _).grown g5 (by simp; omega) (fun g hg => by have := hO.within g hg; omega))) (by first | (simp; done) | (simp; omega)) _
  ·have hk4 : k = 4 := by omega
   subst hk4
   have d0 : wr.cell? ⟨w.heap.size, 0, none⟩ = some (.int .i64 0) := D.cell 0 _ rfl
   have d1 : wr.cell? ⟨w.heap.size, 1, none⟩ = some (.int .i64 0) := D.cell 1 _ rfl
   have d2 : wr.cell? ⟨w.heap.size, 2, none⟩ = some (.slice none 0 0) := D.cell 2 _ rfl
   have d3 : wr.cell? ⟨w.heap.size, 3, none⟩ = some (.slice none 0 0) := D.cell 3 _ rfl
   have df := D.free
   have dl := D.lt
   obtain ⟨rs, hm, hB⟩ := hB0.out
   obtain ⟨F, h1, h2⟩ := hB.owl hm
   obtain ⟨A9, c9, rfl, -⟩ := h1.form
   simp only [List.length_replicate] at e2 h1
   go_wp2
   refine bodyPost_ret (v := yardW yardNew (⟨A9, 4, c9⟩, ⟨none, 0, 0⟩)) ?_ rfl ?_
   ·simp [yardW, yardNew, results, Try.results36, go_sem, d0, d1, d2, d3]
   ·refine ⟨(⟨A9, 4, c9⟩, ⟨none, 0, 0⟩), F, rfl, ⟨F, [], (List.append_nil F).symm, h1.nodup, ?_, OwL.nil _ _ _ _⟩, fun b hb => by have := h2 b hb; omega, ?_⟩
    ·have hn : w.heap.size ∉ F := fun hm => by have := h2 _ hm; omega
     have h1 : OwL (Dt.list entryD) wr F (.slice A9 4 c9) [[], [], [], []] := h1
     show OwL (Dt.list entryD) _ F (.slice A9 4 c9) [[], [], [], []]
     repeat (first | (with_reducible exact h1) | refine OwL.set ?_ hn _)
    ·repeat (first | (with_reducible exact hb) | refine Below.setCell ?_ (by simp <;> omega) _)
end Go.Proofs.Ytonlnjdempbfoaa
end
section
namespace Go.Proofs.Ytonlnjdempbfoaa
open Go.RowKit
set_option maxRecDepth 100000
set_option maxHeartbeats 1000000
set_option linter.unusedVariables false
set_option linter.unusedSimpArgs false
theorem implCopyNotes_own (l : List Note) (s : Sl) (w : World) (hl : cntL cntNote l ≤ 2000000) (h : RdL noteD w w.heap.size s.v l) :
  Calls Try.prog 22 #[.slice s.a s.n s.c] w (OwnPost (Dt.list noteD) slV l w) := by
 obtain ⟨A, n, c⟩ := s
 obtain ⟨A', c', hv, -⟩ := h.form
 simp only [Sl.v, Value.slice.injEq] at hv
 obtain ⟨rfl, rfl, rfl⟩ := hv
 have hll : l.length ≤ 2000000 := Nat.le_trans (cntL_len _ _) hl
 have hcc : ∀ k (hk : k < l.length), cntNote l[k] ≤ 2000000 := fun k hk => by have := cntL_mem (cnt := cntNote) (List.getElem_mem hk); omega
 clear hl
 obtain ⟨i0, hi0, hz0, hz1, hz2⟩ := info_parts note_infoD
 go_enter Try.func22, Try.ntmps22
 go_wp2
 go_loopw [3, 8] (fun t i wr => ∃ (k : Nat) (v : Value), k ≤ l.length ∧ i = .int .i64 k ∧ v = t ∧ Hid (Bls noteD 39 wr w.heap.size v (l.take k)) ∧ Below w.heap.size w wr) (fun _ i _ => l.length - (intOf i).toNat)
 case atStart => exact ⟨0, _, Nat.zero_le _, rfl, rfl, ⟨[], rfl, Bld.nil _ _ _ _⟩, Below.refl _ _⟩
 case round =>
  obtain ⟨k, v, hk, rfl, rfl, hB0, hb⟩ := hrel
  by_cases hlt : k < l.length
  ·obtain ⟨b, o, s', rfl, hbb, hr, c0, c1, c2, c3, c4, c5, c6, c7, c8, c9, c10, c11⟩ := (h.below hb).note hlt
   have hx : ∀ W, Below wr.heap.size wr W → noteD.rd W W.heap.size l[k] s' := fun W hW => noteD.rd_more (noteD.rd_below (noteD.rd_more hr hb.size) hW) hW.size
   obtain ⟨rs, hm, hB⟩ := hB0.out
   have hrl : rs.length = k := by have := congrArg List.length hm; simpa [Nat.min_eq_left hk] using this
   have hO := hB.ow
   have hsz := hb.size
   have B1 := (Below.refl wr.heap.size wr).alloc (Nat.le_refl _) (.cells #[.int .i64 l[k].seq, .int .i64 l[k].deed.kind, .int .i64 l[k].deed.run, .int .i64 l[k].deed.plan.prio, .int .i64 l[k].deed.plan.most, .int .i64 l[k].deed.plan.wait, .int .i64 l[k].deed.plan.tasks, .slice s'.a s'.n s'.c, .int .i64 l[k].deed.task, .int .i64 l[k].deed.try_, .int .i64 l[k].deed.worker, .int .i64 l[k].deed.draw] 39)
   go_wp2_with (first | (go_at_call 27; refine (implCopyNote_own l[k] s' _ (hcc k hlt) (hx _ B1)).mono ?_; rintro e w2 ⟨s2, F2, rfl, o2, n2, b2⟩; have B2 := bnext B1 b2; have z2 := b2.size; (try simp only [World.size_alloc] at z2 n2)) | (at_builtin; refine wpList_push_all _ noteD.enc (by decide) rfl (.tmp 12) (.tmp 15) rfl Try.underlying24 hi0 hz0 hz1 hz2 rfl (v := v) (l := rs) rfl (hO.below (B2.alloc (by omega) _)) rfl (Rd.one noteD.enc _ _ (l[k], s2) rfl rfl 1 (Nat.le_refl _) (Nat.lt_succ_self _)) (by omega) (by simp) (by decide) (by (try simp only [World.size_alloc]); omega) ?_; intro v5 w5 o5 g5 f5))
   have hP := Bld.push1 hB B2 o2 (fun b hb' => by have := n2 b hb'; omega) hsz ((Below.refl _ _).alloc (Nat.le_refl _) _) o5 g5 f5
   refine ⟨⟨k + 1, v5, by omega, by go_num, rfl, ⟨rs ++ [(l[k], s2)], by rw [List.map_append, hm, take_snoc l k hlt]; rfl, hP⟩, ((hb.trans (B2.mono hb.size)).alloc (by omega) _).grown g5 (by simp <;> omega) (fun g hg => (hO.within g hg).1)⟩, by simp [intOf]; omega⟩
  ·go_wp2
   go_ret
   have h1 := hB0.out
   rw [List.take_of_length_le (by omega)] at h1
   exact h1.own hb
theorem specNotes_own (l : List Note) (s : Sl) (w : World) (hl : cntL cntNote l ≤ 2000000) (h : RdL noteD w w.heap.size s.v l) :
  Calls Try.prog 31 #[.slice s.a s.n s.c] w (OwnPost (Dt.list noteD) slV l w) := by
 obtain ⟨A, n, c⟩ := s
 obtain ⟨A', c', hv, -⟩ := h.form
 simp only [Sl.v, Value.slice.injEq] at hv
 obtain ⟨rfl, rfl, rfl⟩ := hv
 have hll : l.length ≤ 2000000 := Nat.le_trans (cntL_len _ _) hl
 have hcc : ∀ k (hk : k < l.length), cntNote l[k] ≤ 2000000 := fun k hk => by have := cntL_mem (cnt := cntNote) (List.getElem_mem hk); omega
 clear hl
 obtain ⟨i0, hi0, hz0, hz1, hz2⟩ := info_parts note_infoD
 go_enter Try.func31, Try.ntmps31
 go_wp2
 go_loopw [3, 4] (fun t i wr => ∃ (k : Nat) (v : Value), k ≤ l.length ∧ i = .int .i64 k ∧ v = t ∧ Hid (Bls noteD 39 wr w.heap.size v (l.take k)) ∧ Below w.heap.size w wr) (fun _ i _ => l.length - (intOf i).toNat)
 case atStart => exact ⟨0, _, Nat.zero_le _, rfl, rfl, ⟨[], rfl, Bld.of_empty (Ow.empty noteD.enc 39 w rfl)⟩, (Below.refl _ _).alloc (Nat.le_refl _) _⟩
 case round =>
  obtain ⟨k, v, hk, rfl, rfl, hB0, hb⟩ := hrel
  by_cases hlt : k < l.length
  ·obtain ⟨b, o, s', rfl, hbb, hr, c0, c1, c2, c3, c4, c5, c6, c7, c8, c9, c10, c11⟩ := (h.below hb).note hlt
   have hx : ∀ W, Below wr.heap.size wr W → noteD.rd W W.heap.size l[k] s' := fun W hW => noteD.rd_more (noteD.rd_below (noteD.rd_more hr hb.size) hW) hW.size
   obtain ⟨rs, hm, hB⟩ := hB0.out
   have hrl : rs.length = k := by have := congrArg List.length hm; simpa [Nat.min_eq_left hk] using this
   have hO := hB.ow
   have hsz := hb.size
   have B1 := Below.refl wr.heap.size wr
   go_wp2_with (first | (go_at_call 28; refine (specNote_own l[k] s' _ (hcc k hlt) (hx _ B1)).mono ?_; rintro e w2 ⟨s2, F2, rfl, o2, n2, b2⟩; have B2 := bnext B1 b2; have z2 := b2.size; (try simp only [World.size_alloc] at z2 n2)) | (at_builtin; refine wpList_push_all _ noteD.enc (by decide) rfl (.tmp 12) (.tmp 18) rfl Try.underlying24 hi0 hz0 hz1 hz2 rfl (v := v) (l := rs) rfl (hO.below (B2.alloc (by omega) _)) rfl (Rd.one noteD.enc _ _ (l[k], s2) rfl rfl 1 (Nat.le_refl _) (Nat.lt_succ_self _)) (by omega) (by simp) (by decide) (by (try simp only [World.size_alloc]); omega) ?_; intro v5 w5 o5 g5 f5))
   have hP := Bld.push1 hB B2 o2 (fun b hb' => by have := n2 b hb'; omega) hsz ((Below.refl _ _).alloc (Nat.le_refl _) _) o5 g5 f5
   refine ⟨⟨k + 1, v5, by omega, by go_num, rfl, ⟨rs ++ [(l[k], s2)], by rw [List.map_append, hm, take_snoc l k hlt]; rfl, hP⟩, ((hb.trans (B2.mono hb.size)).alloc (by omega) _).grown g5 (by simp <;> omega) (fun g hg => (hO.within g hg).1)⟩, by simp [intOf]; omega⟩
  ·go_wp2
   go_ret
   have h1 := hB0.out
   rw [List.take_of_length_le (by omega)] at h1
   exact h1.own hb
theorem implNotesOf_own (l : List Seg) (s : Sl) (w : World) (hl : cntL cntSeg l ≤ 2000000) (h : RdL segD w w.heap.size s.v l) :
  Calls Try.prog 10 #[.slice s.a s.n s.c] w (OwnPost (Dt.list noteD) slV (notesOf l) w) := by
 obtain ⟨A, n, c⟩ := s
 obtain ⟨A', c', hv, -⟩ := h.form
 simp only [Sl.v, Value.slice.injEq] at hv
 obtain ⟨rfl, rfl, rfl⟩ := hv
 have hll : l.length ≤ 2000000 := Nat.le_trans (cntL_len _ _) hl
 have hcc : ∀ k (hk : k < l.length), cntSeg l[k] ≤ 2000000 := fun k hk => by have := cntL_mem (cnt := cntSeg) (List.getElem_mem hk); omega
 have htt : ∀ k, (notesOf (l.take k)).length ≤ 2000000 := fun k => by rw [notesOf_len]; have := totN_take_le l k; have := totN_le l; omega
 clear hl
 obtain ⟨i0, hi0, hz0, hz1, hz2⟩ := info_parts note_infoD
 go_enter Try.func10, Try.ntmps10
 go_wp2
 go_loopw [3, 8] (fun t i wr => ∃ (k : Nat) (v : Value), k ≤ l.length ∧ i = .int .i64 k ∧ v = t ∧ Hid (Bls noteD 39 wr w.heap.size v (notesOf (l.take k))) ∧ Below w.heap.size w wr) (fun _ i _ => l.length - (intOf i).toNat)
 case atStart => exact ⟨0, _, Nat.zero_le _, rfl, rfl, ⟨[], rfl, Bld.nil _ _ _ _⟩, Below.refl _ _⟩
 case round =>
  obtain ⟨k, v, hk, rfl, rfl, hB0, hb⟩ := hrel
  by_cases hlt : k < l.length
  ·obtain ⟨b, o, s', rfl, hbb, hr, c0, c1⟩ := (h.below hb).seg hlt
   have hx : ∀ W, Below wr.heap.size wr W → RdL noteD W W.heap.size s'.v l[k].notes := fun W hW => RdL.more (RdL.below (RdL.more hr hb.size) hW) hW.size
   have hcn : cntL cntNote l[k].notes ≤ 2000000 := hcc k hlt
   have hnl : l[k].notes.length ≤ 2000000 := Nat.le_trans (cntL_len cntNote _) hcn
   obtain ⟨rs, hm, hB⟩ := hB0.out
   have hrl : rs.length ≤ 2000000 := by have := congrArg List.length hm; rw [List.length_map] at this; rw [this]; exact htt k
   have hO := hB.ow
   have hsz := hb.size
   have B1 := (Below.refl wr.heap.size wr).alloc (Nat.le_refl _) (.cells #[.int .i64 l[k].fr, .slice s'.a s'.n s'.c] 51)
   go_wp2_with (first | (go_at_call 22; refine (implCopyNotes_own l[k].notes s' _ hcn (hx _ B1)).mono ?_; rintro e w2 ⟨s2, F2, rfl, ⟨ts, H2, G2, hts, hw2, ho2, hF2, hn2⟩, n2, b2⟩; have B2 := bnext B1 b2; have z2 := b2.size; (try simp only [World.size_alloc] at z2 n2); have htl : ts.length ≤ 2000000 := by have := congrArg List.length hts; rw [List.length_map] at this; omega) | (at_builtin; refine wpList_push_all _ noteD.enc (by decide) rfl (.tmp 12) (.tmp 15) rfl Try.underlying24 hi0 hz0 hz1 hz2 rfl (v := v) (l := rs) rfl (hO.below B2) (A := s2.a) (m := s2.n) (c := s2.c) (ys := ts) rfl hw2.rd (by omega) (by omega) (by decide) (by omega) ?_; intro v5 w5 o5 g5 f5))
   subst hF2
   have hP := Bld.push hB B2 ho2 (fun b hb' => by have := n2 b (List.mem_append_right _ hb'); omega) (List.nodup_append.1 hn2).2.1 hsz o5 g5 (by rcases f5 with f5 | f5; exact .inl f5; exact .inr ⟨_, f5, Nat.le_refl _⟩)
   refine ⟨⟨k + 1, v5, by omega, by go_num, rfl, ⟨rs ++ ts, by rw [List.map_append, hm, hts, notesOf_take_succ l k hlt], hP⟩, (hb.trans (B2.mono hb.size)).grown g5 (by omega) (fun g hg => (hO.within g hg).1)⟩, by simp [intOf]; omega⟩
  ·go_wp2
   go_ret
   have h1 := hB0.out
   rw [List.take_of_length_le (by omega)] at h1
   exact h1.own hb
end Go.Proofs.Ytonlnjdempbfoaa
end
section
namespace Go.Proofs.Ytonlnjdempbfoaa
open Go.RowKit
set_option maxRecDepth 100000
set_option maxHeartbeats 2000000
set_option linter.unusedVariables false
set_option linter.unusedSimpArgs false
theorem fresh_no {y : Yard} {e : Entry} (h : runAt y e.run = -1) : freshB y e = false := tf_false (fun hh => by have := hh.1; omega)
theorem fresh_out {y : Yard} {e : Entry} {k : Nat} (hk : k < y.runs.length) (h : runAt y e.run = k) (hq : inB e.task 0 ((y.runs[k].tasks.length : Int) - 1) = false) : freshB y e = false :=
 tf_false (fun hh => by
  have h2 := hh.2.1
  rw [runK_get hk h] at h2
  have := inB_iff.2 (show 0 ≤ e.task ∧ e.task ≤ (y.runs[k].tasks.length : Int) - 1 by omega)
  rw [hq] at this
  cases this)
theorem fresh_st {y : Yard} {e : Entry} {k t : Nat} (hk : k < y.runs.length) (h : runAt y e.run = k) (ht : t < y.runs[k].tasks.length) (he : e.task = t) : freshB y e = (y.runs[k].tasks[t].state == 2) := by
 unfold freshB
 rw [Bool.eq_iff_iff, tf_iff, beq_iff_eq]
 unfold freshP
 rw [runK_get hk h, he, Int.toNat_natCast, taskAt_get ht]
 constructor
 ·intro hh; exact hh.2.2
 ·intro hh; exact ⟨by omega, by omega, hh⟩
theorem cnt_run_tasks {y : Yard} {k : Nat} (hl : cntYard y ≤ 2000000) (hk : k < y.runs.length) : y.runs[k].tasks.length ≤ 2000000 := by
 have h1 := cntL_mem (cnt := cntRun) (List.getElem_mem hk)
 have h2 : y.runs[k].tasks.length ≤ cntL cntTask y.runs[k].tasks := cntL_len _ _
 unfold cntYard at hl
 unfold cntRun at h1
 unfold cntRun at hl
 omega
theorem specFresh_any (y : Yard) (s : Sl × Sl) (e : Entry) (w : World) (hl : cntYard y ≤ 2000000) (h : yardD.rd w w.heap.size y s) :
  Calls Try.prog 89 #[yardW y s, entryW e ()] w fun e' w' => e' = .returned (.bool (freshB y e)) ∧ Below w.heap.size w w' := by
 have HR := Lib.hid (show ∀ W, Below w.heap.size w W → yardD.rd W W.heap.size y s from fun W hW => yardD.rd_more (yardD.rd_below h hW) hW.size)
 obtain ⟨⟨A1, n1, c1⟩, ⟨A2, n2, c2⟩⟩ := s
 obtain rfl : n2 = y.runs.length := RdL.at1 (s := ⟨A2, n2, c2⟩) h.2
 have h2 : RdL runD w w.heap.size (.slice A2 y.runs.length c2) y.runs := h.2
 have hll : y.runs.length ≤ 2000000 := Nat.le_trans (cntL_len cntRun _) (by unfold cntYard at hl; omega)
 obtain ⟨pr, sq, rn, tk⟩ := e
 have X := (DBox.new 61 [.int .i64 y.now, .int .i64 y.seq, .slice A1 n1 c1, .slice A2 y.runs.length c2] w (b := w.heap.size) rfl).below ((Below.refl _ _).alloc (Nat.le_refl _) (.cells #[.int .i64 (⟨pr, sq, rn, tk⟩ : Entry).prio, .int .i64 (⟨pr, sq, rn, tk⟩ : Entry).seq, .int .i64 (⟨pr, sq, rn, tk⟩ : Entry).run, .int .i64 (⟨pr, sq, rn, tk⟩ : Entry).task] 116))
 have E := DBox.new 116 [.int .i64 (⟨pr, sq, rn, tk⟩ : Entry).prio, .int .i64 (⟨pr, sq, rn, tk⟩ : Entry).seq, .int .i64 (⟨pr, sq, rn, tk⟩ : Entry).run, .int .i64 (⟨pr, sq, rn, tk⟩ : Entry).task] (w.alloc (.cells #[.int .i64 y.now, .int .i64 y.seq, .slice A1 n1 c1, .slice A2 y.runs.length c2] 61)) (b := w.heap.size + 1) (by simp)
 have B0 : Below w.heap.size w ((w.alloc (.cells #[.int .i64 y.now, .int .i64 y.seq, .slice A1 n1 c1, .slice A2 y.runs.length c2] 61)).alloc (.cells #[.int .i64 (⟨pr, sq, rn, tk⟩ : Entry).prio, .int .i64 (⟨pr, sq, rn, tk⟩ : Entry).seq, .int .i64 (⟨pr, sq, rn, tk⟩ : Entry).run, .int .i64 (⟨pr, sq, rn, tk⟩ : Entry).task] 116)) := by repeat (first | exact Below.refl _ _ | refine Below.alloc ?_ (by simp <;> omega) _)
 have C := specRunAt_own y (⟨A1, n1, c1⟩, ⟨A2, y.runs.length, c2⟩) rn ((w.alloc (.cells #[.int .i64 y.now, .int .i64 y.seq, .slice A1 n1 c1, .slice A2 y.runs.length c2] 61)).alloc (.cells #[.int .i64 (⟨pr, sq, rn, tk⟩ : Entry).prio, .int .i64 (⟨pr, sq, rn, tk⟩ : Entry).seq, .int .i64 (⟨pr, sq, rn, tk⟩ : Entry).run, .int .i64 (⟨pr, sq, rn, tk⟩ : Entry).task] 116)) hl (HR.out _ B0)
 clear h
 rcases runAt_range y rn with hr | ⟨k, hk, hr⟩
 ·have H := Lib.hid (fresh_no (e := ⟨pr, sq, rn, tk⟩) hr)
  rw [hr] at C
  clear hr
  go_enter Try.func89, Try.ntmps89
  go_wp2_with fail
  generalize ((w.alloc (.cells #[.int .i64 y.now, .int .i64 y.seq, .slice A1 n1 c1, .slice A2 y.runs.length c2] 61)).alloc (.cells #[.int .i64 (⟨pr, sq, rn, tk⟩ : Entry).prio, .int .i64 (⟨pr, sq, rn, tk⟩ : Entry).seq, .int .i64 (⟨pr, sq, rn, tk⟩ : Entry).run, .int .i64 (⟨pr, sq, rn, tk⟩ : Entry).task] 116)) = W at *
  refine C.mono ?_
  rintro e1 w1 ⟨rfl, b1⟩
  replace X := X.below b1
  replace E := E.below b1
  obtain ⟨X_0, X_1, X_2, X_3, X_l⟩ := X.g4
  obtain ⟨E_0, E_1, E_2, E_3, E_l⟩ := E.g4
  have hlc := later_cell w1
  go_wp2
  refine wp_region_pure (by kernel_rfl) (by kernel_rfl) ?_
  repeat (go_big_quiet_step (fail))
  refine wpQuiet_nil ?_
  rintro _ ⟨⟨w2, b2⟩, rfl⟩
  clear hlc
  go_wp2
  go_ret
  exact ⟨ret_bool H.out.symm, bnext (bnext B0 b1) b2⟩
 ·have hrt := cnt_run_tasks hl hk
  have HR2 := Lib.hid hr
  rw [hr] at C
  clear hr
  go_enter Try.func89, Try.ntmps89
  go_wp2_with fail
  generalize ((w.alloc (.cells #[.int .i64 y.now, .int .i64 y.seq, .slice A1 n1 c1, .slice A2 y.runs.length c2] 61)).alloc (.cells #[.int .i64 (⟨pr, sq, rn, tk⟩ : Entry).prio, .int .i64 (⟨pr, sq, rn, tk⟩ : Entry).seq, .int .i64 (⟨pr, sq, rn, tk⟩ : Entry).run, .int .i64 (⟨pr, sq, rn, tk⟩ : Entry).task] 116)) = W at *
  refine C.mono ?_
  rintro e1 w1 ⟨rfl, b1⟩
  replace X := X.below b1
  replace E := E.below b1
  obtain ⟨X_0, X_1, X_2, X_3, X_l⟩ := X.g4
  obtain ⟨E_0, E_1, E_2, E_3, E_l⟩ := E.g4
  replace B0 := bnext B0 b1
  obtain ⟨b, o, ⟨s1, ⟨At, nt, ct⟩⟩, hA2, hbb, hrr, c0_, c1_, c2_, c3_, c4_, c5_, c6_, c7_⟩ := (h2.below B0).run hk
  subst hA2
  obtain rfl : nt = y.runs[k].tasks.length := RdL.at1 (s := ⟨At, nt, ct⟩) hrr.2
  have h3 : RdL taskD w1 w.heap.size (.slice At y.runs[k].tasks.length ct) y.runs[k].tasks := hrr.2
  have hkI : (k : Int) < (y.runs.length : Int) := by omega
  have hk0 : decide ((0 : Int) ≤ (k : Int)) = true := decide_eq_true (by omega)
  have hlc := later_cell w1
  have hs1 : b < w1.heap.size := Nat.lt_of_lt_of_le hbb B0.size
  have wr1 : IntKind.i64.wrap ((y.runs[k].tasks.length : Int) - 1) = (y.runs[k].tasks.length : Int) - 1 := IntWalk.i64_in _ (by omega)
  cases q : inB tk 0 ((y.runs[k].tasks.length : Int) - 1)
  ·have H := Lib.hid (fresh_out (e := ⟨pr, sq, rn, tk⟩) hk HR2.out q)
   go_wp2
   refine wp_region_pure (by kernel_rfl) (by kernel_rfl) ?_
   repeat (go_big_quiet_step ((go_at_call 30; exact pure_same (fun u => l01In_any _ _ _ u.1))))
   refine wpQuiet_nil ?_
   rintro _ ⟨⟨w2, b2⟩, rfl⟩
   clear hlc
   go_wp2
   go_ret
   exact ⟨ret_bool H.out.symm, bnext B0 b2⟩
  ·have qq := inB_iff.1 q
   obtain ⟨t, rfl⟩ := Int.eq_ofNat_of_zero_le qq.1
   have ht : t < y.runs[k].tasks.length := by omega
   obtain ⟨b', o', _, hAt, hbb', _, d0, d1, d2, d3⟩ := h3.task ht
   subst hAt
   have hs2 : b' < w1.heap.size := Nat.lt_of_lt_of_le hbb' B0.size
   have htI : (t : Int) < (y.runs[k].tasks.length : Int) := by omega
   have H := Lib.hid (fresh_st (e := ⟨pr, sq, rn, (t : Int)⟩) hk HR2.out ht rfl)
   clear qq
   generalize y.runs[k].tasks[t].state = st at *
   cases q2 : (st == 2)
   all_goals
    rw [q2] at H
    go_wp2
    refine wp_region_pure (by kernel_rfl) (by kernel_rfl) ?_
    repeat (go_big_quiet_step ((go_at_call 30; exact pure_same (fun u => l01In_any _ _ _ u.1))))
    refine wpQuiet_nil ?_
    rintro _ ⟨⟨w2, b2⟩, rfl⟩
    clear hlc
    go_wp2
    go_ret
    exact ⟨ret_bool H.out.symm, bnext B0 b2⟩
end Go.Proofs.Ytonlnjdempbfoaa
end
section
namespace Go.Proofs.Ytonlnjdempbfoaa
open Go.RowKit
set_option maxRecDepth 100000
set_option maxHeartbeats 2000000
set_option linter.unusedVariables false
set_option linter.unusedSimpArgs false
theorem specTask_any (r : Run) (s : Sl × Sl) (t : Nat) (w : World) (hf : planFault r.plan = 0) (hT : (r.tasks.length : Int) = r.plan.tasks) (ht : t < r.tasks.length) (hst : 1 ≤ r.tasks[t].state ∧ r.tasks[t].state ≤ 6) (h : runD.rd w w.heap.size r s) :
  Calls Try.prog 96 #[runW r s, .int .i64 (t : Int)] w fun e w' => e = .returned (.bool (tf (taskP r t))) ∧ Below w.heap.size w w' := by
 obtain ⟨⟨A1, n1, c1⟩, ⟨A2, n2, c2⟩⟩ := s
 obtain rfl : n2 = r.tasks.length := RdL.at1 (s := ⟨A2, n2, c2⟩) h.2
 have h2 : RdL taskD w w.heap.size (.slice A2 r.tasks.length c2) r.tasks := h.2
 have h1 : Rd edgeE w w.heap.size (.slice A1 n1 c1) r.plan.edges := edge_rd h.1
 have hz := planFault_zero.1 hf
 have hl : r.tasks.length ≤ 12 := by have := manyOk_tasks hz.1; omega
 have HQ := Lib.hid (show tf (taskP r t) = tf (taskQ r.tasks[t] (needOf r t) r.plan.most) by unfold taskP; rw [taskAt_get ht])
 have htI : (t : Int) < (r.tasks.length : Int) := by omega
 have HL := Lib.hid (show ∀ x ∈ beforeL (esOf r.plan) r.plan.tasks.toNat t, x < r.tasks.length from fun x hx => by have := beforeL_lt hx; omega)
 have HN := Lib.hid (show (beforeL (esOf r.plan) r.plan.tasks.toNat t).length ≤ 12 by have := beforeL_len (esOf r.plan) r.plan.tasks.toNat t; omega)
 have HD := Lib.hid (show needOf r t = openIn r (beforeL (esOf r.plan) r.plan.tasks.toNat t) from rfl)
 have HS := Lib.hid hst
 have HZ := Lib.hid hz
 clear hT hf h hst hz
 obtain ⟨b, o, _, hA, hbb, _, d0, d1, d2, d3⟩ := h2.task ht
 subst hA
 have X := (DBox.new 98 [.int .i64 r.id, .int .i64 r.plan.prio, .int .i64 r.plan.most, .int .i64 r.plan.wait, .int .i64 r.plan.tasks, .slice A1 n1 c1, .int .i64 r.state, .slice (some ⟨b, o, none⟩) r.tasks.length c2] w (b := w.heap.size) rfl).below ((Below.refl _ _).alloc (Nat.le_refl _) (.cells #[.int .i64 r.tasks[t].state, .int .i64 r.tasks[t].need, .int .i64 r.tasks[t].try_, .int .i64 r.tasks[t].until_] 100))
 have T := DBox.new 100 [.int .i64 r.tasks[t].state, .int .i64 r.tasks[t].need, .int .i64 r.tasks[t].try_, .int .i64 r.tasks[t].until_] (w.alloc (.cells #[.int .i64 r.id, .int .i64 r.plan.prio, .int .i64 r.plan.most, .int .i64 r.plan.wait, .int .i64 r.plan.tasks, .slice A1 n1 c1, .int .i64 r.state, .slice (some ⟨b, o, none⟩) r.tasks.length c2] 98)) (b := w.heap.size + 1) (by simp)
 have B0 : Below w.heap.size w ((w.alloc (.cells #[.int .i64 r.id, .int .i64 r.plan.prio, .int .i64 r.plan.most, .int .i64 r.plan.wait, .int .i64 r.plan.tasks, .slice A1 n1 c1, .int .i64 r.state, .slice (some ⟨b, o, none⟩) r.tasks.length c2] 98)).alloc (.cells #[.int .i64 r.tasks[t].state, .int .i64 r.tasks[t].need, .int .i64 r.tasks[t].try_, .int .i64 r.tasks[t].until_] 100)) := by repeat (first | exact Below.refl _ _ | refine Below.alloc ?_ (by simp <;> omega) _)
 go_enter Try.func96, Try.ntmps96
 go_wp2_with fail
 generalize ((w.alloc (.cells #[.int .i64 r.id, .int .i64 r.plan.prio, .int .i64 r.plan.most, .int .i64 r.plan.wait, .int .i64 r.plan.tasks, .slice A1 n1 c1, .int .i64 r.state, .slice (some ⟨b, o, none⟩) r.tasks.length c2] 98)).alloc (.cells #[.int .i64 r.tasks[t].state, .int .i64 r.tasks[t].need, .int .i64 r.tasks[t].try_, .int .i64 r.tasks[t].until_] 100)) = W at *
 clear d0 d1 d2 d3
 refine (specBefore_any r.plan (.slice A1 n1 c1) t _ HZ.out.1 HZ.out.2.1 HZ.out.2.2.1 ((h1.below B0).more B0.size)).mono ?_
 rintro e w1 ⟨v, rfl, o1, b1⟩
 generalize beforeL (esOf r.plan) r.plan.tasks.toNat t = L at *
 generalize needOf r t = N at *
 obtain ⟨A3, c3, rfl, -⟩ := id (Rd.of_own o1)
 replace B0 := bnext B0 b1
 replace X := X.below b1
 replace T := T.below b1
 have hll := HN.out
 go_wp2
 go_loopw [6, 8] (fun n i wr => ∃ k : Nat, k ≤ L.length ∧ i = .int .i64 k ∧ n = .int .i64 (openIn r (L.take k) : Nat) ∧ Below w1.heap.size w1 wr) (fun _ i _ => L.length - (intOf i).toNat)
 case atStart => exact ⟨0, Nat.zero_le _, rfl, rfl, Below.refl _ _⟩
 case round =>
  obtain ⟨k, hk, rfl, rfl, hb⟩ := hrel
  have ol := openIn_le r (L.take k)
  rw [List.length_take] at ol
  by_cases hlt : k < L.length
  ·have hltI : (k : Int) < (L.length : Int) := by omega
   have hx := HL.out _ (List.getElem_mem hlt)
   obtain ⟨b3, o3, rfl, hb3, e0⟩ := (Rd.of_own (o1.below hb)).nat hlt
   obtain ⟨b2, o2, _, he, hbb2, _, d0, d1, d2, d3⟩ := (h2.below (bnext B0 hb)).task hx
   simp only [Option.some.injEq, Addr.mk.injEq, and_true] at he
   obtain ⟨rfl, rfl⟩ := he
   have hs1 : b < wr.heap.size := Nat.lt_of_lt_of_le hbb (bnext B0 hb).size
   have hxI : (L[k] : Int) < (r.tasks.length : Int) := by omega
   have ht2 := Lib.hid (taskAt_get hx)
   replace X := X.below hb
   obtain ⟨X_0, X_1, X_2, X_3, X_4, X_5, X_6, X_7, X_l⟩ := X.g8
   by_cases h4 : r.tasks[L[k]].state = 4
   ·have S := Lib.hid (openIn_no (r := r) hlt (by rw [ht2.out]; exact h4))
    have t4 : (r.tasks[L[k]].state != 4) = false := by simp [h4]
    clear h4
    go_wp2
    go_quiet (fail)
    go_wp2
    exact ⟨⟨k + 1, by omega, by go_num, by rw [S.out], bdrewN hb _⟩, by simp [intOf]; omega⟩
   ·have S := Lib.hid (openIn_yes (r := r) hlt (by rw [ht2.out]; exact h4))
    have t4 : (r.tasks[L[k]].state != 4) = true := by simp [h4]
    clear h4
    go_wp2
    go_quiet (fail)
    go_wp2
    exact ⟨⟨k + 1, by omega, by go_num, by rw [S.out]; go_num, bdrewN hb _⟩, by simp [intOf]; omega⟩
  ·have hltI : ¬ (k : Int) < (L.length : Int) := by omega
   have hk' : k = L.length := by omega
   subst hk'
   replace X := X.below hb
   replace T := T.below hb
   obtain ⟨X_0, X_1, X_2, X_3, X_4, X_5, X_6, X_7, X_l⟩ := X.g8
   obtain ⟨T_0, T_1, T_2, T_3, T_l⟩ := T.g4
   have HN2 := Lib.hid (show (N : Int) = (openIn r (L.take L.length) : Nat) by rw [HD.out, List.take_length])
   have HSt := HS.out
   have B1 := bnext B0 hb
   clear hb o1 B0
   generalize r.tasks[t] = x at *
   generalize (openIn r (L.take L.length) : Nat) = M at *
   generalize hM : (M : Int) = m at *
   have hm0 : 0 ≤ m := by omega
   have hm1 : m ≤ 12 := by omega
   clear hM
   by_cases a2 : x.need = m
   case neg =>
    have a2' : (x.need != m) = true := by simp [a2]
    have H := Lib.hid (show tf (taskP r t) = false by rw [HQ.out]; exact tf_false (fun h => a2 (by rw [h.2.1, HN2.out])))
    clear a2
    go_wp2
    go_ret
    exact ⟨ret_bool H.out.symm, B1⟩
   have a2' : (x.need != m) = false := by simp [a2]
   cases a3 : inB x.try_ 0 r.plan.most
   case false =>
    have H := Lib.hid (show tf (taskP r t) = false by rw [HQ.out]; exact tf_false (fun h => by have := inB_iff.2 h.2.2.1; rw [a3] at this; cases this))
    clear a2
    go_wp2_with (go_at_call 30; refine (l01In_any _ _ _ _).mono ?_; rintro e w' ⟨rfl, rfl⟩)
    go_ret
    exact ⟨ret_bool H.out.symm, B1⟩
   have H := Lib.hid (show tf (taskP r t) = taskFin x r.plan.most by rw [HQ.out]; exact taskQ_fin HSt (by rw [a2, HN2.out]) (inB_iff.1 a3))
   obtain ⟨st, nd, tr, un⟩ := x
   simp only at *
   subst a2
   have S := (show st = 1 ∨ st = 2 ∨ st = 3 ∨ st = 4 ∨ st = 5 ∨ st = 6 by omega)
   clear HSt
   rcases S with rfl | rfl | rfl | rfl | rfl | rfl
   all_goals
    go_wp2_with (go_at_call 30; refine (l01In_any _ _ _ _).mono ?_; rintro e w' ⟨rfl, rfl⟩)
    all_goals
     go_ret
     exact ⟨ret_bool (by
      rw [H.out]
      unfold taskFin
      try have e1 := bne_t ‹(un != 0) = true›
      try have e1 := bne_f ‹(un != 0) = false›
      try have e3 := beq_t ‹(nd == 0) = true›
      try have e3 := beq_f ‹(nd == 0) = false›
      simp [*]), B1⟩
end Go.Proofs.Ytonlnjdempbfoaa
end
section
namespace Go.Proofs.Ytonlnjdempbfoaa
open Go.RowKit
set_option maxRecDepth 100000
set_option maxHeartbeats 2000000
set_option linter.unusedVariables false
set_option linter.unusedSimpArgs false
def stI (c1 c2 c3 c4 c5 c6 n : Int) : Int := if c4 = n then 2 else if c5 = 1 ∧ c1 + c2 + c3 = 0 then 3 else if c5 = 0 ∧ 0 < c6 ∧ c1 + c2 + c3 = 0 then 4 else if c5 = 0 ∧ c6 = 0 then 1 else 0
theorem stL_int (l : List Task) : stL l = stI (cntS l 1 : Nat) (cntS l 2 : Nat) (cntS l 3 : Nat) (cntS l 4 : Nat) (cntS l 5 : Nat) (cntS l 6 : Nat) (l.length : Nat) := by
 unfold stL stI restOf
 generalize cntS l 1 = a
 generalize cntS l 2 = b
 generalize cntS l 3 = c
 generalize cntS l 4 = d
 generalize cntS l 5 = e
 generalize cntS l 6 = f
 repeat' split
 all_goals first | rfl | (exfalso; omega)
theorem cntS_step {l : List Task} {k : Nat} (hk : k < l.length) {s : Int} : ((cntS (l.take (k + 1)) s : Nat) : Int) = (cntS (l.take k) s : Nat) + (if l[k].state = s then 1 else 0) := by
 by_cases h : l[k].state = s
 ·rw [cntS_yes hk h, if_pos h]; rfl
 ·rw [cntS_no hk h, if_neg h]; simp
theorem specState_any (r : Run) (s : Sl × Sl) (w : World) (hl : r.tasks.length ≤ 2000000) (hst : ∀ x ∈ r.tasks, 1 ≤ x.state ∧ x.state ≤ 6) (h : runD.rd w w.heap.size r s) :
  Calls Try.prog 93 #[runW r s] w fun e w' => e = .returned (.int .i64 (stL r.tasks)) ∧ Below w.heap.size w w' := by
 obtain ⟨⟨A1, n1, c1⟩, ⟨A2, n2, c2⟩⟩ := s
 obtain rfl : n2 = r.tasks.length := RdL.at1 (s := ⟨A2, n2, c2⟩) h.2
 have h2 : RdL taskD w w.heap.size (.slice A2 r.tasks.length c2) r.tasks := h.2
 have HS := Lib.hid (stL_int r.tasks)
 have HT := Lib.hid hst
 clear h hst
 have X := (DBox.new 98 [.int .i64 r.id, .int .i64 r.plan.prio, .int .i64 r.plan.most, .int .i64 r.plan.wait, .int .i64 r.plan.tasks, .slice A1 n1 c1, .int .i64 r.state, .slice A2 r.tasks.length c2] w (b := w.heap.size) rfl).below ((Below.refl _ _).alloc (Nat.le_refl _) (.cells #[.int .i64 0, .int .i64 0, .int .i64 0, .int .i64 0, .int .i64 0, .int .i64 0, .int .i64 0] 3))
 have E := DBox.new 3 [.int .i64 0, .int .i64 0, .int .i64 0, .int .i64 0, .int .i64 0, .int .i64 0, .int .i64 0] (w.alloc (.cells #[.int .i64 r.id, .int .i64 r.plan.prio, .int .i64 r.plan.most, .int .i64 r.plan.wait, .int .i64 r.plan.tasks, .slice A1 n1 c1, .int .i64 r.state, .slice A2 r.tasks.length c2] 98)) (b := w.heap.size + 1) (by simp)
 have B0 : Below w.heap.size w ((w.alloc (.cells #[.int .i64 r.id, .int .i64 r.plan.prio, .int .i64 r.plan.most, .int .i64 r.plan.wait, .int .i64 r.plan.tasks, .slice A1 n1 c1, .int .i64 r.state, .slice A2 r.tasks.length c2] 98)).alloc (.cells #[.int .i64 0, .int .i64 0, .int .i64 0, .int .i64 0, .int .i64 0, .int .i64 0, .int .i64 0] 3)) := by repeat (first | exact Below.refl _ _ | refine Below.alloc ?_ (by simp <;> omega) _)
 go_enter Try.func93, Try.ntmps93
 go_wp2
 generalize ((w.alloc (.cells #[.int .i64 r.id, .int .i64 r.plan.prio, .int .i64 r.plan.most, .int .i64 r.plan.wait, .int .i64 r.plan.tasks, .slice A1 n1 c1, .int .i64 r.state, .slice A2 r.tasks.length c2] 98)).alloc (.cells #[.int .i64 0, .int .i64 0, .int .i64 0, .int .i64 0, .int .i64 0, .int .i64 0, .int .i64 0] 3)) = W at *
 go_loopw [4] (fun i wr => ∃ k : Nat, k ≤ r.tasks.length ∧ i = .int .i64 k ∧ DBox w.heap.size [.int .i64 r.id, .int .i64 r.plan.prio, .int .i64 r.plan.most, .int .i64 r.plan.wait, .int .i64 r.plan.tasks, .slice A1 n1 c1, .int .i64 r.state, .slice A2 r.tasks.length c2] wr ∧ DBox (w.heap.size + 1) [.int .i64 0, .int .i64 (cntS (r.tasks.take k) 1 : Nat), .int .i64 (cntS (r.tasks.take k) 2 : Nat), .int .i64 (cntS (r.tasks.take k) 3 : Nat), .int .i64 (cntS (r.tasks.take k) 4 : Nat), .int .i64 (cntS (r.tasks.take k) 5 : Nat), .int .i64 (cntS (r.tasks.take k) 6 : Nat)] wr ∧ Below w.heap.size w wr) (fun i _ => r.tasks.length - (intOf i).toNat)
 case atStart => exact ⟨0, Nat.zero_le _, rfl, X, E, B0⟩
 case round =>
  clear X E B0
  obtain ⟨k, hk, rfl, X, E, hb⟩ := hrel
  obtain ⟨X_0, X_1, X_2, X_3, X_4, X_5, X_6, X_7, X_l⟩ := X.g8
  obtain ⟨E_0, E_1, E_2, E_3, E_4, E_5, E_6, E_l⟩ := E.g7
  have Ef := E.free
  have L1 := cntS_le (r.tasks.take k) 1
  have L2 := cntS_le (r.tasks.take k) 2
  have L3 := cntS_le (r.tasks.take k) 3
  have L4 := cntS_le (r.tasks.take k) 4
  have L5 := cntS_le (r.tasks.take k) 5
  have L6 := cntS_le (r.tasks.take k) 6
  rw [List.length_take] at L1 L2 L3 L4 L5 L6
  by_cases hlt : k < r.tasks.length
  ·have hltI : (k : Int) < (r.tasks.length : Int) := by omega
   obtain ⟨b, o, _, rfl, hbb, _, d0, d1, d2, d3⟩ := (h2.below hb).task hlt
   have hs := hb.size
   have S1 := Lib.hid (cntS_step (s := 1) hlt)
   have S2 := Lib.hid (cntS_step (s := 2) hlt)
   have S3 := Lib.hid (cntS_step (s := 3) hlt)
   have S4 := Lib.hid (cntS_step (s := 4) hlt)
   have S5 := Lib.hid (cntS_step (s := 5) hlt)
   have S6 := Lib.hid (cntS_step (s := 6) hlt)
   have hst := HT.out _ (List.getElem_mem hlt)
   generalize r.tasks[k].state = st at *
   have S := (show st = 1 ∨ st = 2 ∨ st = 3 ∨ st = 4 ∨ st = 5 ∨ st = 6 by omega)
   clear hst
   rcases S with rfl | rfl | rfl | rfl | rfl | rfl
   ·go_wp2
    have E2 := E.set 1 (by simp) (.int .i64 ((cntS (r.tasks.take k) 1 : Nat) + 1))
    refine ⟨⟨k + 1, by omega, by go_num, X.setOther (by simp) _, ?_, Below.setCell hb (by simp) _⟩, by simp [intOf]; omega⟩
    rw [S1.out, S2.out, S3.out, S4.out, S5.out, S6.out]
    simpa using E2
   ·go_wp2
    have E2 := E.set 2 (by simp) (.int .i64 ((cntS (r.tasks.take k) 2 : Nat) + 1))
    refine ⟨⟨k + 1, by omega, by go_num, X.setOther (by simp) _, ?_, Below.setCell hb (by simp) _⟩, by simp [intOf]; omega⟩
    rw [S1.out, S2.out, S3.out, S4.out, S5.out, S6.out]
    simpa using E2
   ·go_wp2
    have E2 := E.set 3 (by simp) (.int .i64 ((cntS (r.tasks.take k) 3 : Nat) + 1))
    refine ⟨⟨k + 1, by omega, by go_num, X.setOther (by simp) _, ?_, Below.setCell hb (by simp) _⟩, by simp [intOf]; omega⟩
    rw [S1.out, S2.out, S3.out, S4.out, S5.out, S6.out]
    simpa using E2
   ·go_wp2
    have E2 := E.set 4 (by simp) (.int .i64 ((cntS (r.tasks.take k) 4 : Nat) + 1))
    refine ⟨⟨k + 1, by omega, by go_num, X.setOther (by simp) _, ?_, Below.setCell hb (by simp) _⟩, by simp [intOf]; omega⟩
    rw [S1.out, S2.out, S3.out, S4.out, S5.out, S6.out]
    simpa using E2
   ·go_wp2
    have E2 := E.set 5 (by simp) (.int .i64 ((cntS (r.tasks.take k) 5 : Nat) + 1))
    refine ⟨⟨k + 1, by omega, by go_num, X.setOther (by simp) _, ?_, Below.setCell hb (by simp) _⟩, by simp [intOf]; omega⟩
    rw [S1.out, S2.out, S3.out, S4.out, S5.out, S6.out]
    simpa using E2
   ·go_wp2
    have E2 := E.set 6 (by simp) (.int .i64 ((cntS (r.tasks.take k) 6 : Nat) + 1))
    refine ⟨⟨k + 1, by omega, by go_num, X.setOther (by simp) _, ?_, Below.setCell hb (by simp) _⟩, by simp [intOf]; omega⟩
    rw [S1.out, S2.out, S3.out, S4.out, S5.out, S6.out]
    simpa using E2
  ·have hltI : ¬ (k : Int) < (r.tasks.length : Int) := by omega
   have hk' : k = r.tasks.length := by omega
   subst hk'
   rw [List.take_length] at *
   generalize hc1 : ((cntS r.tasks 1 : Nat) : Int) = c1' at *
   generalize hc2 : ((cntS r.tasks 2 : Nat) : Int) = c2' at *
   generalize hc3 : ((cntS r.tasks 3 : Nat) : Int) = c3' at *
   generalize hc4 : ((cntS r.tasks 4 : Nat) : Int) = c4' at *
   generalize hc5 : ((cntS r.tasks 5 : Nat) : Int) = c5' at *
   generalize hc6 : ((cntS r.tasks 6 : Nat) : Int) = c6' at *
   have m1 : 0 ≤ c1' ∧ c1' ≤ 2000000 := by omega
   have m2 : 0 ≤ c2' ∧ c2' ≤ 2000000 := by omega
   have m3 : 0 ≤ c3' ∧ c3' ≤ 2000000 := by omega
   have m4 : 0 ≤ c4' := by omega
   have m5 : 0 ≤ c5' := by omega
   have m6 : 0 ≤ c6' := by omega
   clear hc1 hc2 hc3 hc4 hc5 hc6 L1 L2 L3 L4 L5 L6
   have w1' : IntKind.i64.wrap (c1' + c2') = c1' + c2' := IntWalk.i64_in _ (by omega)
   have w2' : IntKind.i64.wrap (c1' + c2' + c3') = c1' + c2' + c3' := IntWalk.i64_in _ (by omega)
   have hlc := later_cell wr
   by_cases q1 : c4' = (r.tasks.length : Int)
   ·have H := Lib.hid (show stL r.tasks = 2 by rw [HS.out]; unfold stI; rw [if_pos q1])
    have q1' : (c4' == (r.tasks.length : Int)) = true := beq_iff_eq.2 q1
    clear q1
    go_wp2
    go_quiet (fail)
    go_wp2
    go_quiet (fail)
    go_wp2
    go_ret
    exact ⟨ret_int H.out.symm, by first | exact bdrewN hb _ | exact bdrewN (bdrewN hb _) _⟩
   have q1' : (c4' == (r.tasks.length : Int)) = false := beq_eq_false_iff_ne.2 q1
   by_cases q2 : c1' + c2' + c3' = 0
   all_goals
    first
     | (have q2' : (c1' + c2' + c3' == 0) = true := beq_iff_eq.2 q2)
     | (have q2' : (c1' + c2' + c3' == 0) = false := beq_eq_false_iff_ne.2 q2)
    by_cases q3 : c5' = 1
    ·have q3' : (c5' == 1) = true := beq_iff_eq.2 q3
     have q4' : (c5' == 0) = false := beq_eq_false_iff_ne.2 (by omega)
     have H := Lib.hid (show stL r.tasks = stI c1' c2' c3' c4' c5' c6' r.tasks.length from HS.out)
     simp only [stI, if_neg q1, q2, q3, and_self, if_true, and_true, true_and, if_false, false_and, and_false, show ¬ ((1 : Int) = 0) by omega] at H
     clear q1 q2 q3
     go_wp2
     go_quiet (fail)
     go_wp2
     go_quiet (fail)
     go_wp2
     go_ret
     exact ⟨ret_int H.out.symm, by first | exact bdrewN hb _ | exact bdrewN (bdrewN hb _) _⟩
    have q3' : (c5' == 1) = false := beq_eq_false_iff_ne.2 q3
    by_cases q4 : c5' = 0
    ·have q4' : (c5' == 0) = true := beq_iff_eq.2 q4
     by_cases q5 : c6' = 0
     ·have q5' : (c6' == 0) = true := beq_iff_eq.2 q5
      have q6' : decide (0 < c6') = false := decide_eq_false (by omega)
      have H := Lib.hid (show stL r.tasks = stI c1' c2' c3' c4' c5' c6' r.tasks.length from HS.out)
      simp only [stI, if_neg q1, q2, q3, q4, q5, and_self, if_true, and_true, true_and, if_false, false_and, and_false, show ¬ ((0 : Int) = 1) by omega, show ¬ ((0 : Int) < 0) by omega] at H
      clear q1 q2 q3 q4 q5
      go_wp2
      go_quiet (fail)
      go_wp2
      go_quiet (fail)
      go_wp2
      go_ret
      exact ⟨ret_int H.out.symm, by first | exact bdrewN hb _ | exact bdrewN (bdrewN hb _) _⟩
     ·have q5' : (c6' == 0) = false := beq_eq_false_iff_ne.2 q5
      have q6 : 0 < c6' := by omega
      have q6' : decide (0 < c6') = true := decide_eq_true q6
      have H := Lib.hid (show stL r.tasks = stI c1' c2' c3' c4' c5' c6' r.tasks.length from HS.out)
      simp only [stI, if_neg q1, q2, q3, q4, q5, q6, and_self, if_true, and_true, true_and, if_false, false_and, and_false, show ¬ ((0 : Int) = 1) by omega] at H
      clear q1 q2 q3 q4 q5 q6
      go_wp2
      go_quiet (fail)
      go_wp2
      go_quiet (fail)
      go_wp2
      go_ret
      exact ⟨ret_int H.out.symm, by first | exact bdrewN hb _ | exact bdrewN (bdrewN hb _) _⟩
    ·have q4' : (c5' == 0) = false := beq_eq_false_iff_ne.2 q4
     have H := Lib.hid (show stL r.tasks = stI c1' c2' c3' c4' c5' c6' r.tasks.length from HS.out)
     simp only [stI, if_neg q1, q2, q3, q4, and_self, if_true, and_true, true_and, if_false, false_and, and_false] at H
     clear q1 q2 q3 q4
     go_wp2
     go_quiet (fail)
     go_wp2
     go_quiet (fail)
     go_wp2
     go_ret
     exact ⟨ret_int H.out.symm, by first | exact bdrewN hb _ | exact bdrewN (bdrewN hb _) _⟩
end Go.Proofs.Ytonlnjdempbfoaa
end
section
namespace Go.Proofs.Ytonlnjdempbfoaa
open Go.RowKit
set_option maxRecDepth 100000
set_option maxHeartbeats 4000000
set_option linter.unusedVariables false
set_option linter.unusedSimpArgs false
theorem stand_bad1 {now : Int} {r : Run} {es : List Entry} {t k : Nat} (ht : t < r.tasks.length) (h2 : r.tasks[t].state = 2) (hk : k < es.length) (hm : mineE r.id t es[k] = true) (hp : ¬ es[k].prio = r.plan.prio) : ¬ standP now r es := by
 intro h
 have h3 := (h t ht).1
 rw [taskAt_get ht] at h3
 exact hp ((h3 h2).1 _ (List.getElem_mem hk) hm)
theorem stand_bad2 {now : Int} {r : Run} {es : List Entry} {t : Nat} (ht : t < r.tasks.length) (h2 : r.tasks[t].state = 2) (hm : ¬ mineN r.id t es = 1) : ¬ standP now r es := by
 intro h
 have h3 := (h t ht).1
 rw [taskAt_get ht] at h3
 exact hm (h3 h2).2
theorem stand_bad3 {now : Int} {r : Run} {es : List Entry} {t : Nat} (ht : t < r.tasks.length) (h2 : r.tasks[t].state = 3) (hm : inB r.tasks[t].until_ (now + 1) (now + r.plan.wait) = false) : ¬ standP now r es := by
 intro h
 have h3 := (h t ht).2
 rw [taskAt_get ht] at h3
 have := inB_iff.2 (h3 h2)
 rw [hm] at this
 cases this
theorem laid_ok {now : Int} {r : Run} {es : List Entry} {t : Nat} (ht : t < r.tasks.length) (h1 : r.tasks[t].state = 2 → (∀ j (hj : j < es.length), mineE r.id t es[j] = true → es[j].prio = r.plan.prio) ∧ mineN r.id t es = 1)
  (h2 : r.tasks[t].state = 3 → inB r.tasks[t].until_ (now + 1) (now + r.plan.wait) = true) : laidP now r es t := by
 unfold laidP
 rw [taskAt_get ht]
 refine ⟨fun h => ⟨fun e he hm => ?_, (h1 h).2⟩, fun h => inB_iff.1 (h2 h)⟩
 obtain ⟨j, hj, rfl⟩ := List.getElem_of_mem he
 exact (h1 h).1 j hj hm
/-- the entries of a task up to a place have the run's prio -/
def priosOk (r : Run) (t : Nat) (es : List Entry) (k : Nat) : Prop := ∀ j (hj : j < es.length), j < k → mineE r.id t es[j] = true → es[j].prio = r.plan.prio
theorem prios_step {r : Run} {t : Nat} {es : List Entry} {k : Nat} (h : priosOk r t es k) (hk : k < es.length) (hp : mineE r.id t es[k] = true → es[k].prio = r.plan.prio) : priosOk r t es (k + 1) := by
 intro j hj hjk hm
 by_cases e : j = k
 ·subst e; exact hp hm
 ·exact h j hj (by omega) hm
theorem specStand_any (y : Yard) (s : Sl × Sl) (r : Run) (s2 : Sl × Sl) (es : List Entry) (s3 : Sl) (w : World) (hl2 : r.tasks.length ≤ 2000000) (hl3 : es.length ≤ 2000000) (hn : 0 ≤ y.now ∧ y.now ≤ 999999980) (hw : 1 ≤ r.plan.wait ∧ r.plan.wait ≤ 20)
  (h' : runD.rd w w.heap.size r s2) (h3 : Rd entE w w.heap.size s3.v es) :
  Calls Try.prog 82 #[yardW y s, runW r s2, .slice s3.a s3.n s3.c] w fun e w' => e = .returned (.bool (tf (standP y.now r es))) ∧ Below w.heap.size w w' := by
 obtain ⟨⟨A1, n1, c1⟩, ⟨A2, n2, c2⟩⟩ := s
 obtain ⟨⟨A4, n4, c4⟩, ⟨A5, n5, c5⟩⟩ := s2
 obtain ⟨A6, n6, c6⟩ := s3
 obtain rfl : n5 = r.tasks.length := RdL.at1 (s := ⟨A5, n5, c5⟩) h'.2
 obtain rfl : n6 = es.length := RdL.at1 (s := ⟨A6, n6, c6⟩) (ent_rdL h3)
 have h2 : RdL taskD w w.heap.size (.slice A5 r.tasks.length c5) r.tasks := h'.2
 have h3 : RdL entryD w w.heap.size (.slice A6 es.length c6) es := ent_rdL h3
 clear h'
 have X := (DBox.new 61 [.int .i64 y.now, .int .i64 y.seq, .slice A1 n1 c1, .slice A2 n2 c2] w (b := w.heap.size) rfl).below ((Below.refl _ _).alloc (Nat.le_refl _) (.cells #[.int .i64 r.id, .int .i64 r.plan.prio, .int .i64 r.plan.most, .int .i64 r.plan.wait, .int .i64 r.plan.tasks, .slice A4 n4 c4, .int .i64 r.state, .slice A5 r.tasks.length c5] 98))
 have R := DBox.new 98 [.int .i64 r.id, .int .i64 r.plan.prio, .int .i64 r.plan.most, .int .i64 r.plan.wait, .int .i64 r.plan.tasks, .slice A4 n4 c4, .int .i64 r.state, .slice A5 r.tasks.length c5] (w.alloc (.cells #[.int .i64 y.now, .int .i64 y.seq, .slice A1 n1 c1, .slice A2 n2 c2] 61)) (b := w.heap.size + 1) (by simp)
 have B0 : Below w.heap.size w ((w.alloc (.cells #[.int .i64 y.now, .int .i64 y.seq, .slice A1 n1 c1, .slice A2 n2 c2] 61)).alloc (.cells #[.int .i64 r.id, .int .i64 r.plan.prio, .int .i64 r.plan.most, .int .i64 r.plan.wait, .int .i64 r.plan.tasks, .slice A4 n4 c4, .int .i64 r.state, .slice A5 r.tasks.length c5] 98)) := by repeat (first | exact Below.refl _ _ | refine Below.alloc ?_ (by simp <;> omega) _)
 go_enter Try.func82, Try.ntmps82
 go_wp2
 generalize ((w.alloc (.cells #[.int .i64 y.now, .int .i64 y.seq, .slice A1 n1 c1, .slice A2 n2 c2] 61)).alloc (.cells #[.int .i64 r.id, .int .i64 r.plan.prio, .int .i64 r.plan.most, .int .i64 r.plan.wait, .int .i64 r.plan.tasks, .slice A4 n4 c4, .int .i64 r.state, .slice A5 r.tasks.length c5] 98)) = W at *
 go_loopw [7] (fun i wr => ∃ k : Nat, k ≤ r.tasks.length ∧ i = .int .i64 k ∧ Hid (∀ t, t < k → laidP y.now r es t) ∧ Below W.heap.size W wr) (fun i _ => r.tasks.length - (intOf i).toNat)
 case atStart => exact ⟨0, Nat.zero_le _, rfl, fun t ht => absurd ht (by omega), Below.refl _ _⟩
 case round =>
  obtain ⟨t, hk, rfl, hok, hb⟩ := hrel
  by_cases hlt : t < r.tasks.length
  ·have hltI : (t : Int) < (r.tasks.length : Int) := by omega
   have R1 := R.below hb
   have hx0 : wr.cell? ⟨w.heap.size + 1, 7, none⟩ = some (.slice A5 r.tasks.length c5) := R1.cell 7 _ rfl
   have hx1 := R1.lt
   go_wp2
   clear hx0 hx1 R1
   go_loopw [8, 9] (fun n i wq => ∃ j : Nat, j ≤ es.length ∧ i = .int .i64 j ∧ n = .int .i64 (mineN r.id t (es.take j) : Nat) ∧ Hid (r.tasks[t].state = 2 → priosOk r t es j) ∧ Below W.heap.size W wq) (fun _ i _ => es.length - (intOf i).toNat)
   case atStart => exact ⟨0, Nat.zero_le _, rfl, rfl, fun _ j hj h0 => absurd h0 (by omega), hb⟩
   case round =>
    clear hb
    obtain ⟨j, hj, rfl, rfl, hpo, hb⟩ := hrel
    have hmn := mineN_le r.id t (es.take j)
    rw [List.length_take] at hmn
    have X := X.below hb
    have R := R.below hb
    obtain ⟨X_0, X_1, X_2, X_3, X_l⟩ := X.g4
    obtain ⟨R_0, R_1, R_2, R_3, R_4, R_5, R_6, R_7, R_l⟩ := R.g8
    have B1 := bnext B0 hb
    obtain ⟨b, o, _, hA5, hbb, _, d0, d1, d2, d3⟩ := (h2.below B1).task hlt
    subst hA5
    have hs1 : b < wr.heap.size := Nat.lt_of_lt_of_le hbb B1.size
    have hlc := later_cell wr
    by_cases hjt : j < es.length
    ·have hjI : (j : Int) < (es.length : Int) := by omega
     obtain ⟨b6, o6, _, hA6, hbb6, _, f0, f1, f2, f3⟩ := (h3.below B1).entry hjt
     subst hA6
     have hs6 : b6 < wr.heap.size := Nat.lt_of_lt_of_le hbb6 B1.size
     have HM : Hid (mineE r.id t es[j] = ((es[j].run == r.id) && (es[j].task == (t : Int)))) := rfl
     have HY := Lib.hid (mineN_yes (id := r.id) (t := t) hjt)
     have HN := Lib.hid (mineN_no (id := r.id) (t := t) hjt)
     cases q1 : (es[j].run == r.id)
     ·have hm : mineE r.id t es[j] = false := by rw [HM.out, q1]; rfl
      have S := Lib.hid (HN.out hm)
      have S2 : Hid (r.tasks[t].state = 2 → priosOk r t es (j + 1)) := fun h2 => prios_step (hpo.out h2) hjt (fun hh => by rw [hm] at hh; cases hh)
      clear hm
      go_wp2
      go_quiet (fail)
      go_wp2
      first
       | exact ⟨⟨j + 1, by omega, by go_num, by rw [S.out], S2, bdrewN hb _⟩, by simp [intOf]; omega⟩
       | (refine ⟨?_, by simp [intOf]; omega⟩; (repeat apply Exists.intro); first | exact ⟨⟨j + 1, by omega, by go_num, by rw [S.out], S2, bdrewN hb _⟩, rfl⟩ | exact ⟨⟨j + 1, by omega, by go_num, by rw [S.out], S2, bdrewN hb _⟩, rfl, rfl⟩ | exact ⟨⟨j + 1, by omega, by go_num, by rw [S.out], S2, bdrewN hb _⟩, rfl, rfl, rfl⟩ | exact ⟨⟨j + 1, by omega, by go_num, by rw [S.out], S2, bdrewN hb _⟩, rfl, rfl, rfl, rfl⟩ | exact ⟨⟨j + 1, by omega, by go_num, by rw [S.out], S2, bdrewN hb _⟩, rfl, rfl, rfl, rfl, rfl⟩ | exact ⟨⟨j + 1, by omega, by go_num, by rw [S.out], S2, bdrewN hb _⟩, rfl, rfl, rfl, rfl, rfl, rfl⟩ | exact ⟨⟨j + 1, by omega, by go_num, by rw [S.out], S2, bdrewN hb _⟩, rfl, rfl, rfl, rfl, rfl, rfl, rfl⟩)
     cases q2 : (es[j].task == (t : Int))
     ·have hm : mineE r.id t es[j] = false := by rw [HM.out, q1, q2]; rfl
      have S := Lib.hid (HN.out hm)
      have S2 : Hid (r.tasks[t].state = 2 → priosOk r t es (j + 1)) := fun h2 => prios_step (hpo.out h2) hjt (fun hh => by rw [hm] at hh; cases hh)
      clear hm
      go_wp2
      go_quiet (fail)
      go_wp2
      first
       | exact ⟨⟨j + 1, by omega, by go_num, by rw [S.out], S2, bdrewN hb _⟩, by simp [intOf]; omega⟩
       | (refine ⟨?_, by simp [intOf]; omega⟩; (repeat apply Exists.intro); first | exact ⟨⟨j + 1, by omega, by go_num, by rw [S.out], S2, bdrewN hb _⟩, rfl⟩ | exact ⟨⟨j + 1, by omega, by go_num, by rw [S.out], S2, bdrewN hb _⟩, rfl, rfl⟩ | exact ⟨⟨j + 1, by omega, by go_num, by rw [S.out], S2, bdrewN hb _⟩, rfl, rfl, rfl⟩ | exact ⟨⟨j + 1, by omega, by go_num, by rw [S.out], S2, bdrewN hb _⟩, rfl, rfl, rfl, rfl⟩ | exact ⟨⟨j + 1, by omega, by go_num, by rw [S.out], S2, bdrewN hb _⟩, rfl, rfl, rfl, rfl, rfl⟩ | exact ⟨⟨j + 1, by omega, by go_num, by rw [S.out], S2, bdrewN hb _⟩, rfl, rfl, rfl, rfl, rfl, rfl⟩ | exact ⟨⟨j + 1, by omega, by go_num, by rw [S.out], S2, bdrewN hb _⟩, rfl, rfl, rfl, rfl, rfl, rfl, rfl⟩)
     have hm : mineE r.id t es[j] = true := by rw [HM.out, q1, q2]; rfl
     have S := Lib.hid (HY.out hm)
     have HM2 := Lib.hid hm
     clear hm
     by_cases q3 : r.tasks[t].state = 2
     ·have q3' : (r.tasks[t].state == 2) = true := beq_iff_eq.2 q3
      by_cases q4 : es[j].prio = r.plan.prio
      ·have q4' : (es[j].prio != r.plan.prio) = false := by simp [q4]
       have S2 : Hid (r.tasks[t].state = 2 → priosOk r t es (j + 1)) := fun h2 => prios_step (hpo.out h2) hjt (fun _ => q4)
       clear q3 q4
       go_wp2
       go_quiet (fail)
       go_wp2
       go_quiet (fail)
       go_wp2
       first
        | exact ⟨⟨j + 1, by omega, by go_num, by rw [S.out]; go_num, S2, by first | exact bdrewN hb _ | exact bdrewN (bdrewN hb _) _⟩, by simp [intOf]; omega⟩
        | (refine ⟨?_, by simp [intOf]; omega⟩; (repeat apply Exists.intro); first | exact ⟨⟨j + 1, by omega, by go_num, by rw [S.out]; go_num, S2, by first | exact bdrewN hb _ | exact bdrewN (bdrewN hb _) _⟩, rfl⟩ | exact ⟨⟨j + 1, by omega, by go_num, by rw [S.out]; go_num, S2, by first | exact bdrewN hb _ | exact bdrewN (bdrewN hb _) _⟩, rfl, rfl⟩ | exact ⟨⟨j + 1, by omega, by go_num, by rw [S.out]; go_num, S2, by first | exact bdrewN hb _ | exact bdrewN (bdrewN hb _) _⟩, rfl, rfl, rfl⟩ | exact ⟨⟨j + 1, by omega, by go_num, by rw [S.out]; go_num, S2, by first | exact bdrewN hb _ | exact bdrewN (bdrewN hb _) _⟩, rfl, rfl, rfl, rfl⟩ | exact ⟨⟨j + 1, by omega, by go_num, by rw [S.out]; go_num, S2, by first | exact bdrewN hb _ | exact bdrewN (bdrewN hb _) _⟩, rfl, rfl, rfl, rfl, rfl⟩ | exact ⟨⟨j + 1, by omega, by go_num, by rw [S.out]; go_num, S2, by first | exact bdrewN hb _ | exact bdrewN (bdrewN hb _) _⟩, rfl, rfl, rfl, rfl, rfl, rfl⟩ | exact ⟨⟨j + 1, by omega, by go_num, by rw [S.out]; go_num, S2, by first | exact bdrewN hb _ | exact bdrewN (bdrewN hb _) _⟩, rfl, rfl, rfl, rfl, rfl, rfl, rfl⟩)
      ·have q4' : (es[j].prio != r.plan.prio) = true := by simp [q4]
       have H := Lib.hid (tf_false (stand_bad1 (now := y.now) hlt q3 hjt HM2.out q4))
       clear q3 q4
       go_wp2
       go_quiet (fail)
       go_wp2
       go_quiet (fail)
       go_wp2
       go_ret
       exact ⟨ret_bool H.out.symm, by first | exact bdrewN B1 _ | exact bdrewN (bdrewN B1 _) _⟩
     ·have q3' : (r.tasks[t].state == 2) = false := beq_eq_false_iff_ne.2 q3
      have S2 : Hid (r.tasks[t].state = 2 → priosOk r t es (j + 1)) := fun h2 => absurd h2 q3
      clear q3
      go_wp2
      go_quiet (fail)
      go_wp2
      go_quiet (fail)
      go_wp2
      first
       | exact ⟨⟨j + 1, by omega, by go_num, by rw [S.out]; go_num, S2, by first | exact bdrewN hb _ | exact bdrewN (bdrewN hb _) _⟩, by simp [intOf]; omega⟩
       | (refine ⟨?_, by simp [intOf]; omega⟩; (repeat apply Exists.intro); first | exact ⟨⟨j + 1, by omega, by go_num, by rw [S.out]; go_num, S2, by first | exact bdrewN hb _ | exact bdrewN (bdrewN hb _) _⟩, rfl⟩ | exact ⟨⟨j + 1, by omega, by go_num, by rw [S.out]; go_num, S2, by first | exact bdrewN hb _ | exact bdrewN (bdrewN hb _) _⟩, rfl, rfl⟩ | exact ⟨⟨j + 1, by omega, by go_num, by rw [S.out]; go_num, S2, by first | exact bdrewN hb _ | exact bdrewN (bdrewN hb _) _⟩, rfl, rfl, rfl⟩ | exact ⟨⟨j + 1, by omega, by go_num, by rw [S.out]; go_num, S2, by first | exact bdrewN hb _ | exact bdrewN (bdrewN hb _) _⟩, rfl, rfl, rfl, rfl⟩ | exact ⟨⟨j + 1, by omega, by go_num, by rw [S.out]; go_num, S2, by first | exact bdrewN hb _ | exact bdrewN (bdrewN hb _) _⟩, rfl, rfl, rfl, rfl, rfl⟩ | exact ⟨⟨j + 1, by omega, by go_num, by rw [S.out]; go_num, S2, by first | exact bdrewN hb _ | exact bdrewN (bdrewN hb _) _⟩, rfl, rfl, rfl, rfl, rfl, rfl⟩ | exact ⟨⟨j + 1, by omega, by go_num, by rw [S.out]; go_num, S2, by first | exact bdrewN hb _ | exact bdrewN (bdrewN hb _) _⟩, rfl, rfl, rfl, rfl, rfl, rfl, rfl⟩)
    ·have hjI : ¬ (j : Int) < (es.length : Int) := by omega
     have hj' : j = es.length := by omega
     subst hj'
     rw [List.take_length] at *
     have HP : Hid (r.tasks[t].state = 2 → ∀ j (hj : j < es.length), mineE r.id t es[j] = true → es[j].prio = r.plan.prio) := fun h2 j hj hm => hpo.out h2 j hj hj hm
     have step : laidP y.now r es t → Hid (∀ t', t' < t + 1 → laidP y.now r es t') := fun hx t' ht' => by
      by_cases e : t' = t
      ·subst e; exact hx
      ·exact hok.out t' (by omega)
     have w1' : IntKind.i64.wrap (y.now + 1) = y.now + 1 := IntWalk.i64_in _ (by omega)
     have w2' : IntKind.i64.wrap (y.now + r.plan.wait) = y.now + r.plan.wait := IntWalk.i64_in _ (by omega)
     generalize hM : (mineN r.id t es : Int) = M at *
     by_cases q3 : r.tasks[t].state = 2
     ·have q3' : (r.tasks[t].state == 2) = true := beq_iff_eq.2 q3
      have q5' : (r.tasks[t].state == 3) = false := beq_eq_false_iff_ne.2 (by omega)
      by_cases q4 : M = 1
      ·have S := step (laid_ok hlt (fun h => ⟨HP.out h, by omega⟩) (fun h => by omega))
       have q4' : (M != 1) = false := by simp [q4]
       clear q3 q4 step hM
       go_wp2
       refine wp_region_pure (by kernel_rfl) (by kernel_rfl) ?_
       repeat (go_big_quiet_step ((go_at_call 30; exact pure_same (fun u => l01In_any _ _ _ u.1))))
       refine wpQuiet_nil ?_
       rintro _ ⟨⟨w2, b2⟩, rfl⟩
       clear hlc
       go_wp2
       first
        | exact ⟨⟨t + 1, by omega, by go_num, S, bnext hb b2⟩, by simp [intOf]; omega⟩
        | (refine ⟨?_, by simp [intOf]; omega⟩; (repeat apply Exists.intro); first | exact ⟨⟨t + 1, by omega, by go_num, S, bnext hb b2⟩, rfl⟩ | exact ⟨⟨t + 1, by omega, by go_num, S, bnext hb b2⟩, rfl, rfl⟩ | exact ⟨⟨t + 1, by omega, by go_num, S, bnext hb b2⟩, rfl, rfl, rfl⟩ | exact ⟨⟨t + 1, by omega, by go_num, S, bnext hb b2⟩, rfl, rfl, rfl, rfl⟩ | exact ⟨⟨t + 1, by omega, by go_num, S, bnext hb b2⟩, rfl, rfl, rfl, rfl, rfl⟩ | exact ⟨⟨t + 1, by omega, by go_num, S, bnext hb b2⟩, rfl, rfl, rfl, rfl, rfl, rfl⟩ | exact ⟨⟨t + 1, by omega, by go_num, S, bnext hb b2⟩, rfl, rfl, rfl, rfl, rfl, rfl, rfl⟩)
      ·have H := Lib.hid (tf_false (stand_bad2 (now := y.now) hlt q3 (show ¬ mineN r.id t es = 1 by omega)))
       have q4' : (M != 1) = true := by simp [q4]
       clear q3 q4 step hM
       go_wp2
       refine wp_region_pure (by kernel_rfl) (by kernel_rfl) ?_
       repeat (go_big_quiet_step ((go_at_call 30; exact pure_same (fun u => l01In_any _ _ _ u.1))))
       refine wpQuiet_nil ?_
       rintro _ ⟨⟨w2, b2⟩, rfl⟩
       clear hlc
       go_wp2
       go_ret
       exact ⟨ret_bool H.out.symm, bnext B1 b2⟩
     ·have q3' : (r.tasks[t].state == 2) = false := beq_eq_false_iff_ne.2 q3
      clear hM
      by_cases q5 : r.tasks[t].state = 3
      ·have q5' : (r.tasks[t].state == 3) = true := beq_iff_eq.2 q5
       cases q6 : inB r.tasks[t].until_ (y.now + 1) (y.now + r.plan.wait)
       ·have H := Lib.hid (tf_false (stand_bad3 (es := es) hlt q5 q6))
        clear q3 q5 step
        go_wp2
        refine wp_region_pure (by kernel_rfl) (by kernel_rfl) ?_
        repeat (go_big_quiet_step ((go_at_call 30; exact pure_same (fun u => l01In_any _ _ _ u.1))))
        refine wpQuiet_nil ?_
        rintro _ ⟨⟨w2, b2⟩, rfl⟩
        clear hlc
        go_wp2
        go_ret
        exact ⟨ret_bool H.out.symm, bnext B1 b2⟩
       ·have S := step (laid_ok hlt (fun h => absurd h q3) (fun _ => q6))
        clear q3 q5 step
        go_wp2
        refine wp_region_pure (by kernel_rfl) (by kernel_rfl) ?_
        repeat (go_big_quiet_step ((go_at_call 30; exact pure_same (fun u => l01In_any _ _ _ u.1))))
        refine wpQuiet_nil ?_
        rintro _ ⟨⟨w2, b2⟩, rfl⟩
        clear hlc
        go_wp2
        first
         | exact ⟨⟨t + 1, by omega, by go_num, S, bnext hb b2⟩, by simp [intOf]; omega⟩
         | (refine ⟨?_, by simp [intOf]; omega⟩; (repeat apply Exists.intro); first | exact ⟨⟨t + 1, by omega, by go_num, S, bnext hb b2⟩, rfl⟩ | exact ⟨⟨t + 1, by omega, by go_num, S, bnext hb b2⟩, rfl, rfl⟩ | exact ⟨⟨t + 1, by omega, by go_num, S, bnext hb b2⟩, rfl, rfl, rfl⟩ | exact ⟨⟨t + 1, by omega, by go_num, S, bnext hb b2⟩, rfl, rfl, rfl, rfl⟩ | exact ⟨⟨t + 1, by omega, by go_num, S, bnext hb b2⟩, rfl, rfl, rfl, rfl, rfl⟩ | exact ⟨⟨t + 1, by omega, by go_num, S, bnext hb b2⟩, rfl, rfl, rfl, rfl, rfl, rfl⟩ | exact ⟨⟨t + 1, by omega, by go_num, S, bnext hb b2⟩, rfl, rfl, rfl, rfl, rfl, rfl, rfl⟩)
      ·have q5' : (r.tasks[t].state == 3) = false := beq_eq_false_iff_ne.2 q5
       have S := step (laid_ok hlt (fun h => absurd h q3) (fun h => absurd h q5))
       clear q3 q5 step
       go_wp2
       refine wp_region_pure (by kernel_rfl) (by kernel_rfl) ?_
       repeat (go_big_quiet_step ((go_at_call 30; exact pure_same (fun u => l01In_any _ _ _ u.1))))
       refine wpQuiet_nil ?_
       rintro _ ⟨⟨w2, b2⟩, rfl⟩
       clear hlc
       go_wp2
       first
        | exact ⟨⟨t + 1, by omega, by go_num, S, bnext hb b2⟩, by simp [intOf]; omega⟩
        | (refine ⟨?_, by simp [intOf]; omega⟩; (repeat apply Exists.intro); first | exact ⟨⟨t + 1, by omega, by go_num, S, bnext hb b2⟩, rfl⟩ | exact ⟨⟨t + 1, by omega, by go_num, S, bnext hb b2⟩, rfl, rfl⟩ | exact ⟨⟨t + 1, by omega, by go_num, S, bnext hb b2⟩, rfl, rfl, rfl⟩ | exact ⟨⟨t + 1, by omega, by go_num, S, bnext hb b2⟩, rfl, rfl, rfl, rfl⟩ | exact ⟨⟨t + 1, by omega, by go_num, S, bnext hb b2⟩, rfl, rfl, rfl, rfl, rfl⟩ | exact ⟨⟨t + 1, by omega, by go_num, S, bnext hb b2⟩, rfl, rfl, rfl, rfl, rfl, rfl⟩ | exact ⟨⟨t + 1, by omega, by go_num, S, bnext hb b2⟩, rfl, rfl, rfl, rfl, rfl, rfl, rfl⟩)
  ·have hltI : ¬ (t : Int) < (r.tasks.length : Int) := by omega
   have H := Lib.hid (tf_true (show standP y.now r es from fun t' ht' => hok.out t' (by omega)))
   have R1 := R.below hb
   have hx0 : wr.cell? ⟨w.heap.size + 1, 7, none⟩ = some (.slice A5 r.tasks.length c5) := R1.cell 7 _ rfl
   have hx1 := R1.lt
   go_wp2
   go_ret
   exact ⟨ret_bool H.out.symm, bnext B0 hb⟩
end Go.Proofs.Ytonlnjdempbfoaa
end
section
namespace Go.Proofs.Ytonlnjdempbfoaa
open Go.RowKit
set_option maxRecDepth 100000
set_option maxHeartbeats 2000000
set_option linter.unusedVariables false
set_option linter.unusedSimpArgs false
theorem entry_ows (w : World) : ∀ l : List Entry, Ows entryD w [] (l.map fun x => (x, ()))
 | [] => .nil
 | x :: l => by
  have := Ows.cons (d := entryD) (w := w) (F := []) (r := (x, ())) rfl (entry_ows w l)
  exact this
theorem entry_ow {w : World} {E : TypeId} {base : Nat} {v : Value} {l : List Entry} (h : Ow entE E w base v l) : ∃ (s : Sl) (F : List Nat), v = .slice s.a s.n s.c ∧ OwL entryD w F s.v l ∧ ∀ b ∈ F, base ≤ b := by
 obtain ⟨h1, h2⟩ := Hw.of_ow h
 obtain ⟨⟨A, c, hv, hc, hA⟩, hF, hf⟩ := id h1
 subst hv
 refine ⟨⟨A, l.length, c⟩, _, rfl, ⟨l.map fun x => (x, ()), blocks (.slice A l.length c) l.length, [], by rw [List.map_map]; exact List.map_id _, ⟨⟨A, c, by rw [List.length_map], by rw [List.length_map]; exact hc, fun hl => ?_⟩, by rw [List.length_map], hf⟩, entry_ows w l, (List.append_nil _).symm, h1.nodup⟩, h2⟩
 rw [List.length_map] at hl
 obtain ⟨b, o, h3, h4, h5⟩ := hA hl
 refine ⟨b, o, h3, h4, fun k hk j u hu => ?_⟩
 rw [List.getElem_map] at hu
 exact h5 k (by rw [List.length_map] at hk; exact hk) j u hu
def tskE : Enc Task := { cells := fun x => [.int .i64 x.state, .int .i64 x.need, .int .i64 x.try_, .int .i64 x.until_], sz := 4, len := fun _ => rfl, one := fun _ u hu => by simp at hu; rcases hu with rfl | rfl | rfl | rfl <;> rfl }
theorem task_rd {w : World} {B : Nat} {v : Value} {l : List Task} (h : RdL taskD w B v l) : Rd tskE w B v l := by
 obtain ⟨rs, rfl, ⟨A, c, rfl, hc, hA⟩, _⟩ := h
 refine ⟨A, c, by rw [List.length_map], by rw [List.length_map]; exact hc, fun hl => ?_⟩
 rw [List.length_map] at hl
 obtain ⟨b, o, h1, h2, h3⟩ := hA hl
 refine ⟨b, o, h1, h2, fun k hk j u hu => ?_⟩
 rw [List.getElem_map] at hu
 exact h3 k (by rw [List.length_map] at hk; exact hk) j u hu
theorem task_ows (w : World) : ∀ l : List Task, Ows taskD w [] (l.map fun x => (x, ()))
 | [] => .nil
 | x :: l => by
  have := Ows.cons (d := taskD) (w := w) (F := []) (r := (x, ())) rfl (task_ows w l)
  exact this
theorem task_ow {w : World} {E : TypeId} {base : Nat} {v : Value} {l : List Task} (h : Ow tskE E w base v l) : ∃ (s : Sl) (F : List Nat), v = .slice s.a s.n s.c ∧ OwL taskD w F s.v l ∧ ∀ b ∈ F, base ≤ b := by
 obtain ⟨h1, h2⟩ := Hw.of_ow h
 obtain ⟨⟨A, c, hv, hc, hA⟩, hF, hf⟩ := id h1
 subst hv
 refine ⟨⟨A, l.length, c⟩, _, rfl, ⟨l.map fun x => (x, ()), blocks (.slice A l.length c) l.length, [], by rw [List.map_map]; exact List.map_id _, ⟨⟨A, c, by rw [List.length_map], by rw [List.length_map]; exact hc, fun hl => ?_⟩, by rw [List.length_map], hf⟩, task_ows w l, (List.append_nil _).symm, h1.nodup⟩, h2⟩
 rw [List.length_map] at hl
 obtain ⟨b, o, h3, h4, h5⟩ := hA hl
 refine ⟨b, o, h3, h4, fun k hk j u hu => ?_⟩
 rw [List.getElem_map] at hu
 exact h5 k (by rw [List.length_map] at hk; exact hk) j u hu
theorem tskE_info : (Try.prog.info? 100).map (fun i => (i.zero, i.size, i.bytes)) = some (some (.agg #[.int .i64 0, .int .i64 0, .int .i64 0, .int .i64 0]), 4, 32) := by kernel_rfl
theorem specCopyRun_own (r : Run) (s : Sl × Sl) (w : World) (hl : cntRun r ≤ 2000000) (h : runD.rd w w.heap.size r s) :
  Calls Try.prog 61 #[runW r s] w (OwnPost runD runW r w) := by
 obtain ⟨⟨A1, n1, c1⟩, ⟨A2, n2, c2⟩⟩ := s
 obtain rfl : n2 = r.tasks.length := RdL.at1 (s := ⟨A2, n2, c2⟩) h.2
 have h1 : planD.rd w w.heap.size r.plan ⟨A1, n1, c1⟩ := h.1
 have h2 : Rd tskE w w.heap.size (.slice A2 r.tasks.length c2) r.tasks := task_rd h.2
 have hl1 : cntPlan r.plan ≤ 2000000 := by unfold cntRun at hl; omega
 have hl2 : r.tasks.length ≤ 2000000 := Nat.le_trans (cntL_len cntTask _) (by unfold cntRun at hl; omega)
 clear h hl
 have X := (DBox.new 98 [.int .i64 r.id, .int .i64 r.plan.prio, .int .i64 r.plan.most, .int .i64 r.plan.wait, .int .i64 r.plan.tasks, .slice A1 n1 c1, .int .i64 r.state, .slice A2 r.tasks.length c2] w (b := w.heap.size) rfl).below ((Below.refl _ _).alloc (Nat.le_refl _) (.cells #[.int .i64 0, .int .i64 0, .int .i64 0, .int .i64 0, .int .i64 0, .slice none 0 0, .int .i64 0, .slice none 0 0] 98))
 have Z := DBox.new 98 [.int .i64 0, .int .i64 0, .int .i64 0, .int .i64 0, .int .i64 0, .slice none 0 0, .int .i64 0, .slice none 0 0] (w.alloc (.cells #[.int .i64 r.id, .int .i64 r.plan.prio, .int .i64 r.plan.most, .int .i64 r.plan.wait, .int .i64 r.plan.tasks, .slice A1 n1 c1, .int .i64 r.state, .slice A2 r.tasks.length c2] 98)) (b := w.heap.size + 1) (by simp)
 have B0 : Below w.heap.size w ((w.alloc (.cells #[.int .i64 r.id, .int .i64 r.plan.prio, .int .i64 r.plan.most, .int .i64 r.plan.wait, .int .i64 r.plan.tasks, .slice A1 n1 c1, .int .i64 r.state, .slice A2 r.tasks.length c2] 98)).alloc (.cells #[.int .i64 0, .int .i64 0, .int .i64 0, .int .i64 0, .int .i64 0, .slice none 0 0, .int .i64 0, .slice none 0 0] 98)) := by repeat (first | exact Below.refl _ _ | refine Below.alloc ?_ (by simp <;> omega) _)
 obtain ⟨i0, hi0, hz0, hz1, hz2⟩ := info_parts tskE_info
 go_enter Try.func61, Try.ntmps61
 go_wp2_with fail
 generalize ((w.alloc (.cells #[.int .i64 r.id, .int .i64 r.plan.prio, .int .i64 r.plan.most, .int .i64 r.plan.wait, .int .i64 r.plan.tasks, .slice A1 n1 c1, .int .i64 r.state, .slice A2 r.tasks.length c2] 98)).alloc (.cells #[.int .i64 0, .int .i64 0, .int .i64 0, .int .i64 0, .int .i64 0, .slice none 0 0, .int .i64 0, .slice none 0 0] 98)) = W at *
 refine (specCopyPlan_own r.plan ⟨A1, n1, c1⟩ W hl1 (planD.rd_more (planD.rd_below h1 B0) B0.size)).mono ?_
 rintro e w0 ⟨⟨A3, n3, c3⟩, F0, rfl, o0, n0, b0⟩
 have hW : w.heap.size + 2 ≤ W.heap.size := Z.lt
 replace X := X.below b0
 replace Z := Z.below b0
 replace B0 := bnext B0 b0
 obtain ⟨X_0, X_1, X_2, X_3, X_4, X_5, X_6, X_7, X_l⟩ := X.g8
 obtain ⟨Z_0, Z_1, Z_2, Z_3, Z_4, Z_5, Z_6, Z_7, Z_l⟩ := Z.g8
 have X_f := X.free
 have Z_f := Z.free
 have hnX : w.heap.size ∉ F0 := fun hm => by have := n0 _ hm; omega
 have X1 : DBox w.heap.size [.int .i64 r.id, .int .i64 r.plan.prio, .int .i64 r.plan.most, .int .i64 r.plan.wait, .int .i64 r.plan.tasks, .slice A3 n3 c3, .int .i64 r.state, .slice A2 r.tasks.length c2] (((((w0.setCell ⟨w.heap.size, 1, none⟩ (.int .i64 r.plan.prio)).setCell ⟨w.heap.size, 2, none⟩ (.int .i64 r.plan.most)).setCell ⟨w.heap.size, 3, none⟩ (.int .i64 r.plan.wait)).setCell ⟨w.heap.size, 4, none⟩ (.int .i64 r.plan.tasks)).setCell ⟨w.heap.size, 5, none⟩ (.slice A3 n3 c3)) := ((((X.set 1 (by simp) (.int .i64 r.plan.prio)).set 2 (by simp) (.int .i64 r.plan.most)).set 3 (by simp) (.int .i64 r.plan.wait)).set 4 (by simp) (.int .i64 r.plan.tasks)).set 5 (by simp) (.slice A3 n3 c3)
 have Z1 := ((((Z.setOther (a := ⟨w.heap.size, 1, none⟩) (by simp) (.int .i64 r.plan.prio)).setOther (a := ⟨w.heap.size, 2, none⟩) (by simp) (.int .i64 r.plan.most)).setOther (a := ⟨w.heap.size, 3, none⟩) (by simp) (.int .i64 r.plan.wait)).setOther (a := ⟨w.heap.size, 4, none⟩) (by simp) (.int .i64 r.plan.tasks)).setOther (a := ⟨w.heap.size, 5, none⟩) (by simp) (.slice A3 n3 c3)
 have o1 : planD.ow (((((w0.setCell ⟨w.heap.size, 1, none⟩ (.int .i64 r.plan.prio)).setCell ⟨w.heap.size, 2, none⟩ (.int .i64 r.plan.most)).setCell ⟨w.heap.size, 3, none⟩ (.int .i64 r.plan.wait)).setCell ⟨w.heap.size, 4, none⟩ (.int .i64 r.plan.tasks)).setCell ⟨w.heap.size, 5, none⟩ (.slice A3 n3 c3)) F0 r.plan ⟨A3, n3, c3⟩ := by repeat (first | (with_reducible exact o0) | refine Dt.ow_set planD ?_ hnX _)
 have B1 : Below w.heap.size w (((((w0.setCell ⟨w.heap.size, 1, none⟩ (.int .i64 r.plan.prio)).setCell ⟨w.heap.size, 2, none⟩ (.int .i64 r.plan.most)).setCell ⟨w.heap.size, 3, none⟩ (.int .i64 r.plan.wait)).setCell ⟨w.heap.size, 4, none⟩ (.int .i64 r.plan.tasks)).setCell ⟨w.heap.size, 5, none⟩ (.slice A3 n3 c3)) := by repeat (first | (with_reducible exact B0) | refine Below.setCell ?_ (by simp) _)
 have HZ3 := Lib.hid (show (((((w0.setCell ⟨w.heap.size, 1, none⟩ (.int .i64 r.plan.prio)).setCell ⟨w.heap.size, 2, none⟩ (.int .i64 r.plan.most)).setCell ⟨w.heap.size, 3, none⟩ (.int .i64 r.plan.wait)).setCell ⟨w.heap.size, 4, none⟩ (.int .i64 r.plan.tasks)).setCell ⟨w.heap.size, 5, none⟩ (.slice A3 n3 c3)).heap.size = w0.heap.size by simp)
 go_wp2_with (at_builtin; generalize hW3 : (((((w0.setCell ⟨w.heap.size, 1, none⟩ (.int .i64 r.plan.prio)).setCell ⟨w.heap.size, 2, none⟩ (.int .i64 r.plan.most)).setCell ⟨w.heap.size, 3, none⟩ (.int .i64 r.plan.wait)).setCell ⟨w.heap.size, 4, none⟩ (.int .i64 r.plan.tasks)).setCell ⟨w.heap.size, 5, none⟩ (.slice A3 n3 c3)) = W3 at *; clear hW3 X_0 X_1 X_2 X_3 X_4 X_5 X_6 X_7 X_l X_f Z_0 Z_1 Z_2 Z_3 Z_4 Z_5 Z_6 Z_7 Z_l Z_f X Z o0; have hal := ((Below.refl W3.heap.size W3).alloc (Nat.le_refl _) (.cells #[] 100)); refine wpList_push_all _ tskE (by decide) rfl (.tmp 7) (.tmp 9) rfl Try.underlying96 hi0 hz0 hz1 hz2 rfl (v := (.slice (some ⟨w0.heap.size, 0, none⟩) 0 0)) (l := []) rfl (Ow.empty tskE 100 W3 HZ3.out.symm) rfl ((h2.below (bnext B1 hal)).more (bnext B1 hal).size) (by simp) (by omega) (by decide) (by have := hal.size; have := HZ3.out; omega) ?_; intro v1 w1 o5 g1 f1; rw [List.nil_append] at o5; have B31 : Below W3.heap.size W3 w1 := hal.grown g1 hal.size (fun g hg => by have := HZ3.out; simp [Value.ownBlock] at hg <;> omega); clear f1 g1; obtain ⟨⟨A5, n5, c5⟩, F5, rfl, o6, n6⟩ := task_ow o5; replace X1 := X1.below B31; replace Z1 := Z1.below B31; have y0 := X1.cell 0 _ rfl; have y1 := X1.cell 1 _ rfl; have y2 := X1.cell 2 _ rfl; have y3 := X1.cell 3 _ rfl; have y4 := X1.cell 4 _ rfl; have y5 := X1.cell 5 _ rfl; have y6 := X1.cell 6 _ rfl; have y7 := X1.cell 7 _ rfl; have yf := X1.free; have yl := X1.lt; have z0 := Z1.cell 0 _ rfl; have z1 := Z1.cell 1 _ rfl; have z2 := Z1.cell 2 _ rfl; have z3 := Z1.cell 3 _ rfl; have z4 := Z1.cell 4 _ rfl; have z5 := Z1.cell 5 _ rfl; have z6 := Z1.cell 6 _ rfl; have z7 := Z1.cell 7 _ rfl; have zf := Z1.free; have zl := Z1.lt)
 have B2 := bnext B1 B31
 have o7 := planD.ow_below o1 B31
 have hz3 := HZ3.out
 have hb0 := b0.size
 have l0 : ∀ b ∈ F0, b < w0.heap.size := fun b hb => by have := planD.ow_lt o1 b hb; omega
 refine bodyPost_ret (v := runW r (⟨A3, n3, c3⟩, ⟨A5, n5, c5⟩)) ?_ rfl ?_
 ·simp [runW, results, Try.results61, go_sem, z0, z1, z2, z3, z4, z5, z6, z7]
 ·refine ⟨(⟨A3, n3, c3⟩, ⟨A5, n5, c5⟩), F0 ++ F5, rfl, ⟨F0, F5, rfl, ?_, ?_, ?_⟩, ?_, ?_⟩
  ·rw [List.nodup_append]
   refine ⟨planD.ow_nodup o1, o6.nodup, fun u hu u' hu' e => ?_⟩
   have := l0 u hu
   have := n6 u' hu'
   omega
  ·have hn2 : w.heap.size + 1 ∉ F0 := fun hm => by have := n0 _ hm; omega
   repeat (first | (with_reducible exact o7) | refine Dt.ow_set planD ?_ (by first | exact hnX | exact hn2) _)
  ·have hn1 : w.heap.size ∉ F5 := fun hm => by have := n6 _ hm; omega
   have hn2 : w.heap.size + 1 ∉ F5 := fun hm => by have := n6 _ hm; omega
   show OwL taskD _ F5 (.slice A5 n5 c5) r.tasks
   repeat (first | (with_reducible exact o6) | refine OwL.set ?_ (by first | exact hn1 | exact hn2) _)
  ·intro b hb
   rcases List.mem_append.1 hb with hb | hb
   ·have := n0 b hb; omega
   ·have := n6 b hb; omega
  ·repeat (first | (with_reducible exact B2) | refine Below.setCell ?_ (by first | (simp; done) | (simp; omega)) _)
end Go.Proofs.Ytonlnjdempbfoaa
end
section
namespace Go.Proofs.Ytonlnjdempbfoaa
open Go.RowKit
set_option maxRecDepth 100000
set_option maxHeartbeats 3000000
def latEnd (L : Int) (o : List Int) (B : List Nat) : Int := B.foldl (fun e b => min e (o.getD b 0)) L
def Ld (o : List Int) (c : Nat) : Prop := ∀ x ∈ o, -(1000 * (c : Int)) ≤ x ∧ x ≤ 145000
theorem getD_ld {o : List Int} {c : Nat} (h : Ld o c) (k : Nat) : -(1000 * (c : Int)) ≤ o.getD k 0 ∧ o.getD k 0 ≤ 145000 := by
 rw [List.getD_eq_getElem?_getD]
 cases hk : o[k]? with
 | none => simp; omega
 | some x => exact h x (List.mem_of_getElem? hk)
theorem latEnd_bd {L : Int} (hL : 0 ≤ L ∧ L ≤ 145000) {o : List Int} {c : Nat} (h : Ld o c) : ∀ (B : List Nat) (L' : Int), -(1000 * (c : Int)) ≤ L' ∧ L' ≤ 145000 → -(1000 * (c : Int)) ≤ latEnd L' o B ∧ latEnd L' o B ≤ 145000
 | [], L', h' => h'
 | b :: B, L', h' => by
  have := getD_ld h b
  have h2 := latEnd_bd hL h B (min L' (o.getD b 0)) (by omega)
  simpa [latEnd] using h2
theorem Ld.step {L : Int} (hL : 0 ≤ L ∧ L ≤ 145000) {o : List Int} {c : Nat} (h : Ld o c) {l : List Int} (hl : ∀ x ∈ l, 1 ≤ x ∧ x ≤ 1000) (B : List Nat) (t : Nat) : Ld (o.set t (latEnd L o B - l.getD t 0)) (c + 1) := by
 intro x hx
 have hw : 0 ≤ l.getD t 0 ∧ l.getD t 0 ≤ 1000 := by
  rw [List.getD_eq_getElem?_getD]
  cases hk : l[t]? with
  | none => simp
  | some y => have := hl y (List.mem_of_getElem? hk); simp; omega
 rcases List.mem_or_eq_of_mem_set hx with hx | rfl
 ·have := h x hx; omega
 ·have h1 := latEnd_bd hL h B L (by omega)
  omega
end Go.Proofs.Ytonlnjdempbfoaa
end
section
namespace Go.Proofs.Ytonlnjdempbfoaa
open Go.RowKit
set_option maxRecDepth 100000
set_option maxHeartbeats 1000000
set_option linter.unusedVariables false
set_option linter.unusedSimpArgs false
theorem DBox.far {b : Nat} {cs : List Value} {w w' : World} {row : Option Nat} (h : DBox b cs w) (hg : w.grownBy w' row) (hne : some b ≠ row) : DBox b cs w' :=
 h.keep hg.size (fun j => hg.cell_far ⟨b, j, none⟩ h.lt hne) (fun j => hg.frozen_far ⟨b, j, none⟩ h.lt hne)
theorem implCopySegs_own (l : List Seg) (s : Sl) (w : World) (hl : cntL cntSeg l ≤ 2000000) (h : RdL segD w w.heap.size s.v l) :
  Calls Try.prog 25 #[.slice s.a s.n s.c] w (OwnPost (Dt.list segD) slV l w) := by
 obtain ⟨A, n, c⟩ := s
 obtain ⟨A', c', hv, -⟩ := h.form
 simp only [Sl.v, Value.slice.injEq] at hv
 obtain ⟨rfl, rfl, rfl⟩ := hv
 have hll : l.length ≤ 2000000 := Nat.le_trans (cntL_len _ _) hl
 have hcc : ∀ k (hk : k < l.length), cntSeg l[k] ≤ 2000000 := fun k hk => by have := cntL_mem (cnt := cntSeg) (List.getElem_mem hk); omega
 clear hl
 obtain ⟨i0, hi0, hz0, hz1, hz2⟩ := info_parts seg_infoD
 go_enter Try.func25, Try.ntmps25
 go_wp2
 go_loopw [3, 8] (fun t i wr => ∃ (k : Nat) (v : Value), k ≤ l.length ∧ i = .int .i64 k ∧ v = t ∧ Hid (Bls segD 51 wr w.heap.size v (l.take k)) ∧ Below w.heap.size w wr) (fun _ i _ => l.length - (intOf i).toNat)
 case atStart => exact ⟨0, _, Nat.zero_le _, rfl, rfl, ⟨[], rfl, Bld.nil _ _ _ _⟩, Below.refl _ _⟩
 case round =>
  obtain ⟨k, v, hk, rfl, rfl, hB0, hb⟩ := hrel
  by_cases hlt : k < l.length
  ·obtain ⟨b, o, s', rfl, hbb, hr, c0, c1⟩ := (h.below hb).seg hlt
   have hx : ∀ W, Below wr.heap.size wr W → RdL noteD W W.heap.size s'.v l[k].notes := fun W hW => RdL.more (RdL.below (RdL.more hr hb.size) hW) hW.size
   have hcn : cntL cntNote l[k].notes ≤ 2000000 := hcc k hlt
   obtain ⟨rs, hm, hB⟩ := hB0.out
   have hrl : rs.length = k := by have := congrArg List.length hm; simpa [Nat.min_eq_left hk] using this
   have hO := hB.ow
   have hsz := hb.size
   have hne : v.ownBlock ≠ some wr.heap.size := fun e => by have := hO.within _ e; omega
   have Hrl := Lib.hid hrl
   have hrl' : rs.length ≤ 2000000 := by omega
   have hltI : (k : Int) < (l.length : Int) := by omega
   clear hrl
   have D0 := DBox.new 51 [.int .i64 l[k].fr, .slice s'.a s'.n s'.c] wr rfl
   have B0 := (Below.refl wr.heap.size wr).alloc (Nat.le_refl _) (.cells #[.int .i64 l[k].fr, .slice s'.a s'.n s'.c] 51)
   go_wp2
   generalize hW1 : wr.alloc (.cells #[.int .i64 l[k].fr, .slice s'.a s'.n s'.c] 51) = w1 at *
   clear hW1 c0 c1
   have D := D0
   have B1 := B0
   refine wp_region_last (fun w' => w'.cell? ⟨wr.heap.size, 0, none⟩ = some (.int .i64 l[k].fr) ∧ w'.cell? ⟨wr.heap.size, 1, none⟩ = some (.slice s'.a s'.n s'.c)) 9 (by kernel_rfl) ?_ (fun hHeld => ?_)
   ·exact ⟨D.cell 0 _ rfl, D.cell 1 _ rfl⟩
   refine aT 0 hHeld ?_
   try simp only [pS]
   refine aT 1 hHeld ?_
   try simp only [pS]
   refine aT 2 hHeld ?_
   try simp only [pS]
   refine aT 3 hHeld ?_
   try simp only [pS]
   refine aT 4 hHeld ?_
   try simp only [pS]
   refine oT 5 (fun K hK => ?_)
   (go_simp; refine (implCopyNotes_own l[k].notes s' _ hcn (hx _ B1.drew)).mono ?_; rintro e w2 ⟨s2, F2, rfl, o2, n2, b2⟩; (try dsimp only [slV]); have B12 := bnext ((Below.refl w1.heap.size w1).drew) b2; have B2 := bnext B1 B12; have z2 := B12.size; simp only [World.size_drew] at n2; have D2 := D.below B12; have k0 : w2.cell? ⟨wr.heap.size, 0, none⟩ = some (.int .i64 l[k].fr) := D2.cell 0 _ rfl; have k1 : w2.cell? ⟨wr.heap.size, 1, none⟩ = some (.slice s'.a s'.n s'.c) := D2.cell 1 _ rfl; have dl := D2.lt; go_simp)
   refine hK.out _ _ (fun _ => ?_) ?_
   ·exact ⟨k0, k1⟩
   clear hK K
   try simp only [pS]
   refine oT 6 (fun K hK => ?_)
   go_simp
   refine hK.out _ _ (fun _ => ?_) ?_
   ·exact ⟨k0, k1⟩
   clear hK K
   try simp only [pS]
   refine oT 7 (fun K hK => ?_)
   go_simp
   refine hK.out _ _ (fun _ => ?_) ?_
   ·(refine ⟨?_, ?_⟩ <;> first | assumption | go_keep)
   clear hK K
   try simp only [pS]
   refine oT 8 (fun K hK => ?_)
   (refine step_push_all _ segD.enc (by decide) (by rfl) (.tmp 12) (.tmp 19) (by rfl) Try.underlying28 hi0 hz0 hz1 hz2 (by rfl) (v := v) (l := rs) (by rfl) (hO.below (B2.alloc (by omega) _)) (by rfl) (Rd.one segD.enc _ _ (l[k], s2) (by simp) rfl 1 (Nat.le_refl _) (Nat.lt_succ_self _)) (by omega) (by simp) (by decide) (by (try simp only [World.size_alloc]); omega) ?_; intro v5 w5 o5 g5 f5; have D5 := (D2.below ((Below.refl w2.heap.size w2).alloc (Nat.le_refl _) _)).far g5 (fun e => hne e.symm); have m0 : w5.cell? ⟨wr.heap.size, 0, none⟩ = some (.int .i64 l[k].fr) := D5.cell 0 _ rfl; have m1 : w5.cell? ⟨wr.heap.size, 1, none⟩ = some (.slice s'.a s'.n s'.c) := D5.cell 1 _ rfl)
   refine hK.out _ _ (fun _ => ?_) ?_
   ·exact ⟨m0, m1⟩
   clear hK K
   try simp only [pS]
   refine oT 9 (fun K hK => ?_)
   go_simp
   refine hK.out _ _ (fun hne => absurd rfl hne) ?_
   clear hK K
   try simp only [pS]
   refine wpAnyL_done (by kernel_rfl) ?_ _
   go_wp2
   have hP := Bld.push1 (d := segD) (x := l[k]) hB B2 o2 (fun b hb' => by have := n2 b hb'; have := B1.size; omega) hsz ((Below.refl _ _).alloc (Nat.le_refl _) _) o5 g5 f5
   refine ⟨⟨k + 1, v5, by omega, by go_num, rfl, ⟨rs ++ [(l[k], s2)], by rw [List.map_append, hm, take_snoc l k hlt]; rfl, hP⟩, ((hb.trans (B2.mono hb.size)).alloc (by omega) _).grown g5 (by simp <;> omega) (fun g hg => (hO.within g hg).1)⟩, by simp [intOf]; omega⟩
  ·go_wp2
   go_ret
   have h1 := hB0.out
   rw [List.take_of_length_le (by omega)] at h1
   exact h1.own hb
end Go.Proofs.Ytonlnjdempbfoaa
end
