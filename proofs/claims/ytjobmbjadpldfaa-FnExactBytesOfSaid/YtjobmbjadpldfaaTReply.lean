/-
  Data of the type Reply: how it lies in memory, and the walks of the laws' helpers on it. Written by program (deep.py).
-/
import Derived.Test.YtjobmbjadpldfaaDp
namespace Go.Proofs.Ytjobmbjadpldfaa
open Go.RowKit
set_option maxRecDepth 100000
set_option maxHeartbeats 1000000
set_option linter.unusedVariables false
set_option linter.unusedSimpArgs false

structure Reply where
  code : Int
  run : Int
  task : Int
  try_ : Int
deriving DecidableEq, Inhabited

@[go_sem] abbrev replyW (x : Reply) (_s : Unit) : Value := .agg #[.int .i64 x.code, .int .i64 x.run, .int .i64 x.task, .int .i64 x.try_]
abbrev replyD : Dt Reply := Dt.flat (fun q => [.int .i64 q.1.code, .int .i64 q.1.run, .int .i64 q.1.task, .int .i64 q.1.try_]) 4 (fun _ => rfl) (fun q u hu => by simp at hu; rcases hu with rfl | rfl | rfl | rfl <;> rfl)
/-- all lengths in it together -/
def cntReply (_ : Reply) : Nat := 0
/-- ints are int64, lengths are what a machine holds -/
def wfReply (x : Reply) : Prop := Wf x.code ∧ Wf x.run ∧ Wf x.task ∧ Wf x.try_
def numReply (_ : Reply) : Nat := 4
/-- with the marks from k on -/
def mkReply (k : Int) (_ : Reply) : Reply := ⟨k, k + 1, k + 1 + 1, k + 1 + 1 + 1⟩
theorem numReply_le (x : Reply) : numReply x ≤ 13 * (cntReply x + 1) := by
  unfold numReply cntReply
  omega

theorem toReply_own (x : Reply) (s : Unit) (w : World) (hl : cntReply x ≤ 2000000) (h : replyD.rd w w.heap.size x s) :
    Calls Try.prog 72 #[replyW x s] w (OwnPost replyD replyW x w) := by
  have hbx : ∀ W, Below w.heap.size w W → replyD.rd W W.heap.size x s := fun W hW => replyD.rd_more (replyD.rd_below h hW) hW.size
  go_enter Try.func72, Try.ntmps72
  go_wp2
  refine bodyPost_ret (v := replyW x ()) ?_ rfl ?_
  · simp [replyW, results, Try.results72, go_sem]
  · exact ⟨(), [], rfl, rfl, (fun _ h => by cases h), by repeat (first | (with_reducible exact Below.refl _ _) | refine Below.setCell ?_ (by simp <;> omega) _ | refine Below.alloc ?_ (by simp <;> omega) _)⟩

theorem eqReply_own (x y : Reply) (s r : Unit) (w : World) (hl : cntReply x ≤ 2000000) (hl' : cntReply y ≤ 2000000) (h : replyD.rd w w.heap.size x s) (h' : replyD.rd w w.heap.size y r) :
    Calls Try.prog 80 #[replyW x s, replyW y r] w fun e w' => e = .returned (.bool (decide (x = y))) ∧ Below w.heap.size w w' := by
  have hbx : ∀ W, Below w.heap.size w W → replyD.rd W W.heap.size x s := fun W hW => replyD.rd_more (replyD.rd_below h hW) hW.size
  have hby : ∀ W, Below w.heap.size w W → replyD.rd W W.heap.size y r := fun W hW => replyD.rd_more (replyD.rd_below h' hW) hW.size
  by_cases h0 : x.code = y.code
  case neg =>
    have t0 : (x.code != y.code) = true := by rw [bne_iff_ne]; exact h0
    have H := Lib.hid (show decide (x = y) = false by simp only [decide_eq_false_iff_not]; intro e; exact h0 (by rw [e]))
    clear h0
    go_enter Try.func80, Try.ntmps80
    go_wp2
    go_ret
    exact ⟨ret_bool (by first | exact H.out.symm | rfl), by repeat (first | exact Below.refl _ _ | refine Below.alloc ?_ (by simp <;> omega) _)⟩
  have t0 : (x.code != y.code) = false := by simp [h0]
  have H0 := Lib.hid h0
  clear h0
  by_cases h1 : x.run = y.run
  case neg =>
    have t1 : (x.run != y.run) = true := by rw [bne_iff_ne]; exact h1
    have H := Lib.hid (show decide (x = y) = false by simp only [decide_eq_false_iff_not]; intro e; exact h1 (by rw [e]))
    clear h1
    go_enter Try.func80, Try.ntmps80
    go_wp2
    go_ret
    exact ⟨ret_bool (by first | exact H.out.symm | rfl), by repeat (first | exact Below.refl _ _ | refine Below.alloc ?_ (by simp <;> omega) _)⟩
  have t1 : (x.run != y.run) = false := by simp [h1]
  have H1 := Lib.hid h1
  clear h1
  by_cases h2 : x.task = y.task
  case neg =>
    have t2 : (x.task != y.task) = true := by rw [bne_iff_ne]; exact h2
    have H := Lib.hid (show decide (x = y) = false by simp only [decide_eq_false_iff_not]; intro e; exact h2 (by rw [e]))
    clear h2
    go_enter Try.func80, Try.ntmps80
    go_wp2
    go_ret
    exact ⟨ret_bool (by first | exact H.out.symm | rfl), by repeat (first | exact Below.refl _ _ | refine Below.alloc ?_ (by simp <;> omega) _)⟩
  have t2 : (x.task != y.task) = false := by simp [h2]
  have H2 := Lib.hid h2
  clear h2
  by_cases h3 : x.try_ = y.try_
  case neg =>
    have t3 : (x.try_ != y.try_) = true := by rw [bne_iff_ne]; exact h3
    have H := Lib.hid (show decide (x = y) = false by simp only [decide_eq_false_iff_not]; intro e; exact h3 (by rw [e]))
    clear h3
    go_enter Try.func80, Try.ntmps80
    go_wp2
    go_ret
    exact ⟨ret_bool (by first | exact H.out.symm | rfl), by repeat (first | exact Below.refl _ _ | refine Below.alloc ?_ (by simp <;> omega) _)⟩
  have t3 : (x.try_ != y.try_) = false := by simp [h3]
  have H3 := Lib.hid h3
  clear h3
  have H := Lib.hid (show decide (x = y) = true by
    simp only [decide_eq_true_eq]
    have hh := And.intro H0.out (And.intro H1.out (And.intro H2.out H3.out))
    obtain ⟨e0, e1, e2, e3⟩ := hh
    cases x
    cases y
    simp only at e0 e1 e2 e3
    subst e0 e1 e2 e3
    rfl)
  go_enter Try.func80, Try.ntmps80
  go_wp2
  go_ret
  exact ⟨ret_bool (by first | exact H.out.symm | rfl), by repeat (first | exact Below.refl _ _ | refine Below.alloc ?_ (by simp <;> omega) _)⟩

theorem RdL.reply {w : World} {B : Nat} {A : Option Addr} {n c : Nat} {l : List (Reply)} (h : RdL replyD w B (.slice A n c) l) {k : Nat} (hk : k < l.length) :
    ∃ b o, ∃ _s : Unit, A = some ⟨b, o, none⟩ ∧ b < B ∧ replyD.rd w B l[k] _s ∧ w.cell? ⟨b, o + k * 4, none⟩ = some (.int .i64 l[k].code) ∧ w.cell? ⟨b, o + k * 4 + 1, none⟩ = some (.int .i64 l[k].run) ∧ w.cell? ⟨b, o + k * 4 + 2, none⟩ = some (.int .i64 l[k].task) ∧ w.cell? ⟨b, o + k * 4 + 3, none⟩ = some (.int .i64 l[k].try_) := by
  obtain ⟨b, o, s, rfl, hb, hc, hr⟩ := h.at_ k hk
  exact ⟨b, o, s, rfl, hb, hr, hc 0 _ rfl, hc 1 _ rfl, hc 2 _ rfl, hc 3 _ rfl⟩
theorem Ow.c_reply {E : TypeId} {w : World} {base g n cap : Nat} {l : List ((Reply) × Unit)} (h : Ow replyD.enc E w base (.slice (some ⟨g, 0, none⟩) n cap) l) {k : Nat} (hk : k < l.length) :
    w.cell? ⟨g, k * 4, none⟩ = some (.int .i64 l[k].1.code) ∧ w.cell? ⟨g, k * 4 + 1, none⟩ = some (.int .i64 l[k].1.run) ∧ w.cell? ⟨g, k * 4 + 2, none⟩ = some (.int .i64 l[k].1.task) ∧ w.cell? ⟨g, k * 4 + 3, none⟩ = some (.int .i64 l[k].1.try_) := by
  rcases h.form with ⟨h1, _⟩ | ⟨g', cap', hv, _, _, _, _, _, hc⟩
  · simp at h1
  · simp only [Value.slice.injEq, Option.some.injEq, Addr.mk.injEq, and_true] at hv
    obtain ⟨rfl, _, _⟩ := hv
    exact ⟨hc k hk 0 _ rfl, hc k hk 1 _ rfl, hc k hk 2 _ rfl, hc k hk 3 _ rfl⟩
theorem Foc.reply {w : World} {b o n c j : Nat} {rs : List ((Reply) × Unit)} {G1 Fx G2 : List Nat} {x : Reply} {s : Unit} (h : Foc replyD w b o n c rs j G1 Fx G2 x s) :
    w.cell? ⟨b, o + j * 4, none⟩ = some (.int .i64 x.code) ∧ w.cell? ⟨b, o + j * 4 + 1, none⟩ = some (.int .i64 x.run) ∧ w.cell? ⟨b, o + j * 4 + 2, none⟩ = some (.int .i64 x.task) ∧ w.cell? ⟨b, o + j * 4 + 3, none⟩ = some (.int .i64 x.try_) := ⟨h.cells 0 _ rfl, h.cells 1 _ rfl, h.cells 2 _ rfl, h.cells 3 _ rfl⟩

theorem reply_infoD : (Try.prog.info? 110).map (fun i => (i.zero, i.size, i.bytes)) = some (some (.agg #[.int .i64 0, .int .i64 0, .int .i64 0, .int .i64 0]), 4, 32) := by kernel_rfl

end Go.Proofs.Ytjobmbjadpldfaa
