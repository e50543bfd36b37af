/-
  Data of the type Memo: how it lies in memory, and the walks of the laws' helpers on it. Written by program (deep.py).
-/
import Derived.Test.YtjobmbjadpldfaaTReply
namespace Go.Proofs.Ytjobmbjadpldfaa
open Go.RowKit
set_option maxRecDepth 100000
set_option maxHeartbeats 1000000
set_option linter.unusedVariables false
set_option linter.unusedSimpArgs false

structure Memo where
  id : Int
  reply : Reply
deriving DecidableEq, Inhabited

@[go_sem] abbrev memoW (x : Memo) (_s : Unit) : Value := .agg #[.int .i64 x.id, .int .i64 x.reply.code, .int .i64 x.reply.run, .int .i64 x.reply.task, .int .i64 x.reply.try_]
abbrev memoD : Dt Memo := Dt.flat (fun q => [.int .i64 q.1.id, .int .i64 q.1.reply.code, .int .i64 q.1.reply.run, .int .i64 q.1.reply.task, .int .i64 q.1.reply.try_]) 5 (fun _ => rfl) (fun q u hu => by simp at hu; rcases hu with rfl | rfl | rfl | rfl | rfl <;> rfl)
/-- all lengths in it together -/
def cntMemo (_ : Memo) : Nat := 0
/-- ints are int64, lengths are what a machine holds -/
def wfMemo (x : Memo) : Prop := Wf x.id ∧ wfReply x.reply
def numMemo (_ : Memo) : Nat := 5
/-- with the marks from k on -/
def mkMemo (k : Int) (_ : Memo) : Memo := ⟨k, ⟨k + 1, k + 1 + 1, k + 1 + 1 + 1, k + 1 + 1 + 1 + 1⟩⟩
theorem numMemo_le (x : Memo) : numMemo x ≤ 13 * (cntMemo x + 1) := by
  unfold numMemo cntMemo
  omega

theorem RdL.memo {w : World} {B : Nat} {A : Option Addr} {n c : Nat} {l : List (Memo)} (h : RdL memoD w B (.slice A n c) l) {k : Nat} (hk : k < l.length) :
    ∃ b o, ∃ _s : Unit, A = some ⟨b, o, none⟩ ∧ b < B ∧ memoD.rd w B l[k] _s ∧ w.cell? ⟨b, o + k * 5, none⟩ = some (.int .i64 l[k].id) ∧ w.cell? ⟨b, o + k * 5 + 1, none⟩ = some (.int .i64 l[k].reply.code) ∧ w.cell? ⟨b, o + k * 5 + 2, none⟩ = some (.int .i64 l[k].reply.run) ∧ w.cell? ⟨b, o + k * 5 + 3, none⟩ = some (.int .i64 l[k].reply.task) ∧ w.cell? ⟨b, o + k * 5 + 4, none⟩ = some (.int .i64 l[k].reply.try_) := by
  obtain ⟨b, o, s, rfl, hb, hc, hr⟩ := h.at_ k hk
  exact ⟨b, o, s, rfl, hb, hr, hc 0 _ rfl, hc 1 _ rfl, hc 2 _ rfl, hc 3 _ rfl, hc 4 _ rfl⟩
theorem Ow.c_memo {E : TypeId} {w : World} {base g n cap : Nat} {l : List ((Memo) × Unit)} (h : Ow memoD.enc E w base (.slice (some ⟨g, 0, none⟩) n cap) l) {k : Nat} (hk : k < l.length) :
    w.cell? ⟨g, k * 5, none⟩ = some (.int .i64 l[k].1.id) ∧ w.cell? ⟨g, k * 5 + 1, none⟩ = some (.int .i64 l[k].1.reply.code) ∧ w.cell? ⟨g, k * 5 + 2, none⟩ = some (.int .i64 l[k].1.reply.run) ∧ w.cell? ⟨g, k * 5 + 3, none⟩ = some (.int .i64 l[k].1.reply.task) ∧ w.cell? ⟨g, k * 5 + 4, none⟩ = some (.int .i64 l[k].1.reply.try_) := by
  rcases h.form with ⟨h1, _⟩ | ⟨g', cap', hv, _, _, _, _, _, hc⟩
  · simp at h1
  · simp only [Value.slice.injEq, Option.some.injEq, Addr.mk.injEq, and_true] at hv
    obtain ⟨rfl, _, _⟩ := hv
    exact ⟨hc k hk 0 _ rfl, hc k hk 1 _ rfl, hc k hk 2 _ rfl, hc k hk 3 _ rfl, hc k hk 4 _ rfl⟩
theorem Foc.memo {w : World} {b o n c j : Nat} {rs : List ((Memo) × Unit)} {G1 Fx G2 : List Nat} {x : Memo} {s : Unit} (h : Foc memoD w b o n c rs j G1 Fx G2 x s) :
    w.cell? ⟨b, o + j * 5, none⟩ = some (.int .i64 x.id) ∧ w.cell? ⟨b, o + j * 5 + 1, none⟩ = some (.int .i64 x.reply.code) ∧ w.cell? ⟨b, o + j * 5 + 2, none⟩ = some (.int .i64 x.reply.run) ∧ w.cell? ⟨b, o + j * 5 + 3, none⟩ = some (.int .i64 x.reply.task) ∧ w.cell? ⟨b, o + j * 5 + 4, none⟩ = some (.int .i64 x.reply.try_) := ⟨h.cells 0 _ rfl, h.cells 1 _ rfl, h.cells 2 _ rfl, h.cells 3 _ rfl, h.cells 4 _ rfl⟩

end Go.Proofs.Ytjobmbjadpldfaa
