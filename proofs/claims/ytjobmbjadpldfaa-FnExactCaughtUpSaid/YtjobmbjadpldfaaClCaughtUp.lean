/-
  Proved: the law FnExactCaughtUp returns true for every argument, and its arguments read behind the call as they read before. No conditions.
-/
import Derived.Test.YtjobmbjadpldfaaLawCaughtUp
import Derived.Test.YtjobmbjadpldfaaDa
import Derived.Test.YtjobmbjadpldfaaFacts
import Derived.Below
import Derived.OpenShut
import Derived.ChangeOld
namespace Go.Proofs.Ytjobmbjadpldfaa.claimCaughtUp
open Go.ChangeShapes Go.WideShapes Go.ChangeAt Go.RowKit Go.ChangeMaps
set_option linter.unusedVariables false

set_option maxRecDepth 100000 in
theorem lifted (os : Os) (started : os.Started) (H : Type) (enc : TypeId × Value → H) :
    ReturnsInHanded {} Try.checked os 4 .any (Rows.fnExactCaughtUpSpec.pre6 enc Try.prog Try.f4 Rows.fnExactCaughtUpRow.domain false) (Rows.fnExactCaughtUpSpec.post enc Try.prog Try.f4 false true false false) := by
  refine returnsInHanded_of_change (C := Try.checked) own_prog started (by kernel_rfl) Try.func4
    (ChangeSpec.witness6 (enc := enc) (C := Try.checked) false ⟨#[], #[.agg #[.int .i64 0, .int .i64 0, .slice none 0 0, .slice none 0 0, .int .i64 0], .agg #[.int .i64 0, .int .i64 0, .slice none 0 0, .slice none 0 0, .slice none 0 0, .int .i64 0, .int .i64 0, .slice none 0 0, .int .i64 0, .bool false]], []⟩ 8 (by kernel_rfl) (by kernel_rfl) (by kernel_rfl) (by kernel_rfl)) ?_
  intro W base args ds gs before hval0 hW hcnd _
  have hval : ∀ (j : Nat) t v, Try.f4.params[j]? = some t → args[j]? = some v → Value.okWide Try.prog W .any base t v := hval0
  have hW' := hW
  obtain ⟨p, q, hA0, hV, rfl, hfz, hnd⟩ := hW
  have hA : DataW.TrodAll enc Try.prog W 0 (fun _ => true) true Try.f4.params.toList args.toList ds p := hA0
  rw [Try.params4] at hA hval
  obtain ⟨v0, vs0, d0, ds0, p0, q0, hargs, rfl, rfl, h0, r0⟩ := trodAll_cons hA
  obtain ⟨v1, vs1, d1, ds1, p1, q1, rfl, rfl, rfl, h1, r1⟩ := trodAll_cons r0
  obtain ⟨rfl, rfl, rfl⟩ := trodAll_nil r1
  obtain rfl : args = #[v0, v1] := by cases args; simp_all
  obtain ⟨rfl, rfl⟩ := trodVars_none hV
  have k0 := h0
  have lt0 : ∀ x ∈ p0, x.block < W.heap.size := by obtain ⟨m, hm⟩ := k0; exact DataW.trod_lt m _ _ _ hm
  obtain ⟨cs0, rfl, hsz0⟩ := okWide_struct Try.underlying34 (hval 0 34 v0 rfl rfl)
  obtain ⟨x0, s0, hc0, rd0, wf0⟩ : ∃ (p : Follower) (s : (Sl × Sl)), cs0 = #[.int .i64 p.yard.now, .int .i64 p.yard.seq, .slice s.1.a s.1.n s.1.c, .slice s.2.a s.2.n s.2.c, .int .i64 p.seq] ∧ followerD.rd W W.heap.size p s ∧ wfFollower p := by
    obtain ⟨fuel, hf⟩ := h0
    obtain ⟨p, s, hc, hr, hl⟩ := read_Follower hf
    exact ⟨p, s, by cases cs0; simpa [Value.cells] using hc, hr, hl⟩
  subst hc0
  have k1 := h1
  have lt1 : ∀ x ∈ p1, x.block < W.heap.size := by obtain ⟨m, hm⟩ := k1; exact DataW.trod_lt m _ _ _ hm
  obtain ⟨cs1, rfl, hsz1⟩ := okWide_struct Try.underlying40 (hval 1 40 v1 rfl rfl)
  obtain ⟨x1, s1, hc1, rd1, wf1⟩ : ∃ (p : Engine) (s : (Sl × Sl) × Sl × Sl), cs1 = #[.int .i64 p.yard.now, .int .i64 p.yard.seq, .slice s.1.1.a s.1.1.n s.1.1.c, .slice s.1.2.a s.1.2.n s.1.2.c, .slice s.2.1.a s.2.1.n s.2.1.c, .int .i64 p.next, .int .i64 p.calls, .slice s.2.2.a s.2.2.n s.2.2.c, .int .i64 p.state, .bool p.broken] ∧ engineD.rd W W.heap.size p s ∧ wfEngine p := by
    obtain ⟨fuel, hf⟩ := h1
    obtain ⟨p, s, hc, hr, hl⟩ := read_Engine hf
    exact ⟨p, s, by cases cs1; simpa [Value.cells] using hc, hr, hl⟩
  subst hc1
  clear hA0 hval0
  refine (lawCaughtUp_walk x0 s0 x1 s1 W wf0 rd0 wf1 rd1).mono fun e W' ⟨he, bel⟩ => ?_
  subst he
  exact ⟨_, rfl, _, _, _, [], _, [], hW', trodAll_mk1 (shut_bool Try.underlying4 _), (trodAll_cons_mk (Below.trod laidOut_prog (by kernel_rfl) (of_decide_eq_true (by kernel_rfl)) k0 bel lt0) (trodAll_cons_mk (Below.trod laidOut_prog (by kernel_rfl) (of_decide_eq_true (by kernel_rfl)) k1 bel lt1) trodAll_mk0)), rfl, bel.frame _, fun h => by cases h⟩

theorem closed : joinedFacts Try.prog 4 Try.f4 Rows.fnExactCaughtUpSpec Rows.fnExactCaughtUpRow = true :=
  facts_of (by kernel_rfl) (by kernel_rfl) (by kernel_rfl) (by kernel_rfl) (by kernel_rfl) (by kernel_rfl) (by kernel_rfl) (by kernel_rfl) (by kernel_rfl) rfl rfl (by kernel_rfl) (by kernel_rfl) (by kernel_rfl)

theorem over : Rows.fnExactCaughtUpRow.holds Try.pinned (OpenSpec.ofChange Rows.fnExactCaughtUpSpec) :=
  OpenClaim.holds_of_wide 4 Try.f4 rfl rfl rfl rfl rfl rfl rfl ⟨rfl, rfl, rfl, rfl, rfl⟩ rfl rfl rfl rfl rfl (by kernel_rfl) Try.func4 closed
    (of_decide_eq_true (by kernel_rfl)) (by unfold Func.isWrapper; first | (rw [if_pos (by decide +kernel)]; kernel_rfl) | (rw [if_neg (by decide +kernel)]; exact ⟨rfl, rfl⟩))
    (fun os started H enc _ => lifted os started H enc)

theorem proved : Rows.FnExactCaughtUpSaid := over
#print axioms proved
end Go.Proofs.Ytjobmbjadpldfaa.claimCaughtUp
