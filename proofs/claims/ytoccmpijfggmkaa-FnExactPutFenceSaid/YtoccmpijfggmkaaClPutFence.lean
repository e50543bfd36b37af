/-
  Proved: the law FnExactPutFence returns true for every argument, and its arguments read behind the call as they read before. No conditions.
-/
import Derived.Test.YtoccmpijfggmkaaLawPutFence
import Derived.Test.YtoccmpijfggmkaaArgs
import Derived.Test.YtoccmpijfggmkaaFacts
import Derived.Below
import Derived.OpenShut
import Derived.ChangeOld
namespace Go.Proofs.Ytoccmpijfggmkaa.claimPutFence
open Go.ChangeShapes Go.WideShapes Go.ChangeAt Go.RowKit
set_option linter.unusedVariables false

set_option maxRecDepth 100000 in
theorem lifted (os : Os) (started : os.Started) (H : Type) (enc : TypeId × Value → H) :
    ReturnsInHanded {} Try.checked os 16 .any (Rows.fnExactPutFenceSpec.pre6 enc Try.prog Try.f16 Rows.fnExactPutFenceRow.domain false) (Rows.fnExactPutFenceSpec.post enc Try.prog Try.f16 false true false false) := by
  refine returnsInHanded_of_change (C := Try.checked) own_prog started (by kernel_rfl) Try.func16
    (ChangeSpec.witness6 (enc := enc) (C := Try.checked) false ⟨#[], #[.slice none 0 0, .agg #[.int .i64 0, .int .i64 0, .int .i64 0, .string ⟨#[]⟩]], []⟩ 8 (by kernel_rfl) (by kernel_rfl) (by kernel_rfl) (by kernel_rfl)) ?_
  intro W base args ds gs before hval0 hW hcnd _
  have hval : ∀ (j : Nat) t v, Try.f16.params[j]? = some t → args[j]? = some v → Value.okWide Try.prog W .any base t v := hval0
  have hW' := hW
  obtain ⟨p, q, hA0, hV, rfl, hfz, hnd⟩ := hW
  have hA : DataW.TrodAll enc Try.prog W 0 (fun _ => true) true Try.f16.params.toList args.toList ds p := hA0
  rw [Try.params16] at hA hval
  obtain ⟨v0, vs0, d0, ds0, p0, q0, hargs, rfl, rfl, h0, r0⟩ := trodAll_cons hA
  obtain ⟨v1, vs1, d1, ds1, p1, q1, rfl, rfl, rfl, h1, r1⟩ := trodAll_cons r0
  obtain ⟨rfl, rfl, rfl⟩ := trodAll_nil r1
  obtain rfl : args = #[v0, v1] := by cases args; simp_all
  obtain ⟨rfl, rfl⟩ := trodVars_none hV
  obtain ⟨a0, len0, cap0, rfl⟩ := okWide_slice Try.underlying29 (hval 0 29 v0 rfl rfl)
  have k0 := h0
  have lt0 : ∀ x ∈ p0, x.block < W.heap.size := by obtain ⟨m, hm⟩ := k0; exact DataW.trod_lt m _ _ _ hm
  obtain ⟨l0, w0, hl0, hk0⟩ : ∃ l : List Fence, Rd fenceE W W.heap.size (.slice a0 len0 cap0) l ∧ l.length ≤ maxLen ∧ (∀ s ∈ l, s.text.size ≤ maxLen) := by
    obtain ⟨fuel, hf⟩ := h0
    obtain ⟨v, l, hc, hr, hl, hk⟩ := read_fenceS hf
    simp [Value.cells] at hc
    subst hc
    exact ⟨l, hr, hl, hk⟩
  have k1 := h1
  have lt1 : ∀ x ∈ p1, x.block < W.heap.size := by obtain ⟨m, hm⟩ := k1; exact DataW.trod_lt m _ _ _ hm
  obtain ⟨cs1, rfl, hsz1⟩ := okWide_struct Try.underlying76 (hval 1 76 v1 rfl rfl)
  obtain ⟨l1, hc1, hl1⟩ : ∃ (f : Fence), cs1 = #[.int .i64 f.run, .int .i64 f.task, .int .i64 f.try_, .string f.text] ∧ f.text.size ≤ maxLen := by
    obtain ⟨fuel, hf⟩ := h1
    obtain ⟨f, hc, hl⟩ := read_fence hf
    exact ⟨f, by cases cs1; simpa [Value.cells] using hc, hl⟩
  subst hc1
  clear hA0 hval0
  refine (lawPutFence_walk _ l0 l1 W (by simpa [maxLen] using hl0) w0 (by simpa [maxLen] using hk0) (by simpa [maxLen] using hl1)).mono fun e W' ⟨he, bel⟩ => ?_
  subst he
  exact ⟨_, rfl, _, _, _, [], _, [], hW', trodAll_mk1 (shut_bool Try.underlying4 _), (trodAll_cons_mk (Below.trod laidOut_prog (by kernel_rfl) (of_decide_eq_true (by kernel_rfl)) k0 bel lt0) (trodAll_cons_mk (Below.trod laidOut_prog (by kernel_rfl) (of_decide_eq_true (by kernel_rfl)) k1 bel lt1) trodAll_mk0)), rfl, bel.frame _, fun h => by cases h⟩

theorem closed : joinedFacts Try.prog 16 Try.f16 Rows.fnExactPutFenceSpec Rows.fnExactPutFenceRow = true :=
  facts_of (by kernel_rfl) (by kernel_rfl) (by kernel_rfl) (by kernel_rfl) (by kernel_rfl) (by kernel_rfl) (by kernel_rfl) (by kernel_rfl) (by kernel_rfl) rfl rfl (by kernel_rfl) (by kernel_rfl) (by kernel_rfl)

theorem over : Rows.fnExactPutFenceRow.holds Try.pinned (OpenSpec.ofChange Rows.fnExactPutFenceSpec) :=
  OpenClaim.holds_of_wide 16 Try.f16 rfl rfl rfl rfl rfl rfl rfl ⟨rfl, rfl, rfl, rfl, rfl⟩ rfl rfl rfl rfl rfl (by kernel_rfl) Try.func16 closed
    (of_decide_eq_true (by kernel_rfl)) (by unfold Func.isWrapper; first | (rw [if_pos (by decide +kernel)]; kernel_rfl) | (rw [if_neg (by decide +kernel)]; exact ⟨rfl, rfl⟩))
    (fun os started H enc _ => lifted os started H enc)

theorem proved : Rows.FnExactPutFenceSaid := over
#print axioms proved
end Go.Proofs.Ytoccmpijfggmkaa.claimPutFence
