/-
  Proved: the law FnExactSlotsFor returns true for every argument, and its arguments read behind the call as they read before. No conditions.
-/
import Derived.Test.YtoccmpijfggmkaaLawSlotsFor
import Derived.Test.YtoccmpijfggmkaaArgs
import Derived.Test.YtoccmpijfggmkaaFacts
import Derived.Below
import Derived.OpenShut
import Derived.ChangeOld
namespace Go.Proofs.Ytoccmpijfggmkaa.claimSlotsFor
open Go.ChangeShapes Go.WideShapes Go.ChangeAt Go.RowKit
set_option linter.unusedVariables false

set_option maxRecDepth 100000 in
theorem lifted (os : Os) (started : os.Started) (H : Type) (enc : TypeId × Value → H) :
    ReturnsInHanded {} Try.checked os 24 .any (Rows.fnExactSlotsForSpec.pre6 enc Try.prog Try.f24 Rows.fnExactSlotsForRow.domain false) (Rows.fnExactSlotsForSpec.post enc Try.prog Try.f24 false true false false) := by
  refine returnsInHanded_of_change (C := Try.checked) own_prog started (by kernel_rfl) Try.func24
    (ChangeSpec.witness6 (enc := enc) (C := Try.checked) false ⟨#[], #[.agg #[.int .i64 0, .int .i64 0, .int .i64 0, .int .i64 0, .slice none 0 0], .slice none 0 0, .int .i64 0], []⟩ 8 (by kernel_rfl) (by kernel_rfl) (by kernel_rfl) (by kernel_rfl)) ?_
  intro W base args ds gs before hval0 hW hcnd _
  have hval : ∀ (j : Nat) t v, Try.f24.params[j]? = some t → args[j]? = some v → Value.okWide Try.prog W .any base t v := hval0
  have hW' := hW
  obtain ⟨p, q, hA0, hV, rfl, hfz, hnd⟩ := hW
  have hA : DataW.TrodAll enc Try.prog W 0 (fun _ => true) true Try.f24.params.toList args.toList ds p := hA0
  rw [Try.params24] at hA hval
  obtain ⟨v0, vs0, d0, ds0, p0, q0, hargs, rfl, rfl, h0, r0⟩ := trodAll_cons hA
  obtain ⟨v1, vs1, d1, ds1, p1, q1, rfl, rfl, rfl, h1, r1⟩ := trodAll_cons r0
  obtain ⟨v2, vs2, d2, ds2, p2, q2, rfl, rfl, rfl, h2, r2⟩ := trodAll_cons r1
  obtain ⟨rfl, rfl, rfl⟩ := trodAll_nil r2
  obtain rfl : args = #[v0, v1, v2] := by cases args; simp_all
  obtain ⟨rfl, rfl⟩ := trodVars_none hV
  have k0 := h0
  have lt0 : ∀ x ∈ p0, x.block < W.heap.size := by obtain ⟨m, hm⟩ := k0; exact DataW.trod_lt m _ _ _ hm
  obtain ⟨cs0, rfl, hsz0⟩ := okWide_struct Try.underlying42 (hval 0 42 v0 rfl rfl)
  obtain ⟨ve0, l0, hc0, w0, hl0⟩ : ∃ (ve : Value) (pl : Plan), cs0 = #[.int .i64 pl.prio, .int .i64 pl.most, .int .i64 pl.wait, .int .i64 pl.tasks, ve] ∧ Rd edgeE W W.heap.size ve pl.edges ∧ pl.edges.length ≤ maxLen := by
    obtain ⟨fuel, hf⟩ := h0
    obtain ⟨ve, pl, hc, hr, hl⟩ := read_plan hf
    exact ⟨ve, pl, by cases cs0; simpa [Value.cells] using hc, hr, hl⟩
  subst hc0
  obtain ⟨a1, len1, cap1, rfl⟩ := okWide_slice Try.underlying50 (hval 1 50 v1 rfl rfl)
  have k1 := h1
  have lt1 : ∀ x ∈ p1, x.block < W.heap.size := by obtain ⟨m, hm⟩ := k1; exact DataW.trod_lt m _ _ _ hm
  obtain ⟨l1, w1, hl1, hk1⟩ : ∃ l : List Int, Rd intE W W.heap.size (.slice a1 len1 cap1) l ∧ l.length ≤ maxLen ∧ (∀ s ∈ l, Wf s) := by
    obtain ⟨fuel, hf⟩ := h1
    obtain ⟨v, l, hc, hr, hl, hk⟩ := read_intS hf
    simp [Value.cells] at hc
    subst hc
    exact ⟨l, hr, hl, hk⟩
  obtain ⟨a2, rfl, rfl, rfl, w2⟩ := open_int Try.underlying3 (hval 2 3 v2 rfl rfl) h2
  clear hA0 hval0
  refine (lawSlotsFor_walk ve0 l0 _ l1 a2 W (by simpa [maxLen] using hl0) w0 (by simpa [maxLen] using hl1) w1 hk1).mono fun e W' ⟨he, bel⟩ => ?_
  subst he
  exact ⟨_, rfl, _, _, _, [], _, [], hW', trodAll_mk1 (shut_bool Try.underlying4 _), (trodAll_cons_mk (Below.trod laidOut_prog (by kernel_rfl) (of_decide_eq_true (by kernel_rfl)) k0 bel lt0) (trodAll_cons_mk (Below.trod laidOut_prog (by kernel_rfl) (of_decide_eq_true (by kernel_rfl)) k1 bel lt1) (trodAll_cons_mk (shut_int Try.underlying3 w2) trodAll_mk0))), rfl, bel.frame _, fun h => by cases h⟩

theorem closed : joinedFacts Try.prog 24 Try.f24 Rows.fnExactSlotsForSpec Rows.fnExactSlotsForRow = true :=
  facts_of (by kernel_rfl) (by kernel_rfl) (by kernel_rfl) (by kernel_rfl) (by kernel_rfl) (by kernel_rfl) (by kernel_rfl) (by kernel_rfl) (by kernel_rfl) rfl rfl (by kernel_rfl) (by kernel_rfl) (by kernel_rfl)

theorem over : Rows.fnExactSlotsForRow.holds Try.pinned (OpenSpec.ofChange Rows.fnExactSlotsForSpec) :=
  OpenClaim.holds_of_wide 24 Try.f24 rfl rfl rfl rfl rfl rfl rfl ⟨rfl, rfl, rfl, rfl, rfl⟩ rfl rfl rfl rfl rfl (by kernel_rfl) Try.func24 closed
    (of_decide_eq_true (by kernel_rfl)) (by unfold Func.isWrapper; first | (rw [if_pos (by decide +kernel)]; kernel_rfl) | (rw [if_neg (by decide +kernel)]; exact ⟨rfl, rfl⟩))
    (fun os started H enc _ => lifted os started H enc)

theorem proved : Rows.FnExactSlotsForSaid := over
#print axioms proved
end Go.Proofs.Ytoccmpijfggmkaa.claimSlotsFor
