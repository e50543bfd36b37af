/-
  Proved: the law FnViews returns true for every argument, and its argument reads behind the call as it read before. No conditions.
-/
import Derived.Test.YtecnbnbopcblgaaGreatZVw0
import Derived.Test.YtecnbnbopcblgaaGreatZVw2
import Derived.Test.YtecnbnbopcblgaaGreatZVw18
import Derived.Below
import Derived.OpenShut
import Derived.ChangeOld
namespace Go.Proofs.YtecnbnbopcblgaaGreat.claimViews
open Go.ChangeShapes Go.WideShapes Go.ChangeAt Go.RowKit
set_option linter.unusedVariables false
set_option maxRecDepth 100000 in
theorem lifted (os:Os) (started:os.Started) (H:Type) (enc:TypeId×Value->H) :
  ReturnsInHanded {} Tryz.checked os 4 .any (Rows.fnViewsSpec.pre6 enc Tryz.prog Tryz.f4 Rows.fnViewsRow.domain false) (Rows.fnViewsSpec.post enc Tryz.prog Tryz.f4 false true false false):=by
 refine returnsInHanded_of_change (C:=Tryz.checked) Ahc started (by kernel_rfl) Tryz.func4
  (ChangeSpec.witness6 (enc:=enc) (C:=Tryz.checked) false ⟨#[],#[.slice none 0 0],[]⟩ 8 (by kernel_rfl) (by kernel_rfl) (by kernel_rfl) (by kernel_rfl)) ?_
 intro W base args ds gs before hval0 hW hcnd _
 have hval:∀ (j:Nat) t v,Tryz.f4.params[j]? = some t->args[j]? = some v->Value.okWide Tryz.prog W .any base t v:=hval0
 have kY:=hW
 obtain ⟨p,q,hA0,hV,rfl,hfz,bI⟩:=hW
 have hA:DataW.TrodAll enc Tryz.prog W 0 (fun _=>true) true Tryz.f4.params.toList args.toList ds p:=hA0
 rw [Tryz.params4] at hA hval
 obtain ⟨v0,vs0,d0,ds0,p0,q0,hargs,rfl,rfl,h0,r0⟩:=trodAll_cons hA
 obtain ⟨rfl,rfl,rfl⟩:=trodAll_nil r0
 obtain rfl:args = #[v0]:=by cases args;simp_all
 obtain ⟨rfl,rfl⟩:=trodVars_none hV
 have k0:=h0
 have lt0:∀ x∈p0,x.block<W.heap.size:=by obtain ⟨m,hm⟩:=k0;exact DataW.trod_lt m _ _ _ hm
 obtain ⟨a0,len0,cap0,rfl⟩:=okWide_slice Tryz.underlying22 (hval 0 22 v0 rfl rfl)
 obtain ⟨l0,w0,rT⟩:∃ l:List UInt8,Rd Jx W W.heap.size (.slice a0 len0 cap0) l/\l.length<=maxLen:=by
  obtain ⟨fuel,hf⟩:=h0
  obtain ⟨v,l,hc,hr,hl⟩:=Aeg hf
  simp [Value.cells] at hc
  subst hc
  exact ⟨l,hr,hl⟩
 clear hA0 hval0
 refine (Zb _ l0 W (by simpa [maxLen] using rT) w0).mono fun e W' ⟨he,bel⟩=>?_
 subst he
 exact ⟨_,rfl,_,_,_,[],_,[],kY,trodAll_mk1 (shut_bool Tryz.underlying4 _),(trodAll_cons_mk (Below.trod Rr (by kernel_rfl) (of_decide_eq_true (by kernel_rfl)) k0 bel lt0) trodAll_mk0),rfl,bel.frame _,fun h=>by cases h⟩
theorem closed:joinedFacts Tryz.prog 4 Tryz.f4 Rows.fnViewsSpec Rows.fnViewsRow=true :=
 Ahd (by kernel_rfl) (by kernel_rfl) (by kernel_rfl) (by kernel_rfl) (by kernel_rfl) (by kernel_rfl) (by kernel_rfl) (by kernel_rfl) (by kernel_rfl) rfl rfl (by kernel_rfl) (by kernel_rfl) (by kernel_rfl)
theorem over:Rows.fnViewsRow.holds Tryz.pinned (OpenSpec.ofChange Rows.fnViewsSpec) :=
 OpenClaim.holds_of_wide 4 Tryz.f4 rfl rfl rfl rfl rfl rfl rfl ⟨rfl,rfl,rfl,rfl,rfl⟩ rfl rfl rfl rfl rfl (by kernel_rfl) Tryz.func4 closed
  (of_decide_eq_true (by kernel_rfl)) (by unfold Func.isWrapper;first | (rw [if_pos (by decide +kernel)];kernel_rfl) | (rw [if_neg (by decide +kernel)];exact ⟨rfl,rfl⟩))
  (fun os started H enc _=>lifted os started H enc)
theorem proved:Rows.FnViewsSaid:=over
#print axioms proved
end Go.Proofs.YtecnbnbopcblgaaGreat.claimViews