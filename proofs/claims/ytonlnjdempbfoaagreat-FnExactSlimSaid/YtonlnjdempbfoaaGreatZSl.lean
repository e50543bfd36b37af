/-
  Proved: the law FnExactSlim returns true for every argument, and its arguments read behind the call as they read before. No conditions.
-/
import Derived.Test.YtonlnjdempbfoaaGreatZSl0
import Derived.Test.YtonlnjdempbfoaaGreatZSl4
import Derived.Test.YtonlnjdempbfoaaGreatZSl17
import Derived.Below
import Derived.OpenShut
import Derived.ChangeOld
namespace Go.Proofs.YtonlnjdempbfoaaGreat.claimSlim
open Go.ChangeShapes Go.WideShapes Go.ChangeAt Go.RowKit Go.ChangeMaps
set_option linter.unusedVariables false
set_option maxRecDepth 100000 in
theorem lifted (os:Os) (started:os.Started) (H:Type) (enc:TypeId×Value->H) :
  ReturnsInHanded {} Tryz.checked os 7 .any (Rows.fnExactSlimSpec.pre6 enc Tryz.prog Tryz.f7 Rows.fnExactSlimRow.domain false) (Rows.fnExactSlimSpec.post enc Tryz.prog Tryz.f7 false true false false):=by
 refine returnsInHanded_of_change (C:=Tryz.checked) Ade started (by kernel_rfl) Tryz.func7
  (ChangeSpec.witness6 (enc:=enc) (C:=Tryz.checked) false ⟨#[],#[.slice none 0 0],[]⟩ 8 (by kernel_rfl) (by kernel_rfl) (by kernel_rfl) (by kernel_rfl)) ?_
 intro W base args ds gs before hval0 hW hcnd _
 have mF:∀ (j:Nat) t v,Tryz.f7.params[j]? = some t->args[j]? = some v->Value.okWide Tryz.prog W .any base t v:=hval0
 have kZ:=hW
 obtain ⟨p,q,hA0,hV,rfl,hfz,bN⟩:=hW
 have hA:DataW.TrodAll enc Tryz.prog W 0 (fun _=>true) true Tryz.f7.params.toList args.toList ds p:=hA0
 rw [Tryz.params7] at hA mF
 obtain ⟨v0,vs0,d0,ds0,p0,q0,hargs,rfl,rfl,h0,r0⟩:=trodAll_cons hA
 obtain ⟨rfl,rfl,rfl⟩:=trodAll_nil r0
 obtain rfl:args = #[v0]:=by cases args;simp_all
 obtain ⟨rfl,rfl⟩:=trodVars_none hV
 have k0:=h0
 have lt0:∀ x∈p0,x.block<W.heap.size:=by obtain ⟨m,hm⟩:=k0;exact DataW.trod_lt m _ _ _ hm
 obtain ⟨a0,len0,cap0,rfl⟩:=okWide_slice Tryz.underlying75 (mF 0 75 v0 rfl rfl)
 obtain ⟨x0,rd0,wf0⟩:∃ l:List (Deed),RdL Cg W W.heap.size (Sl.v ⟨a0,len0,cap0⟩) l/\wfL Nd l:=by
  obtain ⟨fuel,hf⟩:=h0
  obtain ⟨s,l,hc,hr,hl⟩:=Aa6 hf
  simp [Value.cells] at hc
  obtain ⟨h1,h2,h3⟩:=hc
  subst h1;subst h2;subst h3
  exact ⟨l,hr,hl⟩
 clear hA0 hval0
 refine (Xz x0 ⟨a0,len0,cap0⟩ W wf0 rd0).mono fun e W' ⟨he,bel⟩=>?_
 subst he
 exact ⟨_,rfl,_,_,_,[],_,[],kZ,trodAll_mk1 (shut_bool Tryz.underlying4 _),(trodAll_cons_mk (Below.trod Pe (by kernel_rfl) (of_decide_eq_true (by kernel_rfl)) k0 bel lt0) trodAll_mk0),rfl,bel.frame _,fun h=>by cases h⟩
theorem closed:joinedFacts Tryz.prog 7 Tryz.f7 Rows.fnExactSlimSpec Rows.fnExactSlimRow=true :=
 Adf (by kernel_rfl) (by kernel_rfl) (by kernel_rfl) (by kernel_rfl) (by kernel_rfl) (by kernel_rfl) (by kernel_rfl) (by kernel_rfl) (by kernel_rfl) rfl rfl (by kernel_rfl) (by kernel_rfl) (by kernel_rfl)
theorem over:Rows.fnExactSlimRow.holds Tryz.pinned (OpenSpec.ofChange Rows.fnExactSlimSpec) :=
 OpenClaim.holds_of_wide 7 Tryz.f7 rfl rfl rfl rfl rfl rfl rfl ⟨rfl,rfl,rfl,rfl,rfl⟩ rfl rfl rfl rfl rfl (by kernel_rfl) Tryz.func7 closed
  (of_decide_eq_true (by kernel_rfl)) (by unfold Func.isWrapper;first | (rw [if_pos (by decide +kernel)];kernel_rfl) | (rw [if_neg (by decide +kernel)];exact ⟨rfl,rfl⟩))
  (fun os started H enc _=>lifted os started H enc)
theorem proved:Rows.FnExactSlimSaid:=over
#print axioms proved
end Go.Proofs.YtonlnjdempbfoaaGreat.claimSlim