/-
  Proved: the law FnExactFed returns true for every argument, and its arguments read behind the call as they read before. No conditions.
-/
import Derived.Test.YtonlnjdempbfoabGreatZFd0
import Derived.Test.YtonlnjdempbfoabGreatZFd4
import Derived.Test.YtonlnjdempbfoabGreatZFd18
import Derived.Below
import Derived.OpenShut
import Derived.ChangeOld
namespace Go.Proofs.YtonlnjdempbfoabGreat.claimFed
open Go.ChangeShapes Go.WideShapes Go.ChangeAt Go.RowKit Go.ChangeMaps
set_option linter.unusedVariables false
set_option maxRecDepth 100000 in
theorem lifted (os:Os) (started:os.Started) (H:Type) (enc:TypeId×Value->H) :
  ReturnsInHanded {} Tryz.checked os 5 .any (Rows.fnExactFedSpec.pre6 enc Tryz.prog Tryz.f5 Rows.fnExactFedRow.domain false) (Rows.fnExactFedSpec.post enc Tryz.prog Tryz.f5 false true false false):=by
 refine returnsInHanded_of_change (C:=Tryz.checked) Aft started (by kernel_rfl) Tryz.func5
  (ChangeSpec.witness6 (enc:=enc) (C:=Tryz.checked) false ⟨#[],#[.agg #[.int .i64 0,.int .i64 0,.slice none 0 0,.slice none 0 0,.int .i64 0],.slice none 0 0],[]⟩ 8 (by kernel_rfl) (by kernel_rfl) (by kernel_rfl) (by kernel_rfl)) ?_
 intro W base args ds gs before hval0 hW hcnd _
 have eD:∀ (j:Nat) t v,Tryz.f5.params[j]? = some t->args[j]? = some v->Value.okWide Tryz.prog W .any base t v:=hval0
 have kX:=hW
 obtain ⟨p,q,hA0,hV,rfl,hfz,bT⟩:=hW
 have hA:DataW.TrodAll enc Tryz.prog W 0 (fun _=>true) true Tryz.f5.params.toList args.toList ds p:=hA0
 rw [Tryz.params5] at hA eD
 obtain ⟨v0,vs0,d0,ds0,p0,q0,hargs,rfl,rfl,h0,r0⟩:=trodAll_cons hA
 obtain ⟨v1,vs1,d1,ds1,p1,q1,rfl,rfl,rfl,h1,r1⟩:=trodAll_cons r0
 obtain ⟨rfl,rfl,rfl⟩:=trodAll_nil r1
 obtain rfl:args = #[v0,v1]:=by cases args;simp_all
 obtain ⟨rfl,rfl⟩:=trodVars_none hV
 have k0:=h0
 have lt0:∀ x∈p0,x.block<W.heap.size:=by obtain ⟨m,hm⟩:=k0;exact DataW.trod_lt m _ _ _ hm
 obtain ⟨cs0,rfl,hsz0⟩:=okWide_struct Tryz.underlying68 (eD 0 68 v0 rfl rfl)
 obtain ⟨x0,s0,hc0,rd0,wf0⟩:∃ (p:Follower) (s:(Sl×Sl)),cs0 = #[.int .i64 p.yard.now,.int .i64 p.yard.seq,.slice s.1.a s.1.n s.1.c,.slice s.2.a s.2.n s.2.c,.int .i64 p.seq]/\By.rd W W.heap.size p s/\Kg p:=by
  obtain ⟨fuel,hf⟩:=h0
  obtain ⟨p,s,hc,hr,hl⟩:=Ws hf
  exact ⟨p,s,by cases cs0;simpa [Value.cells] using hc,hr,hl⟩
 subst hc0
 have k1:=h1
 have lt1:∀ x∈p1,x.block<W.heap.size:=by obtain ⟨m,hm⟩:=k1;exact DataW.trod_lt m _ _ _ hm
 obtain ⟨a1,len1,cap1,rfl⟩:=okWide_slice Tryz.underlying69 (eD 1 69 v1 rfl rfl)
 obtain ⟨x1,rd1,wf1⟩:∃ l:List (Note),RdL Ct W W.heap.size (Sl.v ⟨a1,len1,cap1⟩) l/\wfL Mi l:=by
  obtain ⟨fuel,hf⟩:=h1
  obtain ⟨s,l,hc,hr,hl⟩:=Adg hf
  simp [Value.cells] at hc
  obtain ⟨h1,h2,h3⟩:=hc
  subst h1;subst h2;subst h3
  exact ⟨l,hr,hl⟩
 clear hA0 hval0
 refine (Acc x0 s0 x1 ⟨a1,len1,cap1⟩ W wf0 rd0 wf1 rd1).mono fun e W' ⟨he,bel⟩=>?_
 subst he
 exact ⟨_,rfl,_,_,_,[],_,[],kX,trodAll_mk1 (shut_bool Tryz.underlying4 _),(trodAll_cons_mk (Below.trod M9 (by kernel_rfl) (of_decide_eq_true (by kernel_rfl)) k0 bel lt0) (trodAll_cons_mk (Below.trod M9 (by kernel_rfl) (of_decide_eq_true (by kernel_rfl)) k1 bel lt1) trodAll_mk0)),rfl,bel.frame _,fun h=>by cases h⟩
theorem closed:joinedFacts Tryz.prog 5 Tryz.f5 Rows.fnExactFedSpec Rows.fnExactFedRow=true :=
 Afu (by kernel_rfl) (by kernel_rfl) (by kernel_rfl) (by kernel_rfl) (by kernel_rfl) (by kernel_rfl) (by kernel_rfl) (by kernel_rfl) (by kernel_rfl) rfl rfl (by kernel_rfl) (by kernel_rfl) (by kernel_rfl)
theorem over:Rows.fnExactFedRow.holds Tryz.pinned (OpenSpec.ofChange Rows.fnExactFedSpec) :=
 OpenClaim.holds_of_wide 5 Tryz.f5 rfl rfl rfl rfl rfl rfl rfl ⟨rfl,rfl,rfl,rfl,rfl⟩ rfl rfl rfl rfl rfl (by kernel_rfl) Tryz.func5 closed
  (of_decide_eq_true (by kernel_rfl)) (by unfold Func.isWrapper;first | (rw [if_pos (by decide +kernel)];kernel_rfl) | (rw [if_neg (by decide +kernel)];exact ⟨rfl,rfl⟩))
  (fun os started H enc _=>lifted os started H enc)
theorem proved:Rows.FnExactFedSaid:=over
#print axioms proved
end Go.Proofs.YtonlnjdempbfoabGreat.claimFed