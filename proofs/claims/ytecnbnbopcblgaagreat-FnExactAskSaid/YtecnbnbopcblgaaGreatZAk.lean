/-
  Proved: the law FnExactAsk returns true for every argument, and its arguments read behind the call as they read before. No conditions.
-/
import Derived.Test.YtecnbnbopcblgaaGreatZAk0
import Derived.Test.YtecnbnbopcblgaaGreatZAk4
import Derived.Test.YtecnbnbopcblgaaGreatZAk18
import Derived.Below
import Derived.OpenShut
import Derived.ChangeOld
namespace Go.Proofs.YtecnbnbopcblgaaGreat.claimAsk
open Go.ChangeShapes Go.WideShapes Go.ChangeAt Go.RowKit Go.ChangeMaps
set_option linter.unusedVariables false
set_option maxRecDepth 100000 in
theorem lifted (os:_root_.Go.Os) (started:os.Started) (H:Type) (enc:TypeId×Value->H) :
  ReturnsInHanded {} Tryz.checked os 7 .any (Rows.fnExactAskSpec.pre6 enc Tryz.prog Tryz.f7 Rows.fnExactAskRow.domain false) (Rows.fnExactAskSpec.post enc Tryz.prog Tryz.f7 false true false false):=by
 refine returnsInHanded_of_change (C:=Tryz.checked) Agf started (by kernel_rfl) Tryz.func7
  (ChangeSpec.witness6 (enc:=enc) (C:=Tryz.checked) false ⟨#[],#[.agg #[.int .i64 0,.int .i64 0,.slice none 0 0,.slice none 0 0,.slice none 0 0,.int .i64 0],.int .i64 0,.agg #[.int .i64 0,.int .i64 0,.int .i64 0,.int .i64 0,.int .i64 0,.int .i64 0,.slice none 0 0,.int .i64 0,.int .i64 0,.int .i64 0,.int .i64 0]],[]⟩ 8 (by kernel_rfl) (by kernel_rfl) (by kernel_rfl) (by kernel_rfl)) ?_
 intro W base args ds gs before hval0 hW hcnd _
 have dU:∀ (j:Nat) t v,Tryz.f7.params[j]? = some t->args[j]? = some v->Value.okWide Tryz.prog W .any base t v:=hval0
 have mP:=hW
 obtain ⟨p,q,hA0,hV,rfl,hfz,bP⟩:=hW
 have hA:DataW.TrodAll enc Tryz.prog W 0 (fun _=>true) true Tryz.f7.params.toList args.toList ds p:=hA0
 rw [Tryz.params7] at hA dU
 obtain ⟨v0,vs0,d0,ds0,p0,q0,hargs,rfl,rfl,h0,r0⟩:=trodAll_cons hA
 obtain ⟨v1,vs1,d1,ds1,p1,q1,rfl,rfl,rfl,h1,r1⟩:=trodAll_cons r0
 obtain ⟨v2,vs2,d2,ds2,p2,q2,rfl,rfl,rfl,h2,r2⟩:=trodAll_cons r1
 obtain ⟨rfl,rfl,rfl⟩:=trodAll_nil r2
 obtain rfl:args = #[v0,v1,v2]:=by cases args;simp_all
 obtain ⟨rfl,rfl⟩:=trodVars_none hV
 have k0:=h0
 have lt0:∀ x∈p0,x.block<W.heap.size:=by obtain ⟨m,hm⟩:=k0;exact DataW.trod_lt m _ _ _ hm
 obtain ⟨cs0,rfl,hsz0⟩:=okWide_struct Tryz.underlying110 (dU 0 110 v0 rfl rfl)
 obtain ⟨x0,s0,hc0,rd0,wf0⟩:∃ (p:Desk) (s:(Sl×Sl)×Sl),cs0 = #[.int .i64 p.yard.now,.int .i64 p.yard.seq,.slice s.1.1.a s.1.1.n s.1.1.c,.slice s.1.2.a s.1.2.n s.1.2.c,.slice s.2.a s.2.n s.2.c,.int .i64 p.fr]/\Cj.rd W W.heap.size p s/\Zf p:=by
  obtain ⟨fuel,hf⟩:=h0
  obtain ⟨p,s,hc,hr,hl⟩:=Afn hf
  exact ⟨p,s,by cases cs0;simpa [Value.cells] using hc,hr,hl⟩
 subst hc0
 obtain ⟨a1,rfl,rfl,rfl,w1⟩:=open_int Tryz.underlying3 (dU 1 3 v1 rfl rfl) h1
 have k2:=h2
 have lt2:∀ x∈p2,x.block<W.heap.size:=by obtain ⟨m,hm⟩:=k2;exact DataW.trod_lt m _ _ _ hm
 obtain ⟨cs2,rfl,hsz2⟩:=okWide_struct Tryz.underlying115 (dU 2 115 v2 rfl rfl)
 obtain ⟨x2,s2,rY,rd2,wf2⟩:∃ (p:Deed) (s:Sl),cs2 = #[.int .i64 p.kind,.int .i64 p.run,.int .i64 p.plan.prio,.int .i64 p.plan.most,.int .i64 p.plan.wait,.int .i64 p.plan.tasks,.slice s.a s.n s.c,.int .i64 p.task,.int .i64 p.try_,.int .i64 p.worker,.int .i64 p.draw]/\Cq.rd W W.heap.size p s/\Y8 p:=by
  obtain ⟨fuel,hf⟩:=h2
  obtain ⟨p,s,hc,hr,hl⟩:=Afh hf
  exact ⟨p,s,by cases cs2;simpa [Value.cells] using hc,hr,hl⟩
 subst rY
 clear hA0 hval0
 refine (Acv x0 s0 a1 x2 s2 W wf0 rd0 (Hj w1) wf2 rd2).mono fun e W' ⟨he,bel⟩=>?_
 subst he
 exact ⟨_,rfl,_,_,_,[],_,[],mP,trodAll_mk1 (shut_bool Tryz.underlying4 _),(trodAll_cons_mk (Below.trod Nl (by kernel_rfl) (of_decide_eq_true (by kernel_rfl)) k0 bel lt0) (trodAll_cons_mk (shut_int Tryz.underlying3 w1) (trodAll_cons_mk (Below.trod Nl (by kernel_rfl) (of_decide_eq_true (by kernel_rfl)) k2 bel lt2) trodAll_mk0))),rfl,bel.frame _,fun h=>by cases h⟩
theorem closed:joinedFacts Tryz.prog 7 Tryz.f7 Rows.fnExactAskSpec Rows.fnExactAskRow=true :=
 Agg (by kernel_rfl) (by kernel_rfl) (by kernel_rfl) (by kernel_rfl) (by kernel_rfl) (by kernel_rfl) (by kernel_rfl) (by kernel_rfl) (by kernel_rfl) rfl rfl (by kernel_rfl) (by kernel_rfl) (by kernel_rfl)
theorem over:Rows.fnExactAskRow.holds Tryz.pinned (OpenSpec.ofChange Rows.fnExactAskSpec) :=
 OpenClaim.holds_of_wide 7 Tryz.f7 rfl rfl rfl rfl rfl rfl rfl ⟨rfl,rfl,rfl,rfl,rfl⟩ rfl rfl rfl rfl rfl (by kernel_rfl) Tryz.func7 closed
  (of_decide_eq_true (by kernel_rfl)) (by unfold Func.isWrapper;first | (rw [if_pos (by decide +kernel)];kernel_rfl) | (rw [if_neg (by decide +kernel)];exact ⟨rfl,rfl⟩))
  (fun os started H enc _=>lifted os started H enc)
theorem proved:Rows.FnExactAskSaid:=over
#print axioms proved
end Go.Proofs.YtecnbnbopcblgaaGreat.claimAsk