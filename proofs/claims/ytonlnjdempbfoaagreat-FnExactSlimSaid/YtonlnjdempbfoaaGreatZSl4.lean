/-
  Copies of deeds, notes and lists of them, in memory of the call's own. sameDeed of the program. Written by program (vj.py). The laws' arguments of the deep type
-/
import Derived.Test.YtonlnjdempbfoaaGreatZSl0
import Derived.Test.YtonlnjdempbfoaaGreatZSl1
import Derived.Test.YtonlnjdempbfoaaGreatZSl2
import Derived.Test.YtonlnjdempbfoaaGreatZSl3
import Derived.Deep.RegionHeld3
namespace Go.Proofs.YtonlnjdempbfoaaGreat
open Go.RowKit
set_option maxRecDepth 100000
set_option maxHeartbeats 4000000
set_option linter.unusedVariables false
set_option linter.unusedSimpArgs false
open Value renaming int->J,slice->Aa
open IntKind renaming i64->U
open Option renaming none->Ab,some->Ac
open Below renaming setCell->Ad,alloc->Ae
open Nat renaming zero_le->Ag,le_trans->Ah,lt_of_lt_of_le->Ai
open Go renaming bodyPost_ret->Aj,wpQuiet_nil->Ak
open Go.Proofs.Tryz renaming prog->Am
open Int renaming eq_ofNat_of_zero_le->Ap
open IntWalk renaming i64_in->Aq
open List renaming length_map->Ar,getElem_mem->Aw,length_take->Az,length_append->Bd
open World renaming size_alloc->Bj,size_setCell->Bk
theorem H8 {w:World} {B:Nat} {v:Value} {l:List Edge} (h:RdL Dv w B v l):Rd Gd w B v l:=by
 obtain ⟨rs,rfl,⟨A,c,rfl,hc,hA⟩,_⟩:=h;refine ⟨A,c,by rw [Ar],by rw [Ar];exact hc,fun hl=>?_⟩;rw [Ar] at hl;obtain ⟨b,o,h1,h2,h3⟩:=hA hl;refine ⟨b,o,h1,h2,fun k hk j u hu=>?_⟩;rw [List.getElem_map] at hu;exact h3 k (by rw [Ar] at hk;exact hk) j u hu
theorem Y1 (w:World):∀ l:List Edge,Ows Dv w [] (l.map fun x=>(x,()))
 | []=>.nil
 | x :: l=>by
  have:=Ows.cons (d:=Dv) (w:=w) (F:=[]) (r:=(x,())) rfl (Y1 w l)
  exact this
theorem Aed {w:World} {E:TypeId} {base:Nat} {v:Value} {l:List Edge} (h:Ow Gd E w base v l):∃ (s:Sl) (F:List Nat),v = Aa s.a s.n s.c/\OwL Dv w F s.v l /\ ∀ b∈F,base<=b:=by
 obtain ⟨h1,h2⟩:=Hw.of_ow h;obtain ⟨⟨A,c,hv,hc,hA⟩,hF,hf⟩:=id h1;subst hv;refine ⟨⟨A,l.length,c⟩,_,rfl,⟨l.map fun x=>(x,()),Dz (Aa A l.length c) l.length,[],by rw [List.map_map];exact List.map_id _,⟨⟨A,c,by rw [Ar],by rw [Ar];exact hc,fun hl=>?_⟩,by rw [Ar],hf⟩,Y1 w l,(List.append_nil _).symm,h1.nodup⟩,h2⟩;rw [Ar] at hl;obtain ⟨b,o,h3,h4,h5⟩:=hA hl;refine ⟨b,o,h3,h4,fun k hk j u hu=>?_⟩;rw [List.getElem_map] at hu;exact h5 k (by rw [Ar] at hk;exact hk) j u hu
theorem Q9 {x:Plan} {w:World} {e:Ending} {w':World} (h:Ou x w e w'):Di Ca Ja x w e w':=by
 obtain ⟨v,rfl,h1,h2⟩:=h;obtain ⟨s,F,rfl,h3,h4⟩:=Aed h1;exact ⟨s,F,rfl,h3,h4,h2⟩
theorem Ju (x:Plan) (s:Sl) (w:World) (hl:Eb x<=2000000) (h:Ca.rd w w x s) :
  Calls Am 184 #[Ja x s] w (Di Ca Ja x w) :=
 (Wq x s.v w (Ah (Ck _ _) hl) (H8 h)).mono fun _ _=>Q9
theorem Jv (x:Plan) (s:Sl) (w:World) (hl:Eb x<=2000000) (h:Ca.rd w w x s) :
  Calls Am 157 #[Ja x s] w (Di Ca Ja x w) :=
 (Wr x s.v w (Ah (Ck _ _) hl) (H8 h)).mono fun _ _=>Q9
theorem Jw (x:Deed) (s:Sl) (w:World) (hl:Cm x<=2000000) (h:Cg.rd w w x s) :
  Calls Am 158 #[Cy x s] w (Di Cg Cy x w):=by
 have cW:∀ W,Below w w W->Cg.rd W W x s:=fun W hW=>Cg.rd_more (Cg.rd_below h hW) hW.size;go_enter Tryz.func158,Tryz.ntmps158;go_wp2_with fail
 refine (Ju x.plan s _ (by unfold Cm at hl;omega) (cW _ (by repeat (first | exact Br _ _ | refine Ae ?_ Bo _)))).mono ?_;rintro e w0 ⟨s0,F0,rfl,o0,n0,bS⟩;obtain ⟨q0,p0⟩:=Lg bS;have z0:=bS.size;simp only [Bj,Bk] at z0 n0;have B0:Below w w w0:=Bt (by repeat (first | exact Br _ _ | refine Ae ?_ Bo _)) bS;have k0:w0.cell? ⟨w,0,Ab⟩=Ac (J U x.kind):=by rw [q0 _ _ Bo];simp [go_sem]
 have k1:w0.cell? ⟨w,1,Ab⟩=Ac (J U x.run):=by rw [q0 _ _ Bo];simp [go_sem]
 have k2:w0.cell? ⟨w,2,Ab⟩=Ac (J U x.plan.prio):=by rw [q0 _ _ Bo];simp [go_sem]
 have k3:w0.cell? ⟨w,3,Ab⟩=Ac (J U x.plan.most):=by rw [q0 _ _ Bo];simp [go_sem]
 have k4:w0.cell? ⟨w,4,Ab⟩=Ac (J U x.plan.wait):=by rw [q0 _ _ Bo];simp [go_sem]
 have k5:w0.cell? ⟨w,5,Ab⟩=Ac (J U x.plan.tasks):=by rw [q0 _ _ Bo];simp [go_sem]
 have k6:w0.cell? ⟨w,6,Ab⟩=Ac (Aa s.a s.n s.c):=by rw [q0 _ _ Bo];simp [go_sem]
 have k7:w0.cell? ⟨w,7,Ab⟩=Ac (J U x.task):=by rw [q0 _ _ Bo];simp [go_sem]
 have k8:w0.cell? ⟨w,8,Ab⟩=Ac (J U x.try_):=by rw [q0 _ _ Bo];simp [go_sem]
 have k9:w0.cell? ⟨w,9,Ab⟩=Ac (J U x.worker):=by rw [q0 _ _ Bo];simp [go_sem]
 have k10:w0.cell? ⟨w,10,Ab⟩=Ac (J U x.draw):=by rw [q0 _ _ Bo];simp [go_sem]
 go_wp2;refine Aj (v:=Cy x s0) ?_ rfl ?_
 ·simp [Cy,results,Tryz.results158,go_sem,q0]
 ·refine ⟨s0,F0,rfl,?_,?_,?_⟩
  ·repeat (first | (with_reducible exact o0) | refine Dt.ow_set Ca ?_ (by intro hm;have:=n0 _ hm;(try simp only [Bj,Bk] at this);omega) _)
  ·intro b hb
   have:=n0 b hb
   omega
  ·repeat (first | (with_reducible exact B0) | (with_reducible exact Br _ _) | refine Ad ?_ Bo _ | refine Ae ?_ Bo _)
theorem Bld.push1 {α:Type} {d:Dt α} {E:TypeId} {w w1 w2 w5:World} {base:Nat} {v v5:Value} {rs:List (α×d.S)} {x:α} {s:d.S} {F:List Nat} (h:Bld d E w base v rs) (hb:Below w w w1) (o1:d.ow w1 F x s) (n1:∀ b∈F,w<=b)
  (aY:base<=w.heap.size) (aF:Below w1 w1 w2) (o5:Ow d.enc E w5 base v5 (rs ++ [(x,s)])) (g5:w2.grownBy w5 v.ownBlock) (f5:v5.ownBlock=v.ownBlock\/v5.ownBlock=Ac w2.heap.size):Bld d E w5 base v5 (rs ++ [(x,s)]):=by
 refine Bld.push h (Bt hb aF) (Ows.one (r:=(x,s)) (d.ow_below o1 aF)) n1 (d.ow_nodup o1) aY o5 g5 ?_;rcases f5 with f5 | f5
 ·exact .inl f5
 ·exact .inr ⟨_,f5,Bs _⟩
def Bls {α:Type} (d:Dt α) (E:TypeId) (w:World) (base:Nat) (v:Value) (l:List α):Prop:=∃ rs,rs.map (·.1)=l/\Bld d E w base v rs
theorem Bls.own {α:Type} {d:Dt α} {E:TypeId} {w w':World} {v:Value} {l:List α} (h:Bls d E w' w v l) (hb:Below w w w'):Di (Dt.list d) slV l w (.returned v) w':=by
 obtain ⟨rs,hm,hB⟩:=h;obtain ⟨F,h1,h2⟩:=hB.owl hm;obtain ⟨A,c,rfl,_⟩:=h1.form;exact ⟨⟨A,l.length,c⟩,F,rfl,h1,h2,hb⟩
theorem Wx (x y:Deed) (s r:Sl) (w:World) (hl:Cm x<=2000000) (hl':Cm y<=2000000) (h:Cg.rd w w x s) (h':Cg.rd w w y r) :
  Calls Am 105 #[Cy x s,Cy y r] w fun e w'=>e = .returned (.bool (decide (x=y)))/\Below w w w':=by
 have cW:∀ W,Below w w W->Cg.rd W W x s:=fun W hW=>Cg.rd_more (Cg.rd_below h hW) hW.size;have cM:∀ W,Below w w W->Cg.rd W W y r:=fun W hW=>Cg.rd_more (Cg.rd_below h' hW) hW.size;have no:∀ {P:Prop},(x=y->P) -> ¬ P->Hid (decide (x=y)=false):=fun f g=>decide_eq_false (fun e=>g (f e));have a1:Below w w (w.alloc (.cells #[J U x.kind,J U x.run,J U x.plan.prio,J U x.plan.most,J U x.plan.wait,J U x.plan.tasks,Aa s.a s.n s.c,J U x.task,J U x.try_,J U x.worker,J U x.draw] 45)):=(Br _ _).alloc (Bs _) _;have a2:Below (w.alloc (.cells #[J U x.kind,J U x.run,J U x.plan.prio,J U x.plan.most,J U x.plan.wait,J U x.plan.tasks,Aa s.a s.n s.c,J U x.task,J U x.try_,J U x.worker,J U x.draw] 45)) (w.alloc (.cells #[J U x.kind,J U x.run,J U x.plan.prio,J U x.plan.most,J U x.plan.wait,J U x.plan.tasks,Aa s.a s.n s.c,J U x.task,J U x.try_,J U x.worker,J U x.draw] 45)) ((w.alloc (.cells #[J U x.kind,J U x.run,J U x.plan.prio,J U x.plan.most,J U x.plan.wait,J U x.plan.tasks,Aa s.a s.n s.c,J U x.task,J U x.try_,J U x.worker,J U x.draw] 45)).alloc (.cells #[J U y.kind,J U y.run,J U y.plan.prio,J U y.plan.most,J U y.plan.wait,J U y.plan.tasks,Aa r.a r.n r.c,J U y.task,J U y.try_,J U y.worker,J U y.draw] 45)):=(Br _ _).alloc (Bs _) _;have X:=(DBox.new 45 [J U x.kind,J U x.run,J U x.plan.prio,J U x.plan.most,J U x.plan.wait,J U x.plan.tasks,Aa s.a s.n s.c,J U x.task,J U x.try_,J U x.worker,J U x.draw] w rfl).below a2;have Y:=DBox.new 45 [J U y.kind,J U y.run,J U y.plan.prio,J U y.plan.most,J U y.plan.wait,J U y.plan.tasks,Aa r.a r.n r.c,J U y.task,J U y.try_,J U y.worker,J U y.draw] (w.alloc (.cells #[J U x.kind,J U x.run,J U x.plan.prio,J U x.plan.most,J U x.plan.wait,J U x.plan.tasks,Aa s.a s.n s.c,J U x.task,J U x.try_,J U x.worker,J U x.draw] 45)) (b:=w.heap.size+1) Bn;have B0:=Bt a1 a2;clear a1 a2;by_cases h0:x.kind=y.kind;case neg =>
  have t0:(x.kind == y.kind)=false:=beq_eq_false_iff_ne.2 h0;have H:=no (fun e=>by rw [e]) h0;clear h0 no cW cM;go_enter Tryz.func105,Tryz.ntmps105;go_wp2;go_ret;exact ⟨Bv H.out.symm,B0⟩
 have t0:(x.kind == y.kind)=true:=by simp [h0]
 have H0:=Bq h0;clear h0;by_cases h1:x.run=y.run;case neg =>
  have t1:(x.run == y.run)=false:=beq_eq_false_iff_ne.2 h1;have H:=no (fun e=>by rw [e]) h1;clear h1 no cW cM;go_enter Tryz.func105,Tryz.ntmps105;go_wp2;go_ret;exact ⟨Bv H.out.symm,B0⟩
 have t1:(x.run == y.run)=true:=by simp [h1]
 have H1:=Bq h1;clear h1;go_enter Tryz.func105,Tryz.ntmps105;go_wp2_with fail
 generalize ((w.alloc (.cells #[J U x.kind,J U x.run,J U x.plan.prio,J U x.plan.most,J U x.plan.wait,J U x.plan.tasks,Aa s.a s.n s.c,J U x.task,J U x.try_,J U x.worker,J U x.draw] 45)).alloc (.cells #[J U y.kind,J U y.run,J U y.plan.prio,J U y.plan.most,J U y.plan.wait,J U y.plan.tasks,Aa r.a r.n r.c,J U y.task,J U y.try_,J U y.worker,J U y.draw] 45))=w0 at *
 refine (Ww x.plan y.plan s r _ (by unfold Cm at hl;omega) (by unfold Cm at hl';omega) (cW _ B0) (cM _ B0)).mono ?_;rintro e w1 ⟨rfl,b1⟩;replace X:=X.below b1;replace Y:=Y.below b1;replace B0:=Bt B0 b1;have u0:=X.cell 0 _ rfl;have v0:=Y.cell 0 _ rfl;have u1:=X.cell 1 _ rfl;have v1:=Y.cell 1 _ rfl;have u2:=X.cell 2 _ rfl;have v2:=Y.cell 2 _ rfl;have u3:=X.cell 3 _ rfl;have v3:=Y.cell 3 _ rfl;have u4:=X.cell 4 _ rfl;have v4:=Y.cell 4 _ rfl;have u5:=X.cell 5 _ rfl;have v5:=Y.cell 5 _ rfl;have u6:=X.cell 6 _ rfl;have v6:=Y.cell 6 _ rfl;have u7:=X.cell 7 _ rfl;have v7:=Y.cell 7 _ rfl;have u8:=X.cell 8 _ rfl;have v8:=Y.cell 8 _ rfl;have u9:=X.cell 9 _ rfl;have v9:=Y.cell 9 _ rfl;have u10:=X.cell 10 _ rfl;have v10:=Y.cell 10 _ rfl;have us:=X.lt;have vs:=Y.lt;by_cases h2:x.plan=y.plan;case neg =>
  have t2:decide (x.plan=y.plan)=false:=decide_eq_false h2;have H:=no (fun e=>by rw [e]) h2;rw [t2];clear h2 no cW cM t2;go_wp2;go_ret;exact ⟨Bv H.out.symm,B0⟩
 have t2:decide (x.plan=y.plan)=true:=decide_eq_true h2;rw [t2];have H2:=Bq h2;clear h2 t2 b1;by_cases h3:x.task=y.task;case neg =>
  have t3:(x.task == y.task)=false:=beq_eq_false_iff_ne.2 h3;have H:=no (fun e=>by rw [e]) h3;clear h3 no cW cM;go_wp2;go_ret;exact ⟨Bv H.out.symm,B0⟩
 have t3:(x.task == y.task)=true:=by simp [h3]
 have H3:=Bq h3;clear h3;by_cases h4:x.try_=y.try_;case neg =>
  have t4:(x.try_ == y.try_)=false:=beq_eq_false_iff_ne.2 h4;have H:=no (fun e=>by rw [e]) h4;clear h4 no cW cM;go_wp2;go_ret;exact ⟨Bv H.out.symm,B0⟩
 have t4:(x.try_ == y.try_)=true:=by simp [h4]
 have H4:=Bq h4;clear h4;by_cases h5:x.worker=y.worker;case neg =>
  have t5:(x.worker == y.worker)=false:=beq_eq_false_iff_ne.2 h5;have H:=no (fun e=>by rw [e]) h5;clear h5 no cW cM;go_wp2;go_ret;exact ⟨Bv H.out.symm,B0⟩
 have t5:(x.worker == y.worker)=true:=by simp [h5]
 have H5:=Bq h5;clear h5;by_cases h6:x.draw=y.draw;case neg =>
  have t6:(x.draw == y.draw)=false:=beq_eq_false_iff_ne.2 h6;have H:=no (fun e=>by rw [e]) h6;clear h6 no cW cM;go_wp2;go_ret;exact ⟨Bv H.out.symm,B0⟩
 have t6:(x.draw == y.draw)=true:=by simp [h6]
 have H6:=Bq h6;clear h6;have H:Hid (decide (x=y)=true):=decide_eq_true (by
  have e0:=H0.out ;have e1:=H1.out ;have e2:=H2.out ;have e3:=H3.out ;have e4:=H4.out ;have e5:=H5.out ;have e6:=H6.out;cases x;cases y;simp only at e0 e1 e2 e3 e4 e5 e6;subst e0 e1 e2 e3 e4 e5 e6;rfl)
 clear no cW cM;go_wp2;go_ret;exact ⟨Bv H.out.symm,B0⟩
open Go.ChangeShapes Go.WideShapes Go.ChangeAt Go.RowKit Go.Deep
theorem Qk:Am.cellsOf 3=1:=Bm
section
variable {H:Type} {enc:TypeId×Value->H} {w:World} {spare:Nat->Bool} {held:Bool} {fuel:Nat} {cs:List Value} {x:DataW H×List MemPlace}
theorem Aa3:Am.cellsOf 252=2:=Bm
theorem Aci (h:DataW.trod enc Am w 0 spare held fuel 252 cs=Ac x):∃ (p:Edge) (_s:Unit),cs=[.int .i64 p.fr,.int .i64 p.to]/\Dv.rd w w p _s/\Td p:=by
 obtain ⟨xs,n',_,_,aJ,fJ,hf⟩:=DataW.trod_struct Tryz.underlying252 h;rw [Aa3] at aJ;have g0:=hf 0 _ rfl;have g1:=hf 1 _ rfl;match xs,fJ,cs,aJ with
 | [y0,y1],_,[c0,c1],_ =>
  obtain ⟨a0,e0,_,w0⟩:=DataW.trod_int Tryz.underlying3 g0;obtain ⟨a1,e1,_,w1⟩:=DataW.trod_int Tryz.underlying3 g1;simp [Qk] at e0 e1;exact ⟨⟨a0,a1⟩,(),by simp [e0,e1],trivial,⟨Mv w0,Mv w1⟩⟩
theorem Y2:Am.cellsOf 141=1:=Bm
theorem Aa4 (h:DataW.trod enc Am w 0 spare held fuel 141 cs=Ac x):∃ (s:Sl) (l:List (Edge)),cs=[.slice s.a s.n s.c]/\RdL Dv w w s.v l/\wfL Td l:=by
 haveI:Inhabited ((Edge)×Dv.S):=⟨(⟨0,0⟩,())⟩
 obtain ⟨v,rs,h1,h2,h3,h4⟩:=S7 Dv.enc (fun z:(Edge)×Unit=>Dv.rd w w z.1 z.2/\Td z.1) Tryz.underlying141 Bm Bp (fun n cs' y hy=>by
  obtain ⟨p0,s0,e0,h0,k0⟩:=Aci hy;exact ⟨(p0,s0),e0,h0,k0⟩) h
 obtain ⟨A,c,hv,hc,hr⟩:=id h2;refine ⟨⟨A,rs.length,c⟩,rs.map (·.1),by rw [h1,hv],⟨rs,rfl,by rw [hv] at h2;exact h2,fun r hr=>(h3 r hr).1⟩,by rw [Ar];simpa [maxLen] using h4,fun z hz=>?_⟩;obtain ⟨r,hr,rfl⟩:=List.mem_map.1 hz;exact (h3 r hr).2
theorem Tq:Am.cellsOf 143=5:=Bm
theorem Acj (h:DataW.trod enc Am w 0 spare held fuel 143 cs=Ac x):∃ (p:Plan) (s:Sl),cs=[.int .i64 p.prio,.int .i64 p.most,.int .i64 p.wait,.int .i64 p.tasks,.slice s.a s.n s.c]/\Ca.rd w w p s/\Aar p:=by
 obtain ⟨xs,n',_,_,aJ,fJ,hf⟩:=DataW.trod_struct Tryz.underlying143 h;rw [Tq] at aJ;have g0:=hf 0 _ rfl;have g1:=hf 1 _ rfl;have g2:=hf 2 _ rfl;have g3:=hf 3 _ rfl;have g4:=hf 4 _ rfl;match xs,fJ,cs,aJ with
 | [y0,y1,y2,y3,y4],_,[c0,c1,c2,c3,c4],_ =>
  obtain ⟨a0,e0,_,w0⟩:=DataW.trod_int Tryz.underlying3 g0;obtain ⟨a1,e1,_,w1⟩:=DataW.trod_int Tryz.underlying3 g1;obtain ⟨a2,e2,_,w2⟩:=DataW.trod_int Tryz.underlying3 g2;obtain ⟨a3,e3,_,w3⟩:=DataW.trod_int Tryz.underlying3 g3;obtain ⟨s4,a4,e4,r4,w4⟩:=Aa4 g4;simp [Qk,Y2] at e0 e1 e2 e3 e4;exact ⟨⟨a0,a1,a2,a3,a4⟩,s4,by simp [e0,e1,e2,e3,e4],r4,⟨Mv w0,Mv w1,Mv w2,Mv w3,w4⟩⟩
theorem Aa5:Am.cellsOf 145=11:=Bm
theorem Ack (h:DataW.trod enc Am w 0 spare held fuel 145 cs=Ac x):∃ (p:Deed) (s:Sl),cs=[.int .i64 p.kind,.int .i64 p.run,.int .i64 p.plan.prio,.int .i64 p.plan.most,.int .i64 p.plan.wait,.int .i64 p.plan.tasks,.slice s.a s.n s.c,.int .i64 p.task,.int .i64 p.try_,.int .i64 p.worker,.int .i64 p.draw]/\Cg.rd w w p s/\Nd p:=by
 obtain ⟨xs,n',_,_,aJ,fJ,hf⟩:=DataW.trod_struct Tryz.underlying145 h;rw [Aa5] at aJ;have g0:=hf 0 _ rfl;have g1:=hf 1 _ rfl;have g2:=hf 2 _ rfl;have g3:=hf 3 _ rfl;have g4:=hf 4 _ rfl;have g5:=hf 5 _ rfl;have g6:=hf 6 _ rfl;match xs,fJ,cs,aJ with
 | [y0,y1,y2,y3,y4,y5,y6],_,[c0,c1,c2,c3,c4,c5,c6,c7,c8,c9,c10],_ =>
  obtain ⟨a0,e0,_,w0⟩:=DataW.trod_int Tryz.underlying3 g0;obtain ⟨a1,e1,_,w1⟩:=DataW.trod_int Tryz.underlying3 g1;obtain ⟨a2,s2,e2,r2,w2⟩:=Acj g2;obtain ⟨a3,e3,_,w3⟩:=DataW.trod_int Tryz.underlying3 g3;obtain ⟨a4,e4,_,w4⟩:=DataW.trod_int Tryz.underlying3 g4;obtain ⟨a5,e5,_,w5⟩:=DataW.trod_int Tryz.underlying3 g5;obtain ⟨a6,e6,_,w6⟩:=DataW.trod_int Tryz.underlying3 g6;simp [Qk,Tq] at e0 e1 e2 e3 e4 e5 e6;exact ⟨⟨a0,a1,a2,a3,a4,a5,a6⟩,s2,by simp [e0,e1,e2,e3,e4,e5,e6],r2,⟨Mv w0,Mv w1,w2,Mv w3,Mv w4,Mv w5,Mv w6⟩⟩
theorem Aa6 (h:DataW.trod enc Am w 0 spare held fuel 75 cs=Ac x):∃ (s:Sl) (l:List (Deed)),cs=[.slice s.a s.n s.c]/\RdL Cg w w s.v l/\wfL Nd l:=by
 haveI:Inhabited ((Deed)×Cg.S):=⟨(⟨0,0,⟨0,0,0,0,[]⟩,0,0,0,0⟩,⟨Ab,0,0⟩)⟩
 obtain ⟨v,rs,h1,h2,h3,h4⟩:=S7 Cg.enc (fun z:(Deed)×Sl=>Cg.rd w w z.1 z.2/\Nd z.1) Tryz.underlying75 Bm Bp (fun n cs' y hy=>by
  obtain ⟨p0,s0,e0,h0,k0⟩:=Ack hy;exact ⟨(p0,s0),e0,h0,k0⟩) h
 obtain ⟨A,c,hv,hc,hr⟩:=id h2;refine ⟨⟨A,rs.length,c⟩,rs.map (·.1),by rw [h1,hv],⟨rs,rfl,by rw [hv] at h2;exact h2,fun r hr=>(h3 r hr).1⟩,by rw [Ar];simpa [maxLen] using h4,fun z hz=>?_⟩;obtain ⟨r,hr,rfl⟩:=List.mem_map.1 hz;exact (h3 r hr).2
end
theorem Lr (a b:Entry) (w:World) :
  Calls Am 181 #[Hd a (),Hd b ()] w fun e w'=>e = .returned (.bool (Er a b))/\Below w w w':=by
 cases t1:decide (b.prio<a.prio)<;>cases t2:(a.prio == b.prio)<;>cases t3:decide (a.seq<b.seq);all_goals
  have H:=Bq (show (decide (b.prio<a.prio) || ((a.prio == b.prio) && decide (a.seq<b.seq)))=Er a b from rfl);go_enter Tryz.func181,Tryz.ntmps181;go_wp2;go_ret;exact ⟨Bv (by rw [<-H.out,t1,t2,t3];rfl),by repeat (first | exact Br _ _ | refine Ae ?_ Bo _)⟩
theorem Ka (a b:Entry) (w:World) :
  Calls Am 255 #[Hd a (),Hd b ()] w fun e w'=>e = .returned (.bool (Er a b))/\Below w w w':=by
 cases t1:decide (b.prio<a.prio)<;>cases t2:(a.prio == b.prio)<;>cases t3:decide (a.seq<b.seq);all_goals
  have H:=Bq (show (decide (b.prio<a.prio) || ((a.prio == b.prio) && decide (a.seq<b.seq)))=Er a b from rfl);go_enter Tryz.func255,Tryz.ntmps255;go_wp2;go_ret;exact ⟨Bv (by rw [<-H.out,t1,t2,t3];rfl),by repeat (first | exact Br _ _ | refine Ae ?_ Bo _)⟩
theorem Tr {l:List Entry} {k:Nat} (kJ:1<=k) (aA:k<l.length) (h:∀ j (hj:j+1<l.length),j+1<k->Er l[j] l[j+1]=true) (t:Er l[k - 1] l[k]=true) :
  ∀ j (hj:j+1<l.length),j+1<k+1->Er l[j] l[j+1]=true:=by
 intro j hj fK;by_cases e:j+1=k
 ·subst e;simpa using t
 ·exact h j hj Bl
theorem V2 {l:List Entry} {k:Nat} (kJ:1<=k) (aA:k<l.length) (t:Er l[k - 1] l[k]=false):¬ Hf l:=by
 rintro ⟨_,h⟩
 have:=h (k - 1) Bl
 have e:k - 1+1=k:=Bl;simp only [e] at this;rw [t] at this;cases this
theorem Rx (l:List Entry) (s:Sl) (w:World) (hl:l.length<=2000000) (h:RdL Bx w w s.v l) :
  Calls Am 116 #[Aa s.a s.n s.c] w fun e w'=>e = .returned (.bool (tf (Hf l)))/\Below w w w':=by
 obtain ⟨A,n,c⟩:=s;obtain rfl:n=l.length:=RdL.at1 (s:=⟨A,n,c⟩) h;go_enter Tryz.func116,Tryz.ntmps116;go_wp2;go_loopw [3] (fun i wr=>∃ k:Nat,1<=k/\(k<=l.length\/k=1)/\i = J U k/\Hid (∀ j (hj:j+1<l.length),j+1<k->Er l[j] l[j+1]=true)/\Below w w wr) (fun i _=>l.length - (intOf i).toNat);case atStart=>exact ⟨1,Bs _,.inr rfl,rfl,fun j hj h0=>absurd h0 Bl,Br _ _⟩
 case round =>
  obtain ⟨k,kJ,hk,rfl,bE,hb⟩:=hrel;have sI:(0:Int)<(k:Int):=Bl;by_cases aA:k<l.length
  ·have aB:(k:Int)<(l.length:Int):=Bl;obtain ⟨b,o,_,rfl,aH,_,c0,c1,c2,c3⟩:=(h.below hb).entry aA;obtain ⟨b',o',_,he,_,_,d0,d1,d2,d3⟩:=(h.below hb).entry (k:=k - 1) Bl;simp only [Option.some.injEq,Addr.mk.injEq,and_true] at he;obtain ⟨rfl,rfl⟩:=he;have hs:b<wr:=Ai aH hb.size;have aR:=C7 wr;cases t2:Er l[k - 1] l[k]
   ·have H:=Bq (Cf (V2 kJ aA t2));go_wp2;refine Bw Bm Bm ?_;repeat (go_big_quiet_step ((go_at_call 181;rename_i x;have h1:=Lr l[k - 1] l[k] x.1;exact Ey h1)))
    refine Ak ?_;rintro _ ⟨⟨w1,aN⟩,rfl⟩;clear aR;go_wp2;go_ret;exact ⟨Bv H.out.symm,Bt hb aN⟩
   ·have S:=Bq (Tr kJ aA bE.out t2);go_wp2;refine Bw Bm Bm ?_;repeat (go_big_quiet_step ((go_at_call 181;rename_i x;have h1:=Lr l[k - 1] l[k] x.1;exact Ey h1)))
    refine Ak ?_;rintro _ ⟨⟨w1,aN⟩,rfl⟩;clear aR;go_wp2;exact ⟨⟨k+1,Bl,Bl,by go_num,S,Bt hb aN⟩,by simp [intOf];omega⟩
  ·have aB:¬ (k:Int)<(l.length:Int):=Bl;by_cases h8:l.length<=80
   ·have H:=Bq (Dj (show Hf l from ⟨h8,fun j hj=>bE.out j hj Bl⟩));go_wp2;go_ret;exact ⟨Bv (by rw [H.out];exact decide_eq_true Bl),hb⟩
   ·have H:=Bq (Cf (show ¬ Hf l from fun h=>h8 h.1));have h8i:¬ (l.length:Int)<=80:=Bl;go_wp2;go_ret;exact ⟨Bv (by rw [H.out]),hb⟩
theorem Ry (l:List Entry) (s:Sl) (w:World) (hl:l.length<=2000000) (h:RdL Bx w w s.v l) :
  Calls Am 245 #[Aa s.a s.n s.c] w fun e w'=>e = .returned (.bool (tf (Hf l)))/\Below w w w':=by
 obtain ⟨A,n,c⟩:=s;obtain rfl:n=l.length:=RdL.at1 (s:=⟨A,n,c⟩) h;by_cases h8:80<l.length
 ·have H:=Bq (Cf (show ¬ Hf l from fun h=>by have:=h.1;omega));have h8i:(80:Int)<(l.length:Int):=Bl;go_enter Tryz.func245,Tryz.ntmps245;go_wp2;go_ret;exact ⟨Bv H.out.symm,Br _ _⟩
 have h8i:¬ (80:Int)<(l.length:Int):=Bl;go_enter Tryz.func245,Tryz.ntmps245;go_wp2;go_loopw [3] (fun i wr=>∃ k:Nat,1<=k/\(k<=l.length\/k=1)/\i = J U k/\Hid (∀ j (hj:j+1<l.length),j+1<k->Er l[j] l[j+1]=true)/\Below w w wr) (fun i _=>l.length - (intOf i).toNat);case atStart=>exact ⟨1,Bs _,.inr rfl,rfl,fun j hj h0=>absurd h0 Bl,Br _ _⟩
 case round =>
  obtain ⟨k,kJ,hk,rfl,bE,hb⟩:=hrel;have sI:(0:Int)<(k:Int):=Bl;by_cases aA:k<l.length
  ·have aB:(k:Int)<(l.length:Int):=Bl;obtain ⟨b,o,_,rfl,aH,_,c0,c1,c2,c3⟩:=(h.below hb).entry aA;obtain ⟨b',o',_,he,_,_,d0,d1,d2,d3⟩:=(h.below hb).entry (k:=k - 1) Bl;simp only [Option.some.injEq,Addr.mk.injEq,and_true] at he;obtain ⟨rfl,rfl⟩:=he;have hs:b<wr:=Ai aH hb.size;have aR:=C7 wr;cases t2:Er l[k - 1] l[k]
   ·have H:=Bq (Cf (V2 kJ aA t2));go_wp2;refine Bw Bm Bm ?_;repeat (go_big_quiet_step ((go_at_call 255;rename_i x;have h1:=Ka l[k - 1] l[k] x.1;exact Ey h1)))
    refine Ak ?_;rintro _ ⟨⟨w1,aN⟩,rfl⟩;clear aR;go_wp2;go_ret;exact ⟨Bv H.out.symm,Bt hb aN⟩
   ·have S:=Bq (Tr kJ aA bE.out t2);go_wp2;refine Bw Bm Bm ?_;repeat (go_big_quiet_step ((go_at_call 255;rename_i x;have h1:=Ka l[k - 1] l[k] x.1;exact Ey h1)))
    refine Ak ?_;rintro _ ⟨⟨w1,aN⟩,rfl⟩;clear aR;go_wp2;exact ⟨⟨k+1,Bl,Bl,by go_num,S,Bt hb aN⟩,by simp [intOf];omega⟩
  ·have aB:¬ (k:Int)<(l.length:Int):=Bl;have H:=Bq (Dj (show Hf l from ⟨Bl,fun j hj=>bE.out j hj Bl⟩));go_wp2;go_ret;exact ⟨Bv H.out.symm,hb⟩
def Gk (l:List Task) (s:Int) (k:Nat):List Nat:=(List.range k).filter fun t=>(l.getD t ⟨0,0,0,0⟩).state == s
def G7 (l:List Task) (s:Int):List Nat:=Gk l s l.length
theorem Nj (l:List Task) (s:Int) (k:Nat) (hk:k<l.length):Gk l s (k+1)=Gk l s k ++ (if l[k].state=s then [k] else []):=by
 unfold Gk;rw [List.range_succ,List.filter_append];congr 1;have:l.getD k ⟨0,0,0,0⟩=l[k]:=by rw [List.getD_eq_getElem?_getD,List.getElem?_eq_getElem hk];rfl
 by_cases h:l[k].state=s
 ·simp [h,this,hk]
 ·simp [h,this,hk]
theorem Oc (l:List Task) (s:Int):∀ (k:Nat),k<=l.length->(Gk l s k).length=Dl (l.take k) s
 | 0,_=>by simp [Gk,Dl]
 | k+1,hk=>by
  rw [Nj l s k Bl,Bd,Oc l s k Bl];by_cases h:l[k].state=s
  ·rw [Yy Bl h,if_pos h];rfl
  ·rw [Abv Bl h,if_neg h];rfl
theorem Ra (l:List Task) (s:Int):(G7 l s).length=Dl l s:=by
 unfold G7;rw [Oc l s _ (Bs _),List.take_length]
theorem Kp (l:List Task) (s:Int) (k:Nat):(Gk l s k).length<=k:=by
 unfold Gk;exact Ah (List.length_filter_le _ _) Bn
theorem Ho (r:Run) (s:Sl×Sl) (st:Int) (w:World) (hl:r.tasks.length<=2000000) (h:Ch.rd w w r s) :
  Calls Am 84 #[Gw r s,.int .i64 st] w fun e w'=>∃ v,e = .returned v/\Ow Ec 3 w' w v (G7 r.tasks st)/\Below w w w':=by
 obtain ⟨⟨A1,n1,c1⟩,⟨A2,n2,c2⟩⟩:=s;obtain rfl:n2=r.tasks.length:=RdL.at1 (s:=⟨A2,n2,c2⟩) h.2;have h2:RdL Ee w w (.slice A2 r.tasks.length c2) r.tasks:=h.2;obtain ⟨W,aG,X,B0⟩:=bx1 w 89 [.int .i64 r.id,.int .i64 r.plan.prio,.int .i64 r.plan.most,.int .i64 r.plan.wait,.int .i64 r.plan.tasks,.slice A1 n1 c1,.int .i64 r.state,.slice A2 r.tasks.length c2];obtain ⟨j0,cB,jz0,jz1,jz2⟩:=info_parts Kc;go_enter Tryz.func84,Tryz.ntmps84;go_wp2;rw [<-aG.out];clear aG;go_loopw [5,11] (fun vl i wr=>∃ k:Nat,k<=r.tasks.length/\i = .int .i64 k/\Ow Ec 3 wr (w.heap.size+1) vl (Gk r.tasks st k)/\Below w w wr/\w.heap.size<wr.heap.size) (fun _ i _=>r.tasks.length - (intOf i).toNat);case atStart=>exact ⟨0,Ag _,rfl,by simpa [Gk] using Ow.nil Ec 3 W (w.heap.size+1),B0,X.lt⟩
 case round =>
  clear X B0;obtain ⟨k,hk,rfl,ho,hb,aV⟩:=hrel;by_cases aA:k<r.tasks.length
  ·have aB:(k:Int)<(r.tasks.length:Int):=Bl;obtain ⟨b,o,_,rfl,aH,_,d0,d1,d2,d3⟩:=(h2.below hb).task aA;have hS:=Nj r.tasks st k aA;have Hl:=Bq (show (Gk r.tasks st k).length<=3000000 by have:=Kp r.tasks st k;omega);by_cases hx:r.tasks[k].state=st
   ·rw [if_pos hx] at hS;have S:=Bq hS;have t1:(r.tasks[k].state == st)=true:=beq_iff_eq.2 hx;clear hS hx;have ha:Hid (∀ w:World,Below w w ((w.alloc (.cells #[.int .i64 r.tasks[k].state,.int .i64 r.tasks[k].need,.int .i64 r.tasks[k].try_,.int .i64 r.tasks[k].until_] 138)).alloc (.cells #[.int .i64 (k:Int)] 3))):=fun w=>((Br _ _).alloc (Bs _) _).alloc Bn _;go_wp2_with (at_builtin;refine By _ Ec Bp rfl (.tmp 20) (.tmp 22) rfl Tryz.underlying26 cB jz0 jz1 jz2 rfl (l:=Gk r.tasks st k) rfl (ho.below (ha.out wr)) rfl (Rd.one Ec _ _ k Bn rfl 1 (Bs _) (Nat.lt_succ_self _)) Hl.out Bn Bp (by simp;omega) ?_;intro v5 w5 o5 g5 _)
    have aU:=Bt hb (ha.out wr);have W5:=aU.grown g5 aU.size (fun g hg=>by have:=ho.within _ hg;omega);have sY:=g5.size;simp only [Bj] at sY;refine ⟨⟨k+1,Bl,by go_num,?_,W5,Bl⟩,by simp [intOf];omega⟩;rw [S.out];exact o5
   ·rw [if_neg hx,List.append_nil] at hS;have S:=Bq hS;have t1:(r.tasks[k].state == st)=false:=beq_eq_false_iff_ne.2 hx;clear hS hx;have ha:Hid (∀ w:World,Below w w (w.alloc (.cells #[.int .i64 r.tasks[k].state,.int .i64 r.tasks[k].need,.int .i64 r.tasks[k].try_,.int .i64 r.tasks[k].until_] 138))):=fun w=>(Br _ _).alloc (Bs _) _;go_wp2;refine ⟨⟨k+1,Bl,by go_num,?_,Bt hb (ha.out wr),by simp;omega⟩,by simp [intOf];omega⟩;rw [S.out];exact ho.below (ha.out wr)
  ·have aB:¬ (k:Int)<(r.tasks.length:Int):=Bl;have bJ:k=r.tasks.length:=Bl;subst bJ;go_wp2;go_ret;exact ⟨_,rfl,ho.more Bl,hb⟩
theorem Ts {es:List (Nat×Nat)} {T t x:Nat} (h:x∈Dq es T t):x<T:=by
 unfold Dq at h;exact List.mem_range.1 (List.mem_filter.1 h).1
theorem Tt (r:Run) (s:Sl×Sl) (t:Nat) (w:World) (hf:Co r.plan=0) (hT:(r.tasks.length:Int)=r.plan.tasks) (h:Ch.rd w w r s) :
  Calls Am 230 #[Gw r s,J U (t:Int)] w fun e w'=>e = .returned (J U (H7 r t:Nat))/\Below w w w':=by
 obtain ⟨⟨A1,n1,c1⟩,⟨A2,n2,c2⟩⟩:=s;obtain rfl:n2=r.tasks.length:=RdL.at1 (s:=⟨A2,n2,c2⟩) h.2;have h2:RdL Ee w w (Aa A2 r.tasks.length c2) r.tasks:=h.2;have h1:Rd Gd w w (Aa A1 n1 c1) r.plan.edges:=H8 h.1;have hl:r.tasks.length<=12:=by have:=Dw (C9.1 hf).1;omega
 have HL:=Bq (show ∀ x∈Dq (Dn r.plan) r.plan.tasks.toNat t,x<r.tasks.length from fun x hx=>by have:=Ts hx;omega);have HN:=Bq (show (Dq (Dn r.plan) r.plan.tasks.toNat t).length<=12 by have:=Ij (Dn r.plan) r.plan.tasks.toNat t;omega);have HD:=Bq (show H7 r t=Hg r (Dq (Dn r.plan) r.plan.tasks.toNat t) from rfl);clear hT;obtain ⟨W,aG,X,B0⟩:=bx1 w 89 [J U r.id,J U r.plan.prio,J U r.plan.most,J U r.plan.wait,J U r.plan.tasks,Aa A1 n1 c1,J U r.state,Aa A2 r.tasks.length c2];go_enter Tryz.func230,Tryz.ntmps230;go_wp2_with fail
 rw [<-aG.out];clear aG;refine (Nh r.plan (Aa A1 n1 c1) t _ hf ((h1.below B0).more B0.size)).mono ?_;rintro e w1 ⟨v,rfl,o1,b1⟩;generalize Dq (Dn r.plan) r.plan.tasks.toNat t=L at *
 obtain ⟨A3,c3,rfl,-⟩:=id (Rd.of_own o1);replace B0:=Bt B0 b1;replace X:=X.below b1;have X_:=X.g8;have cR:=HN.out;go_wp2;go_loop [5,13] (fun n i=>∃ k:Nat,k<=L.length/\i = J U k/\n = J U (Hg r (L.take k):Nat)) (fun _ i=>L.length - (intOf i).toNat);case atStart=>exact ⟨0,Ag _,rfl,rfl⟩
 case round =>
  obtain ⟨k,hk,rfl,rfl⟩:=hrel;have ol:=Nt r (L.take k);rw [Az] at ol;by_cases aA:k<L.length
  ·have aB:(k:Int)<(L.length:Int):=Bl;have hx:=HL.out _ (Aw aA);obtain ⟨b3,o3,rfl,cA,e0⟩:=(Rd.of_own o1).nat aA;obtain ⟨b,o,_,rfl,aH,_,d0,d1,d2,d3⟩:=(h2.below B0).task hx;have hxI:(L[k]:Int)<(r.tasks.length:Int):=Bl;have ht:=Bq (Cr hx);by_cases h4:r.tasks[L[k]].state=4
   ·have S:=Bq (Vx (r:=r) aA (by rw [ht.out];exact h4));have t4:(r.tasks[L[k]].state != 4)=false:=by simp [h4]
    clear h4;go_wp2;exact ⟨⟨k+1,Bl,by go_num,by rw [S.out]⟩,by simp [intOf];omega⟩
   ·have S:=Bq (Tm (r:=r) aA (by rw [ht.out];exact h4));have t4:(r.tasks[L[k]].state != 4)=true:=by simp [h4]
    clear h4;go_wp2;exact ⟨⟨k+1,Bl,by go_num,by rw [S.out];go_num⟩,by simp [intOf];omega⟩
  ·have aB:¬ (k:Int)<(L.length:Int):=Bl;have bJ:k=L.length:=Bl;subst bJ;go_wp2;go_ret;exact ⟨Dc (by rw [HD.out]),B0⟩
theorem DBox.set {b:Nat} {cs:List Value} {w:World} (h:DBox b cs w) (j:Nat) (hj:j<cs.length) (u:Value):DBox b (cs.set j u) (w.setCell ⟨b,j,Ab⟩ u):=by
 refine ⟨fun i x hx=>?_,fun i=>by rw [Ig];exact h.free i,by simpa [World.setCell] using h.lt⟩;have hi:i<cs.length:=by
  have:=(List.getElem?_eq_some_iff.1 hx).1
  simpa using this
 rw [Km w b i j u cs[i] (h.cell i _ (List.getElem?_eq_getElem hi)) ⟨_,h.cell j _ (List.getElem?_eq_getElem hj)⟩];by_cases e:i=j
 ·subst e;rw [List.getElem?_set_self hi] at hx;rw [if_pos rfl];exact hx
 ·rw [List.getElem?_set_ne (Ne.symm e),List.getElem?_eq_getElem hi] at hx;rw [if_neg e];exact hx
theorem DBox.off {b:Nat} {cs:List Value} {w w':World} {row:Option Nat} (h:DBox b cs w) (hg:w.grownBy w' row) (aC:Ac b≠row):DBox b cs w' :=
 h.keep hg.size (fun j=>hg.cell_far ⟨b,j,Ab⟩ h.lt aC) (fun j=>hg.frozen_far ⟨b,j,Ab⟩ h.lt aC)
theorem DBox.setOther {b:Nat} {cs:List Value} {w:World} (h:DBox b cs w) {a:Addr} (aC:b≠a.block) (u:Value):DBox b cs (w.setCell a u) :=
 h.off (N7 w a u) (fun e=>aC (Option.some.inj e))
theorem Bld.setOther {α:Type} {d:Dt α} {E:TypeId} {w:World} {base:Nat} {v:Value} {rs:List (α×d.S)} (h:Bld d E w base v rs) {a:Addr} (ha:a.block<base) (u:Value):Bld d E (w.setCell a u) base v rs:=by
 obtain ⟨G,h1,h2,h3,h4⟩:=h;refine ⟨G,h1.setOther (fun e=>by have:=h1.within _ e;omega) u,h2.keep (by simp [World.setCell]) (fun b hb=>Below.heap_setCell w a u b (fun e=>by have:=(h4 b hb).1;omega)),h3,h4⟩
theorem Ls (l:List Deed) (s:Sl) (w:World) (hl:E6 Cm l<=2000000) (h:RdL Cg w w s.v l) :
  Calls Am 89 #[.slice s.a s.n s.c] w (Di (Dt.list Cg) slV l w):=by
 obtain ⟨A,n,c⟩:=s;obtain ⟨A',c',hv,-⟩:=h.form;simp only [Sl.v,Value.slice.injEq] at hv;obtain ⟨rfl,rfl,rfl⟩:=hv;have cR:l.length<=2000000:=Ah (Ck _ _) hl;have gF:∀ k (hk:k<l.length),Cm l[k]<=2000000:=fun k hk=>by have:=Ds (cnt:=Cm) (Aw hk);omega
 clear hl;obtain ⟨i0,aL,aS,aP,aQ⟩:=info_parts K5;go_enter Tryz.func89,Tryz.ntmps89;go_wp2;go_loopw [3,4] (fun t i wr=>∃ (k:Nat) (v:Value),k<=l.length/\i = .int .i64 k/\v=t/\Hid (Bls Cg 45 wr w v (l.take k))/\Below w w wr) (fun _ i _=>l.length - (intOf i).toNat);case atStart=>exact ⟨0,_,Ag _,rfl,rfl,⟨[],rfl,Bld.of_empty (Ow.empty Cg.enc 45 w rfl)⟩,(Br _ _).alloc (Bs _) _⟩
 case round =>
  obtain ⟨k,v,hk,rfl,rfl,dF,hb⟩:=hrel;by_cases aA:k<l.length
  ·obtain ⟨b,o,s',rfl,aH,hr,c0,c1,c2,c3,c4,c5,c6,c7,c8,c9,c10⟩:=(h.below hb).deed aA;have hx:∀ W,Below wr wr W->Cg.rd W W l[k] s':=fun W hW=>Cg.rd_more (Cg.rd_below (Cg.rd_more hr hb.size) hW) hW.size;obtain ⟨rs,hm,hB⟩:=dF.out;have bK:rs.length=k:=by have:=congrArg List.length hm;simpa [Nat.min_eq_left hk] using this
   have hO:=hB.ow;have aV:=hb.size;have D1:=DBox.new 45 [.int .i64 l[k].kind,.int .i64 l[k].run,.int .i64 l[k].plan.prio,.int .i64 l[k].plan.most,.int .i64 l[k].plan.wait,.int .i64 l[k].plan.tasks,.slice s'.a s'.n s'.c,.int .i64 l[k].task,.int .i64 l[k].try_,.int .i64 l[k].worker,.int .i64 l[k].draw] wr rfl;have B1:=(Br wr wr).alloc (Bs _) (.cells #[.int .i64 l[k].kind,.int .i64 l[k].run,.int .i64 l[k].plan.prio,.int .i64 l[k].plan.most,.int .i64 l[k].plan.wait,.int .i64 l[k].plan.tasks,.slice s'.a s'.n s'.c,.int .i64 l[k].task,.int .i64 l[k].try_,.int .i64 l[k].worker,.int .i64 l[k].draw] 45);go_wp2_with fail
   refine (Jv l[k].plan s' _ (gF k aA) (hx _ B1)).mono ?_;rintro e w2 ⟨s2,F2,rfl,o2,n2,b2⟩;have D2:=D1.below b2;have z2:=b2.size;simp only [Bj] at z2 n2;have B2:=Bt B1 b2;have zf:=D2.free;have k0:w2.cell? ⟨wr,0,Ab⟩=Ac (.int .i64 l[k].kind):=D2.cell 0 _ rfl;have k1:w2.cell? ⟨wr,1,Ab⟩=Ac (.int .i64 l[k].run):=D2.cell 1 _ rfl;have k2:w2.cell? ⟨wr,2,Ab⟩=Ac (.int .i64 l[k].plan.prio):=D2.cell 2 _ rfl;have k3:w2.cell? ⟨wr,3,Ab⟩=Ac (.int .i64 l[k].plan.most):=D2.cell 3 _ rfl;have k4:w2.cell? ⟨wr,4,Ab⟩=Ac (.int .i64 l[k].plan.wait):=D2.cell 4 _ rfl;have k5:w2.cell? ⟨wr,5,Ab⟩=Ac (.int .i64 l[k].plan.tasks):=D2.cell 5 _ rfl;have k6:w2.cell? ⟨wr,6,Ab⟩=Ac (.slice s'.a s'.n s'.c):=D2.cell 6 _ rfl;have k7:w2.cell? ⟨wr,7,Ab⟩=Ac (.int .i64 l[k].task):=D2.cell 7 _ rfl;have k8:w2.cell? ⟨wr,8,Ab⟩=Ac (.int .i64 l[k].try_):=D2.cell 8 _ rfl;have k9:w2.cell? ⟨wr,9,Ab⟩=Ac (.int .i64 l[k].worker):=D2.cell 9 _ rfl;have k10:w2.cell? ⟨wr,10,Ab⟩=Ac (.int .i64 l[k].draw):=D2.cell 10 _ rfl;have dl:=D2.lt;clear D1 D2 hx;have B3:Below wr wr (((((w2.setCell ⟨wr,2,Ab⟩ (.int .i64 l[k].plan.prio)).setCell ⟨wr,3,Ab⟩ (.int .i64 l[k].plan.most)).setCell ⟨wr,4,Ab⟩ (.int .i64 l[k].plan.wait)).setCell ⟨wr,5,Ab⟩ (.int .i64 l[k].plan.tasks)).setCell ⟨wr,6,Ab⟩ (.slice s2.a s2.n s2.c)):=by repeat (first | (with_reducible exact B2) | refine Ad ?_ Bo _ | refine Ae ?_ Bo _)
   have z3:(((((w2.setCell ⟨wr,2,Ab⟩ (.int .i64 l[k].plan.prio)).setCell ⟨wr,3,Ab⟩ (.int .i64 l[k].plan.most)).setCell ⟨wr,4,Ab⟩ (.int .i64 l[k].plan.wait)).setCell ⟨wr,5,Ab⟩ (.int .i64 l[k].plan.tasks)).setCell ⟨wr,6,Ab⟩ (.slice s2.a s2.n s2.c)).heap.size=w2.heap.size:=Bn;have o3:Cg.ow (((((w2.setCell ⟨wr,2,Ab⟩ (.int .i64 l[k].plan.prio)).setCell ⟨wr,3,Ab⟩ (.int .i64 l[k].plan.most)).setCell ⟨wr,4,Ab⟩ (.int .i64 l[k].plan.wait)).setCell ⟨wr,5,Ab⟩ (.int .i64 l[k].plan.tasks)).setCell ⟨wr,6,Ab⟩ (.slice s2.a s2.n s2.c)) F2 l[k] s2:=by
    repeat (first | (with_reducible exact o2) | refine Dt.ow_set Ca ?_ (by intro hm;have:=n2 _ hm;(try simp only [Bj,Bk] at this);omega) _)
   have Z3:=Bq z3;clear z3;go_wp2_with (at_builtin;generalize (((((w2.setCell ⟨wr,2,Ab⟩ (.int .i64 l[k].plan.prio)).setCell ⟨wr,3,Ab⟩ (.int .i64 l[k].plan.most)).setCell ⟨wr,4,Ab⟩ (.int .i64 l[k].plan.wait)).setCell ⟨wr,5,Ab⟩ (.int .i64 l[k].plan.tasks)).setCell ⟨wr,6,Ab⟩ (.slice s2.a s2.n s2.c))=W3 at *;refine By _ Cg.enc Bp rfl (.tmp 21) (.tmp 23) rfl Tryz.underlying78 aL aS aP aQ rfl (v:=v) (l:=rs) rfl (hO.below (B3.alloc (by rw [Z3.out];omega) _)) rfl (Rd.one Cg.enc W3 45 (l[k],s2) Z3.out.symm rfl 1 (Bs _) (Nat.lt_succ_self _)) Bl Bn Bp (by rw [Bj,Z3.out];omega) ?_;intro v5 w5 o5 g5 f5)
   have z3:=Z3.out;have hP:=Bld.push1 (w1:=W3) hB B3 o3 (fun b aU=>by have:=n2 b aU;omega) aV ((Br _ _).alloc (Bs _) _) o5 g5 f5;have hW5:Below w w w5:=((hb.trans (B3.mono hb.size)).alloc (by rw [z3];omega) _).grown g5 (by rw [Bj,z3];omega) (fun g hg=>(hO.within g hg).1);refine ⟨⟨k+1,v5,Bl,by go_num,rfl,⟨rs ++ [(l[k],s2)],by rw [List.map_append,hm,Cn l k aA];rfl,hP⟩,hW5⟩,by simp [intOf];omega⟩
  ·go_wp2;go_ret;have h1:=dF.out;rw [List.take_of_length_le Bl] at h1;exact h1.own hb
def mat (r:Reply):Bool:=r.code == 0 || r.code == 9
def G6:List Deed->List Reply->List Deed
 | d :: l,r :: t=>if mat r=true then d :: G6 l t else G6 l t
 | _,_=>[]
theorem Adr (l:List Deed):G6 l []=[]:=by cases l<;>rfl
theorem Ql:∀ (l:List Deed) (r:List Reply) (k:Nat) (h:k<l.length) (h':k<r.length),G6 (l.take (k+1)) (r.take (k+1))=G6 (l.take k) (r.take k) ++ (if mat r[k]=true then [l[k]] else [])
 | [],_,_,h,_=>absurd h Bn
 | _ :: _,[],_,_,h=>absurd h Bn
 | d :: l,x :: r,0,_,_=>by simp [G6]
 | d :: l,x :: r,k+1,h,h'=>by
  have ih:=Ql l r k (by simpa using h) (by simpa using h');simp only [List.take_succ_cons,G6,List.getElem_cons_succ];by_cases hx:mat x=true
  ·rw [if_pos hx,if_pos hx,ih];rfl
  ·rw [if_neg hx,if_neg hx,ih]
theorem Qm:∀ (l:List Deed) (r:List Reply) (k:Nat),(l.length<=k\/r.length<=k)->G6 (l.take k) (r.take k)=G6 l r
 | [],r,k,_=>by simp [G6]
 | d :: l,[],k,_=>by simp [Adr]
 | d :: l,x :: r,0,h=>absurd h Bn
 | d :: l,x :: r,k+1,h=>by
  have ih:=Qm l r k (by simpa using h);simp only [List.take_succ_cons,G6,ih]
theorem Tu:∀ (l:List Deed) (r:List Reply),(G6 l r).length<=l.length
 | [],r=>by simp [G6]
 | d :: l,[]=>by simp [G6]
 | d :: l,x :: r=>by
  have ih:=Tu l r;simp only [G6,List.length_cons];split
  ·rw [List.length_cons];omega
  ·omega
theorem Tv:∀ (l:List Deed) (r:List Reply),E6 Cm (G6 l r)<=E6 Cm l
 | [],r=>by simp [G6,E6]
 | d :: l,[]=>by simp [G6,E6]
 | d :: l,x :: r=>by
  have ih:=Tv l r;unfold E6 at *
  simp only [G6,List.length_cons,List.map_cons,List.sum_cons];split
  ·simp only [List.length_cons,List.map_cons,List.sum_cons];omega
  ·omega
theorem Qn (l:List Deed) (s:Sl) (r:List Reply) (s1:Sl) (w:World) (hl:E6 Cm l<=2000000) (fQ:E6 Pk r<=2000000) (h:RdL Cg w w s.v l) (h1:RdL Hz w w s1.v r) :
  Calls Am 94 #[.slice s.a s.n s.c,.slice s1.a s1.n s1.c] w (Di (Dt.list Cg) slV (G6 l r) w):=by
 obtain ⟨A,n,c⟩:=s;obtain ⟨A',c',hv,-⟩:=h.form;simp only [Sl.v,Value.slice.injEq] at hv;obtain ⟨rfl,rfl,rfl⟩:=hv;obtain ⟨B,m,e⟩:=s1;obtain ⟨B',e',hv,-⟩:=h1.form;simp only [Sl.v,Value.slice.injEq] at hv;obtain ⟨rfl,rfl,rfl⟩:=hv;have cR:l.length<=2000000:=Ah (Ck _ _) hl;have hlr:r.length<=2000000:=Ah (Ck _ _) fQ;have gF:∀ k (hk:k<l.length),Cm l[k]<=2000000:=fun k hk=>by have:=Ds (cnt:=Cm) (Aw hk);omega
 clear hl fQ;obtain ⟨i0,aL,aS,aP,aQ⟩:=info_parts K5;go_enter Tryz.func94,Tryz.ntmps94;go_wp2;go_loopw [5,6] (fun t i wr=>∃ (k:Nat) (v:Value),k<=l.length/\k<=r.length/\i = .int .i64 k/\v=t/\Hid (Bls Cg 45 wr w v (G6 (l.take k) (r.take k)))/\Below w w wr) (fun _ i _=>l.length - (intOf i).toNat);case atStart=>exact ⟨0,_,Ag _,Ag _,rfl,rfl,⟨[],by simp [G6],Bld.nil _ _ _ _⟩,Br _ _⟩
 case round =>
  obtain ⟨k,v,hk,kJ,rfl,rfl,dF,hb⟩:=hrel;by_cases aA:k<l.length/\k<r.length
  ·obtain ⟨aA,bX⟩:=aA;obtain ⟨b,o,s',rfl,aH,hr,c0,c1,c2,c3,c4,c5,c6,c7,c8,c9,c10⟩:=(h.below hb).deed aA;obtain ⟨b2,o2,s2',rfl,gT,sH,d0,-⟩:=(h1.below hb).reply bX;have hx:∀ W,Below wr wr W->Cg.rd W W l[k] s':=fun W hW=>Cg.rd_more (Cg.rd_below (Cg.rd_more hr hb.size) hW) hW.size;have hs:=Bq (Ql l r k aA bX);by_cases dY:mat r[k]=true
   ·obtain ⟨rs,hm,hB⟩:=dF.out;have bK:rs.length<=2000000:=by have:=congrArg List.length hm;rw [Ar] at this;have:=Tu (l.take k) (r.take k);rw [Az] at this;omega
    have hO:=hB.ow;have aV:=hb.size;have B1:=Br wr wr;have dJ:(rs ++ [(l[k],s')]).map (·.1)=G6 (l.take (k+1)) (r.take (k+1)):=by rw [hs.out,if_pos dY,List.map_append,hm];rfl
    have S:Hid (G6 (l.take (k+1)) (r.take (k+1))=rs.map (·.1) ++ [l[k]]):=by rw [List.map_append] at dJ;exact dJ.symm
    clear hs hm dJ;by_cases hz:r[k].code=0
    ·have t0:(r[k].code == 0)=true:=by simp [hz]
     clear hz dY;go_wp2_with (first | (go_at_call 158;refine (Jw l[k] s' _ (gF k aA) (hx _ B1)).mono ?_;rintro e w2 ⟨s2,F2,rfl,o2,n2,b2⟩;have B2:=Bt B1 b2;have z2:=b2.size) | (at_builtin;refine By _ Cg.enc Bp rfl (.tmp 30) (.tmp 36) rfl Tryz.underlying78 aL aS aP aQ rfl (v:=v) (l:=rs) rfl (hO.below (B2.alloc Bl _)) rfl (Rd.one Cg.enc _ _ (l[k],s2) rfl rfl 1 (Bs _) (Nat.lt_succ_self _)) Bl Bn Bp (by (try simp only [Bj]);omega) ?_;intro v5 w5 o5 g5 f5))
     have hP:=Bld.push1 hB B2 o2 (fun b aU=>by have:=n2 b aU;omega) aV ((Br _ _).alloc (Bs _) _) o5 g5 f5;exact ⟨⟨k+1,v5,Bl,Bl,by go_num,rfl,⟨rs ++ [(l[k],s2)],by rw [S.out,List.map_append];rfl,hP⟩,((hb.trans (B2.mono hb.size)).alloc Bl _).grown g5 Bo (fun g hg=>(hO.within g hg).1)⟩,by simp [intOf];omega⟩
    ·have t0:(r[k].code == 0)=false:=by simp [hz]
     have t9:(r[k].code == 9)=true:=by
      unfold mat at dY;rw [t0] at dY;simpa using dY
     clear hz dY;go_wp2_with (first | (go_at_call 158;refine (Jw l[k] s' _ (gF k aA) (hx _ B1)).mono ?_;rintro e w2 ⟨s2,F2,rfl,o2,n2,b2⟩;have B2:=Bt B1 b2;have z2:=b2.size) | (at_builtin;refine By _ Cg.enc Bp rfl (.tmp 30) (.tmp 36) rfl Tryz.underlying78 aL aS aP aQ rfl (v:=v) (l:=rs) rfl (hO.below (B2.alloc Bl _)) rfl (Rd.one Cg.enc _ _ (l[k],s2) rfl rfl 1 (Bs _) (Nat.lt_succ_self _)) Bl Bn Bp (by (try simp only [Bj]);omega) ?_;intro v5 w5 o5 g5 f5))
     have hP:=Bld.push1 hB B2 o2 (fun b aU=>by have:=n2 b aU;omega) aV ((Br _ _).alloc (Bs _) _) o5 g5 f5;exact ⟨⟨k+1,v5,Bl,Bl,by go_num,rfl,⟨rs ++ [(l[k],s2)],by rw [S.out,List.map_append];rfl,hP⟩,((hb.trans (B2.mono hb.size)).alloc Bl _).grown g5 Bo (fun g hg=>(hO.within g hg).1)⟩,by simp [intOf];omega⟩
   ·have t0:(r[k].code == 0)=false:=by unfold mat at dY;simp at dY;simp [dY]
    have t9:(r[k].code == 9)=false:=by unfold mat at dY;simp at dY;simp [dY]
    have S:Hid (G6 (l.take (k+1)) (r.take (k+1))=G6 (l.take k) (r.take k)):=by show _=_;rw [hs.out,if_neg dY,List.append_nil]
    clear dY hs;go_wp2;exact ⟨⟨k+1,v,Bl,Bl,by go_num,rfl,by show Bls _ _ _ _ _ _;rw [S.out];exact dF.out,hb⟩,by simp [intOf];omega⟩
  ·have hn:¬ ((k:Int)<min (l.length:Int) (r.length:Int)):=Bl;have hk2:k=l.length\/k=r.length:=Bl;have hB1:=dF.out;rw [Qm l r k Bl] at hB1;have HB:=Bq hB1;clear hB1 dF;go_wp2;all_goals
    go_ret;exact HB.out.own hb
theorem Qo (l:List Deed) (s:Sl) (r:List Reply) (s1:Sl) (w:World) (hl:E6 Cm l<=2000000) (fQ:E6 Pk r<=2000000) (h:RdL Cg w w s.v l) (h1:RdL Hz w w s1.v r) :
  Calls Am 91 #[.slice s.a s.n s.c,.slice s1.a s1.n s1.c] w (Di (Dt.list Cg) slV (G6 l r) w):=by
 obtain ⟨A,n,c⟩:=s;obtain ⟨A',c',hv,-⟩:=h.form;simp only [Sl.v,Value.slice.injEq] at hv;obtain ⟨rfl,rfl,rfl⟩:=hv;obtain ⟨B,m,e⟩:=s1;obtain ⟨B',e',hv,-⟩:=h1.form;simp only [Sl.v,Value.slice.injEq] at hv;obtain ⟨rfl,rfl,rfl⟩:=hv;have cR:l.length<=2000000:=Ah (Ck _ _) hl;have hlr:r.length<=2000000:=Ah (Ck _ _) fQ;have hmc:E6 Cm (G6 l r)<=2000000:=Ah (Tv l r) hl;clear hl fQ;obtain ⟨i0,aL,aS,aP,aQ⟩:=info_parts K5;go_enter Tryz.func91,Tryz.ntmps91;go_wp2;go_loopw [5,6] (fun t i wr=>∃ (k:Nat) (v:Value),k<=l.length/\k<=r.length/\i = .int .i64 k/\v=t/\Hid (∃ rs:List (Deed×Sl),rs.map (·.1)=G6 (l.take k) (r.take k)/\Ow Cg.enc 45 wr w v rs /\ ∀ q∈rs,Cg.rd w w q.1 q.2)/\Below w w wr) (fun _ i _=>l.length - (intOf i).toNat);case atStart=>exact ⟨0,_,Ag _,Ag _,rfl,rfl,⟨[],by simp [G6],Ow.empty Cg.enc 45 w rfl,fun q hq=>by cases hq⟩,(Br _ _).alloc (Bs _) _⟩
 case round =>
  obtain ⟨k,v,hk,kJ,rfl,rfl,dF,hb⟩:=hrel;by_cases aA:k<l.length/\k<r.length
  ·obtain ⟨aA,bX⟩:=aA;have hlti:(k:Int)<(l.length:Int):=Bl;have hlti1:(k:Int)<(r.length:Int):=Bl;obtain ⟨b9,o9,s',he9,hbb9,tB,e9⟩:=h.deed aA;obtain ⟨b,o,s9,rfl,aH,hr,c0,c1,c2,c3,c4,c5,c6',c7,c8,c9,c10⟩:=(h.below hb).deed aA;obtain ⟨b2,o2,s2',rfl,gT,sH,d0,-⟩:=(h1.below hb).reply bX;have c6:wr.cell? ⟨b,o+k * 11+6,Ab⟩=Ac (.slice s'.a s'.n s'.c):=by
    simp only [Option.some.injEq,Addr.mk.injEq,and_true] at he9;obtain ⟨rfl,rfl⟩:=he9;exact (hb.cell (p:=⟨b,o+k * 11+6,Ab⟩) aH).trans e9.2.2.2.2.2.2.1
   clear he9 e9 c6' hr;have hs:=Bq (Ql l r k aA bX);by_cases dY:mat r[k]=true
   ·obtain ⟨rs,hm,hO,gB⟩:=dF.out;have bK:rs.length<=2000000:=by have:=congrArg List.length hm;rw [Ar] at this;have:=Tu (l.take k) (r.take k);rw [Az] at this;omega
    have aV:=hb.size;have S:Hid ((rs ++ [(l[k],s')]).map (·.1)=G6 (l.take (k+1)) (r.take (k+1))):=by show _=_;rw [hs.out,if_pos dY,List.map_append,hm];rfl
    have R:Hid (∀ q∈rs ++ [(l[k],s')],Cg.rd w w q.1 q.2):=by
     intro q hq;rcases List.mem_append.1 hq with hq | hq
     ·exact gB q hq
     ·rw [List.mem_singleton] at hq;subst hq;exact tB
    clear hs hm gB;by_cases hz:r[k].code=0
    ·have t0:(r[k].code == 0)=true:=by simp [hz]
     clear hz dY;go_wp2_with (at_builtin;refine By _ Cg.enc Bp rfl (.tmp 34) (.tmp 39) rfl Tryz.underlying78 aL aS aP aQ rfl (v:=v) (l:=rs) rfl (hO.below ((Br _ _).alloc (Bs _) _)) rfl (Rd.one Cg.enc _ _ (l[k],s') rfl rfl 1 (Bs _) (Nat.lt_succ_self _)) Bl Bn Bp (by (try simp only [Bj]);omega) ?_;intro v5 w5 o5 g5 f5)
     exact ⟨⟨k+1,v5,Bl,Bl,by go_num,rfl,⟨_,S.out,o5,R.out⟩,(hb.alloc hb.size _).grown g5 Bo (fun g hg=>(hO.within g hg).1)⟩,by simp [intOf];omega⟩
    ·have t0:(r[k].code == 0)=false:=by simp [hz]
     have t9:(r[k].code == 9)=true:=by
      unfold mat at dY;rw [t0] at dY;simpa using dY
     clear hz dY;go_wp2_with (at_builtin;refine By _ Cg.enc Bp rfl (.tmp 34) (.tmp 39) rfl Tryz.underlying78 aL aS aP aQ rfl (v:=v) (l:=rs) rfl (hO.below ((Br _ _).alloc (Bs _) _)) rfl (Rd.one Cg.enc _ _ (l[k],s') rfl rfl 1 (Bs _) (Nat.lt_succ_self _)) Bl Bn Bp (by (try simp only [Bj]);omega) ?_;intro v5 w5 o5 g5 f5)
     exact ⟨⟨k+1,v5,Bl,Bl,by go_num,rfl,⟨_,S.out,o5,R.out⟩,(hb.alloc hb.size _).grown g5 Bo (fun g hg=>(hO.within g hg).1)⟩,by simp [intOf];omega⟩
   ·have t0:(r[k].code == 0)=false:=by unfold mat at dY;simp at dY;simp [dY]
    have t9:(r[k].code == 9)=false:=by unfold mat at dY;simp at dY;simp [dY]
    have S:Hid (G6 (l.take (k+1)) (r.take (k+1))=G6 (l.take k) (r.take k)):=by show _=_;rw [hs.out,if_neg dY,List.append_nil]
    clear dY hs;go_wp2;exact ⟨⟨k+1,v,Bl,Bl,by go_num,rfl,by rw [S.out];exact dF.out,hb⟩,by simp [intOf];omega⟩
  ·obtain ⟨rs,hm,hO,gB⟩:=dF.out;rw [Qm l r k Bl] at hm;obtain ⟨A9,c9,rfl,-⟩:=id (Rd.of_own hO);have hL:RdL Cg wr wr (Sl.v ⟨A9,rs.length,c9⟩) (G6 l r):=⟨rs,hm,Rd.of_own hO,fun q hq=>Cg.rd_more (Cg.rd_below (gB q hq) hb) hb.size⟩
   have HL:=Bq hL;clear hm gB hO dF hL;have cC:=hb.size;have fin:∀ e w2,Di (Dt.list Cg) slV (G6 l r) wr e w2->Di (Dt.list Cg) slV (G6 l r) w e w2:=by
    rintro e w2 ⟨s2,F2,rfl,o2,n2,b2⟩;exact ⟨s2,F2,rfl,o2,fun b aU=>by have:=n2 b aU;omega,Bt hb b2⟩
   by_cases hz:k<l.length
   ·have hn:¬ (k<r.length):=Bl;have aP:(k:Int)<(l.length:Int):=Bl;have pI:¬ ((k:Int)<(r.length:Int)):=Bl;go_wp2_with (go_at_call 89;refine (Ls (G6 l r) ⟨A9,rs.length,c9⟩ wr hmc HL.out).mono ?_;intro e w2 hp;obtain ⟨s2,F2,rfl,o2,n2,b2⟩:=fin e w2 hp;clear fin)
    go_ret;exact ⟨s2,F2,rfl,o2,n2,b2⟩
   ·have aP:¬ ((k:Int)<(l.length:Int)):=Bl;go_wp2_with (go_at_call 89;refine (Ls (G6 l r) ⟨A9,rs.length,c9⟩ wr hmc HL.out).mono ?_;intro e w2 hp;obtain ⟨s2,F2,rfl,o2,n2,b2⟩:=fin e w2 hp;clear fin)
    go_ret;exact ⟨s2,F2,rfl,o2,n2,b2⟩
def Ct:Enc Entry:={ cells:=fun x=>[J U x.prio,J U x.seq,J U x.run,J U x.task],sz:=4,len:=fun _=>rfl,one:=fun _ u hu=>by simp at hu;rcases hu with rfl | rfl | rfl | rfl<;>rfl }
theorem I5 {w:World} {B:Nat} {v:Value} {l:List Entry} (h:RdL Bx w B v l):Rd Ct w B v l:=by
 obtain ⟨rs,rfl,⟨A,c,rfl,bZ,hA⟩,_⟩:=h;refine ⟨A,c,by rw [Ar],by rw [Ar];exact bZ,fun hl=>?_⟩;rw [Ar] at hl;obtain ⟨b,o,hb,aA,hc⟩:=hA hl;refine ⟨b,o,hb,aA,fun k hk j u hu=>?_⟩;rw [Ar] at hk;rw [List.getElem_map] at hu;exact hc k hk j u hu
theorem Kq {w:World} {B:Nat} {v:Value} {l:List Entry} (h:Rd Ct w B v l):RdL Bx w B v l:=by
 obtain ⟨A,c,rfl,bZ,hA⟩:=h;refine ⟨l.map fun x=>(x,()),by rw [List.map_map];exact List.map_id' l,⟨A,c,by rw [Ar],by rw [Ar];exact bZ,fun hl=>?_⟩,fun _ _=>trivial⟩;rw [Ar] at hl;obtain ⟨b,o,hb,aA,hc⟩:=hA hl;refine ⟨b,o,hb,aA,fun k hk j u hu=>?_⟩;rw [Ar] at hk;rw [List.getElem_map] at hu;exact hc k hk j u hu
theorem Fc:(Am.info? 93).map (fun i=>(i.zero,i.size,i.bytes))=Ac (Ac (.agg #[J U 0,J U 0,J U 0,J U 0]),4,32):=Bm
theorem K6 {α:Type} (l:List (List α)) (k:Nat) (hk:k<l.length):(l.take (k+1)).flatten=(l.take k).flatten ++ l[k]:=by
 rw [Cn l k hk,List.flatten_append];simp
theorem Hi (l:List (List Entry)) (k:Nat):(l.take k).flatten.length<=E6 C8 l:=by
 induction l generalizing k with
 | nil=>simp
 | cons x l ih =>
  cases k with
  | zero=>simp
  | succ k =>
   have:=ih k
   rw [List.take_succ_cons,List.flatten_cons,Bd];unfold E6 at *
   have hx:x.length<=C8 x:=Ck Jh x;simp only [List.length_cons,List.map_cons,List.sum_cons];omega
theorem My (y:Yard) (s:Sl×Sl) (w:World) (hl:Cb y<=2000000) (h:Bu.rd w w y s) :
  Calls Am 117 #[Dg y s] w fun e w'=>∃ v,e = .returned v/\Ow Ct 93 w' w v (Cd y)/\Below w w w':=by
 obtain ⟨⟨A1,n1,c1⟩,⟨A2,n2,c2⟩⟩:=s;obtain rfl:n1=y.shelf.length:=RdL.at1 (s:=⟨A1,n1,c1⟩) h.1;have h1:RdL (Dt.list Bx) w w (.slice A1 y.shelf.length c1) y.shelf:=h.1;have cR:y.shelf.length<=2000000:=Ah (Ck C8 _) (by unfold Cb at hl;omega);have HL:=Bq (show ∀ k,(y.shelf.take k).flatten.length<=2000000 from fun k=>Ah (Hi y.shelf k) (by unfold Cb at hl;omega));have HE:=Bq (show ∀ k (hk:k<y.shelf.length),y.shelf[k].length<=2000000 from fun k hk=>by
  have:=Ds (cnt:=C8) (Aw hk)
  have h2:y.shelf[k].length<=C8 y.shelf[k]:=Ck Jh _;unfold Cb at hl;omega)
 clear hl h;have X:=DBox.new 31 [.int .i64 y.now,.int .i64 y.seq,.slice A1 y.shelf.length c1,.slice A2 n2 c2] w (b:=w.heap.size) rfl;have B0:Below w w (w.alloc (.cells #[.int .i64 y.now,.int .i64 y.seq,.slice A1 y.shelf.length c1,.slice A2 n2 c2] 31)):=by repeat (first | exact Br _ _ | refine Ae ?_ Bo _)
 obtain ⟨j0,cB,jz0,jz1,jz2⟩:=info_parts Fc;go_enter Tryz.func117,Tryz.ntmps117;go_wp2;generalize (w.alloc (.cells #[.int .i64 y.now,.int .i64 y.seq,.slice A1 y.shelf.length c1,.slice A2 n2 c2] 31))=W at *
 go_loopw [3,9] (fun vl i wr=>∃ k:Nat,k<=y.shelf.length/\i = .int .i64 k/\Ow Ct 93 wr (w.heap.size+1) vl (y.shelf.take k).flatten/\Below w w wr/\w.heap.size<wr.heap.size) (fun _ i _=>y.shelf.length - (intOf i).toNat);case atStart=>exact ⟨0,Ag _,rfl,by simpa using Ow.nil Ct 93 W (w.heap.size+1),B0,X.lt⟩
 case round =>
  clear X B0;obtain ⟨k,hk,rfl,ho,hb,aV⟩:=hrel;by_cases aA:k<y.shelf.length
  ·have aB:(k:Int)<(y.shelf.length:Int):=Bl;obtain ⟨b,o,⟨As,ns,cs⟩,rfl,aH,hr,d0⟩:=(h1.below hb).entryS aA;obtain rfl:ns=y.shelf[k].length:=RdL.at1 (s:=⟨As,ns,cs⟩) hr;have cD:=(I5 hr).more hb.size;have S:=Bq (K6 y.shelf k aA);have HLk:=Bq (HL.out k);have HEk:=Bq (HE.out k aA);go_wp2_with (at_builtin;refine By _ Ct Bp rfl (.tmp 13) (.tmp 14) rfl Tryz.underlying96 cB jz0 jz1 jz2 rfl (l:=(y.shelf.take k).flatten) rfl ho rfl cD (Ah HLk.out Bl) (Ah HEk.out Bl) Bp Bl ?_;intro v5 w5 o5 g5 _)
   have W5:=hb.grown g5 hb.size (fun g hg=>by have:=ho.within _ hg;omega);have sY:=g5.size;refine ⟨⟨v5,_,.int .i64 ((k:Int)+1),⟨k+1,Bl,by go_num,?_,W5,Bl⟩,rfl,rfl,rfl⟩,by simp [intOf];omega⟩;rw [S.out];exact o5
  ·have aB:¬ (k:Int)<(y.shelf.length:Int):=Bl;have bJ:k=y.shelf.length:=Bl;subst bJ;rw [List.take_length] at ho;go_wp2;go_ret;exact ⟨_,rfl,ho.more Bl,hb⟩
theorem Mz (y:Yard) (s:Sl×Sl) (w:World) (hl:Cb y<=2000000) (h:Bu.rd w w y s) :
  Calls Am 86 #[Dg y s] w fun e w'=>∃ v,e = .returned v/\Ow Ct 93 w' w v (Cd y)/\Below w w w':=by
 obtain ⟨⟨A1,n1,c1⟩,⟨A2,n2,c2⟩⟩:=s;obtain rfl:n1=y.shelf.length:=RdL.at1 (s:=⟨A1,n1,c1⟩) h.1;have h1:RdL (Dt.list Bx) w w (.slice A1 y.shelf.length c1) y.shelf:=h.1;have cR:y.shelf.length<=2000000:=Ah (Ck C8 _) (by unfold Cb at hl;omega);have HL:=Bq (show ∀ k,(y.shelf.take k).flatten.length<=2000000 from fun k=>Ah (Hi y.shelf k) (by unfold Cb at hl;omega));have HE:=Bq (show ∀ k (hk:k<y.shelf.length),y.shelf[k].length<=2000000 from fun k hk=>by
  have:=Ds (cnt:=C8) (Aw hk)
  have h2:y.shelf[k].length<=C8 y.shelf[k]:=Ck Jh _;unfold Cb at hl;omega)
 clear hl h;have X:=(DBox.new 31 [.int .i64 y.now,.int .i64 y.seq,.slice A1 y.shelf.length c1,.slice A2 n2 c2] w (b:=w.heap.size) rfl).below ((Br _ _).alloc (Bs _) (.cells #[] 93));have E:=DBox.new 93 [] (w.alloc (.cells #[.int .i64 y.now,.int .i64 y.seq,.slice A1 y.shelf.length c1,.slice A2 n2 c2] 31)) (b:=w.heap.size+1) Bn;have B0:Below w w ((w.alloc (.cells #[.int .i64 y.now,.int .i64 y.seq,.slice A1 y.shelf.length c1,.slice A2 n2 c2] 31)).alloc (.cells #[] 93)):=by repeat (first | exact Br _ _ | refine Ae ?_ Bo _)
 have O0:=Ow.empty Ct 93 (w.alloc (.cells #[.int .i64 y.now,.int .i64 y.seq,.slice A1 y.shelf.length c1,.slice A2 n2 c2] 31)) (g:=w.heap.size+1) Bn;obtain ⟨j0,cB,jz0,jz1,jz2⟩:=info_parts Fc;clear E;go_enter Tryz.func86,Tryz.ntmps86;go_wp2;generalize ((w.alloc (.cells #[.int .i64 y.now,.int .i64 y.seq,.slice A1 y.shelf.length c1,.slice A2 n2 c2] 31)).alloc (.cells #[] 93))=W at *
 go_loopw [3,4] (fun vl i wr=>∃ k:Nat,k<=y.shelf.length/\i = .int .i64 k/\Ow Ct 93 wr (w.heap.size+1) vl (y.shelf.take k).flatten/\DBox w [.int .i64 y.now,.int .i64 y.seq,.slice A1 y.shelf.length c1,.slice A2 n2 c2] wr/\Below w w wr) (fun _ i _=>y.shelf.length - (intOf i).toNat);case atStart=>exact ⟨0,Ag _,rfl,by simpa using O0,X,B0⟩
 case round =>
  clear X B0 O0;obtain ⟨k,hk,rfl,ho,X,hb⟩:=hrel;obtain ⟨X_0,X_1,X_2,X_3,X_l⟩:=X.g4;by_cases aA:k<y.shelf.length
  ·have aB:(k:Int)<(y.shelf.length:Int):=Bl;obtain ⟨b,o,⟨As,ns,cs⟩,rfl,aH,hr,d0⟩:=(h1.below hb).entryS aA;obtain rfl:ns=y.shelf[k].length:=RdL.at1 (s:=⟨As,ns,cs⟩) hr;have cD:=(I5 hr).more hb.size;have S:=Bq (K6 y.shelf k aA);have HLk:=Bq (HL.out k);have HEk:=Bq (HE.out k aA);go_wp2_with (at_builtin;refine By _ Ct Bp rfl (.tmp 13) (.tmp 18) rfl Tryz.underlying96 cB jz0 jz1 jz2 rfl (l:=(y.shelf.take k).flatten) rfl ho rfl cD (Ah HLk.out Bl) (Ah HEk.out Bl) Bp Bl ?_;intro v5 w5 o5 g5 _)
   have W5:=hb.grown g5 hb.size (fun g hg=>by have:=ho.within _ hg;omega);have X5:=X.off g5 (fun e=>by have:=ho.within _ e.symm;omega);refine ⟨⟨k+1,Bl,by go_num,?_,X5,W5⟩,by simp [intOf];omega⟩;rw [S.out];exact o5
  ·have aB:¬ (k:Int)<(y.shelf.length:Int):=Bl;have bJ:k=y.shelf.length:=Bl;subst bJ;rw [List.take_length] at ho;go_wp2;go_ret;exact ⟨_,rfl,ho.more Bl,hb⟩
def Nw (x:Task) (most:Int):Bool :=
 (if x.state=3 then inB x.until_ 1 1000000000 else (x.until_ == 0)) && (if x.state=1 then decide (0<x.need) else if x.state=2 then (x.need == 0) && decide (x.try_<most) else if x.state=6 then true else (x.need == 0) && decide (1<=x.try_))
theorem V3 {x:Task} {N:Nat} {most:Int} (h1:1<=x.state/\x.state<=6) (h2:x.need=N) (h3:0<=x.try_/\x.try_<=most):tf (Ni x N most)=Nw x most:=by
 rw [Bool.eq_iff_iff,Lq];obtain ⟨st,nd,tr,un⟩:=x;unfold Ni Nw;simp only at *
 rcases (show st=1\/st=2\/st=3\/st=4\/st=5\/st=6 by omega) with rfl | rfl | rfl | rfl | rfl | rfl<;>simp [inB]<;>omega
theorem Aep {a b:Int} (h:(a != b)=true):¬ a=b:=by simpa using h
theorem Aeq {a b:Int} (h:(a != b)=false):a=b:=by simpa using h
theorem Aer {a b:Int} (h:(a == b)=true):a=b:=by simpa using h
theorem Aes {a b:Int} (h:(a == b)=false):¬ a=b:=by simpa using h
theorem Tw (r:Run) (s:Sl×Sl) (t:Nat) (w:World) (hf:Co r.plan=0) (hT:(r.tasks.length:Int)=r.plan.tasks) (ht:t<r.tasks.length) (h:Ch.rd w w r s) :
  Calls Am 183 #[Gw r s,J U (t:Int)] w fun e w'=>e = .returned (.bool (tf (Gt r t)))/\Below w w w':=by
 have HC:=Bq (show ∀ W,Below w w W->Calls Am 230 #[Gw r s,J U (t:Int)] W fun e w'=>e = .returned (J U (H7 r t:Nat))/\Below W W w' from
  fun W hW=>Tt r s t W hf hT (Ch.rd_more (Ch.rd_below h hW) hW.size))
 obtain ⟨⟨A1,n1,c1⟩,⟨A2,n2,c2⟩⟩:=s;obtain rfl:n2=r.tasks.length:=RdL.at1 (s:=⟨A2,n2,c2⟩) h.2;have h2:RdL Ee w w (Aa A2 r.tasks.length c2) r.tasks:=h.2;have hl:r.tasks.length<=12:=by have:=Dw (C9.1 hf).1;omega
 have HQ:=Bq (show tf (Gt r t)=tf (Ni r.tasks[t] (H7 r t) r.plan.most) by unfold Gt;rw [Cr ht]);have jS:(t:Int)<(r.tasks.length:Int):=Bl;clear hT hf h;obtain ⟨b,o,_,hA,aH,_,d0,d1,d2,d3⟩:=h2.task ht;subst hA;generalize H7 r t=N at *
 generalize r.tasks[t]=x at *
 obtain ⟨W,aG,X,T,B0⟩:=bx2 w 89 [J U r.id,J U r.plan.prio,J U r.plan.most,J U r.plan.wait,J U r.plan.tasks,Aa A1 n1 c1,J U r.state,Aa (Ac ⟨b,o,Ab⟩) r.tasks.length c2] 138 [J U x.state,J U x.need,J U x.try_,J U x.until_];go_enter Tryz.func183,Tryz.ntmps183;go_wp2;rw [<-aG.out];clear aG;clear d0 d1 d2 d3;have X_:=X.g8;have T_:=T.g4;have aR:=C7 W;have HC2:=Bq (show ∀ u:Jd W,Calls Am 230 #[Gw r (⟨A1,n1,c1⟩,⟨Ac ⟨b,o,Ab⟩,r.tasks.length,c2⟩),J U (t:Int)] u.1 fun e w'=>e = .returned (J U (N:Nat))/\Below u.1 u.1 w' from fun u=>HC.out u.1 (Bt B0 u.2));clear HC;cases a1:inB x.state 1 6;case false =>
  have H:=Bq (show tf (Gt r t)=false by rw [HQ.out];exact Cf (fun h=>by have:=Cv.2 h.1;rw [a1] at this;cases this));refine Bw Bm Bm ?_;repeat (go_big_quiet_step ((go_at_call 58;exact Dk (fun u=>Cl _ _ _ u.1))))
  refine Ak ?_;rintro _ ⟨⟨w1,b1⟩,rfl⟩;go_wp2;go_ret;exact ⟨Bv H.out.symm,Bt B0 b1⟩
 cases a2:(x.need == (N:Int))
 case false =>
  have a2':(x.need != (N:Int))=true:=by simp [bne,a2]
  have H:=Bq (show tf (Gt r t)=false by rw [HQ.out];exact Cf (fun h=>by have:=beq_iff_eq.2 h.2.1;rw [a2] at this;cases this));refine Bw Bm Bm ?_;repeat (go_big_quiet_step ((first
   | (go_at_call 58;exact Dk (fun u=>Cl _ _ _ u.1))
   | (go_at_call 230;(with_reducible exact Ir HC2.out)))))
  refine Ak ?_;rintro _ ⟨⟨w1,b1⟩,rfl⟩;go_wp2;go_ret;exact ⟨Bv H.out.symm,Bt B0 b1⟩
 have a2':(x.need != (N:Int))=false:=by simp [bne,a2]
 cases a3:inB x.try_ 0 r.plan.most;case false =>
  have H:=Bq (show tf (Gt r t)=false by rw [HQ.out];exact Cf (fun h=>by have:=Cv.2 h.2.2.1;rw [a3] at this;cases this));refine Bw Bm Bm ?_;repeat (go_big_quiet_step ((first
   | (go_at_call 58;exact Dk (fun u=>Cl _ _ _ u.1))
   | (go_at_call 230;(with_reducible exact Ir HC2.out)))))
  refine Ak ?_;rintro _ ⟨⟨w1,b1⟩,rfl⟩;go_wp2;go_ret;exact ⟨Bv H.out.symm,Bt B0 b1⟩
 have H:=Bq (show tf (Gt r t)=Nw x r.plan.most by rw [HQ.out];exact V3 (Cv.1 a1) (beq_iff_eq.1 a2) (Cv.1 a3));have a1':=Cv.1 a1;refine Bw Bm Bm ?_;repeat (go_big_quiet_step ((first
  | (go_at_call 58;exact Dk (fun u=>Cl _ _ _ u.1))
  | (go_at_call 230;(with_reducible exact Ir HC2.out)))))
 refine Ak ?_;rintro _ ⟨⟨w1,b1⟩,rfl⟩;clear a1 a2 a2' a3 aR HC2;replace X:=X.below b1;clear X_;have X_:=X.g8;replace T:=T.below b1;clear T_;have T_:=T.g4;replace B0:=Bt B0 b1;obtain ⟨st,nd,tr,un⟩:=x;simp only at *
 have S:=(show st=1\/st=2\/st=3\/st=4\/st=5\/st=6 by omega)
 clear a1';rcases S with rfl | rfl | rfl | rfl | rfl | rfl
 all_goals
  go_wp2_with (go_at_call 58;refine (Cl _ _ _ _).mono ?_;rintro e w' ⟨rfl,rfl⟩)
  all_goals
   go_ret;exact ⟨Bv (by
    rw [H.out];unfold Nw;try have e1:=Aep ‹(un != 0)=true›
    try have e1:=Aeq ‹(un != 0)=false›
    try have e3:=Aer ‹(nd == 0)=true›
    try have e3:=Aes ‹(nd == 0)=false›
    simp [*]),B0⟩
def Fq:Yard:=⟨0,1,[[],[],[],[]],[]⟩
theorem Ows.nils {w:World} : ∀ (n:Nat),Ows (Dt.list Bx) w [] (List.replicate n (([],⟨Ab,0,0⟩):List Entry×Sl))
 | 0=>.nil
 | n+1=>by
  have:=Ows.cons (d:=Dt.list Bx) (r:=([],⟨Ab,0,0⟩)) (OwL.nil Bx w Ab 0) (Ows.nils n)
  exact this
theorem Rz (w:World):Calls Am 14 #[] w (Di Bu Dg Fq w):=by
 obtain ⟨i0,aL,aS,aP,aQ⟩:=info_parts Ko;have mN:∀ w:World,(Instr.makeSlice 28 (.int .i64 4) (.int .i64 4)).run Am w = .ok (.slice (Ac ⟨w,0,Ab⟩) 4 4) (w.alloc (.cells (madeCells #[.slice Ab 0 0] 4) 96)):=by
  intro w
  have:=run_make (P:=Am) w 28 96 i0 _ Tryz.underlying28 aL aS .i64 .i64 4 4 Bl Bl (by rw [aQ];omega) Bl
  rw [aP] at this;simpa [Value.cells] using this
 go_enter Tryz.func14,Tryz.ntmps14;go_wp2;refine Aj (v:=Dg Fq (⟨Ac ⟨w.heap.size+1,0,Ab⟩,4,4⟩,⟨Ab,0,0⟩)) ?_ rfl ?_
 ·simp [Dg,Fq,results,Tryz.results14,go_sem]
 ·have hO:=Ow.made (Dt.list Bx).enc 96 (w.alloc (.cells #[.int .i64 0,.int .i64 1,.slice (Ac ⟨w.heap.size+1,0,Ab⟩) 4 4,.slice Ab 0 0] 31)) ([],⟨Ab,0,0⟩) 4 Bp (by simp [maxLen]) (z:=#[.slice Ab 0 0]) rfl (m:=4) rfl;have hs:(w.alloc (.cells #[.int .i64 0,.int .i64 1,.slice (Ac ⟨w.heap.size+1,0,Ab⟩) 4 4,.slice Ab 0 0] 31)).heap.size=w.heap.size+1:=Bn;rw [hs] at hO;obtain ⟨F,h1,h2⟩:=Bld.owl (l:=[[],[],[],[]]) ⟨[],hO,Ows.nils 4,List.nodup_nil,fun b hb=>by cases hb⟩ rfl;refine ⟨_,F,rfl,⟨F,[],(List.append_nil F).symm,h1.nodup,?_,OwL.nil _ _ _ _⟩,fun b hb=>by have:=h2 b hb;omega,?_⟩
  ·have hn:w.heap.size∉F:=fun hm=>by have:=h2 _ hm;omega
   show OwL (Dt.list Bx) _ F (.slice (Ac ⟨w.heap.size+1,0,Ab⟩) 4 4) [[],[],[],[]];repeat (first | (with_reducible exact h1) | refine OwL.set ?_ hn _)
  ·repeat (first | exact Br _ _ | refine Ad ?_ Bo _ | refine Ae ?_ Bo _)
theorem R0 (w:World):Calls Am 78 #[] w (Di Bu Dg Fq w):=by
 obtain ⟨i0,aL,aS,aP,aQ⟩:=info_parts Ko;have D0:=DBox.new 31 [.int .i64 0,.int .i64 0,.slice Ab 0 0,.slice Ab 0 0] w rfl;have D1:=D0.below ((Br _ _).alloc (Bs _) (.cells #[.int .i64 0,.int .i64 1,.slice Ab 0 0,.slice Ab 0 0] 31));have E1:=DBox.new 31 [.int .i64 0,.int .i64 1,.slice Ab 0 0,.slice Ab 0 0] (w.alloc (.cells #[.int .i64 0,.int .i64 0,.slice Ab 0 0,.slice Ab 0 0] 31)) (b:=w.heap.size+1) Bn;have B0:Below w w ((w.alloc (.cells #[.int .i64 0,.int .i64 0,.slice Ab 0 0,.slice Ab 0 0] 31)).alloc (.cells #[.int .i64 0,.int .i64 1,.slice Ab 0 0,.slice Ab 0 0] 31)):=by repeat (first | exact Br _ _ | refine Ae ?_ Bo _)
 have S0:w.heap.size+2<=((w.alloc (.cells #[.int .i64 0,.int .i64 0,.slice Ab 0 0,.slice Ab 0 0] 31)).alloc (.cells #[.int .i64 0,.int .i64 1,.slice Ab 0 0,.slice Ab 0 0] 31)).heap.size:=Bn;clear D0;go_enter Tryz.func78,Tryz.ntmps78;go_wp2;generalize ((w.alloc (.cells #[.int .i64 0,.int .i64 0,.slice Ab 0 0,.slice Ab 0 0] 31)).alloc (.cells #[.int .i64 0,.int .i64 1,.slice Ab 0 0,.slice Ab 0 0] 31))=W at *
 go_loopw [2] (fun i wr=>∃ (k:Nat) (v:Value),k<=4/\i = .int .i64 k/\Hid (Bls (Dt.list Bx) 96 wr (w.heap.size+2) v (List.replicate k []))/\DBox w [.int .i64 0,.int .i64 0,.slice Ab 0 0,.slice Ab 0 0] wr/\DBox (w.heap.size+1) [.int .i64 0,.int .i64 1,v,.slice Ab 0 0] wr/\Below w w wr/\w.heap.size+2<=wr.heap.size) (fun i _=>4 - (intOf i).toNat);case atStart=>exact ⟨0,_,Ag _,rfl,⟨[],rfl,Bld.nil _ _ _ _⟩,D1,E1,B0,S0⟩
 case round =>
  clear D1 E1 B0 S0;obtain ⟨k,v,hk,rfl,dF,D,E,hb,aV⟩:=hrel;have e0:wr.cell? ⟨w.heap.size+1,0,Ab⟩=Ac (.int .i64 0):=E.cell 0 _ rfl;have e1:wr.cell? ⟨w.heap.size+1,1,Ab⟩=Ac (.int .i64 1):=E.cell 1 _ rfl;have e2:wr.cell? ⟨w.heap.size+1,2,Ab⟩=Ac v:=E.cell 2 _ rfl;have e3:wr.cell? ⟨w.heap.size+1,3,Ab⟩=Ac (.slice Ab 0 0):=E.cell 3 _ rfl;have ef:=E.free;have el:=E.lt;by_cases aA:k<4
  ·obtain ⟨rs,hm,hB⟩:=dF.out;have bK:rs.length=k:=by have:=congrArg List.length hm;simpa using this
   have hO:=hB.ow;have aC:v.ownBlock≠Ac (w.heap.size+1):=fun e=>by have:=hO.within _ e;omega
   have kB:v.ownBlock≠Ac w.heap.size:=fun e=>by have:=hO.within _ e;omega
   have B1:=(Br wr wr).alloc (Bs _) (.cells #[] 93);go_wp2_with (at_builtin;refine By _ (Dt.list Bx).enc Bp rfl (.tmp 9) (.tmp 11) rfl Tryz.underlying28 aL aS aP aQ rfl (v:=v) (l:=rs) rfl (hO.below (B1.alloc Bn _)) rfl (Rd.one (Dt.list Bx).enc _ _ (([]:List Entry),(⟨Ac ⟨wr,0,Ab⟩,0,0⟩:Sl)) Bn rfl 1 (Bs _) (Nat.lt_succ_self _)) Bl Bn Bp (by simp;omega) ?_;intro v5 w5 o5 g5 f5;obtain ⟨A5,c5,rfl,-⟩:=id (Rd.of_own o5);have E5:=((E.below B1).below ((Br _ _).alloc (Bs _) _)).off g5 (fun e=>aC e.symm);have D5:=((D.below B1).below ((Br _ _).alloc (Bs _) _)).off g5 (fun e=>kB e.symm);have m2:w5.cell? ⟨w.heap.size+1,2,Ab⟩=Ac v:=E5.cell 2 _ rfl;have mf:=E5.free;have ml:=E5.lt)
   have hP:=Bld.push1 (d:=Dt.list Bx) (x:=[]) (s:=⟨Ac ⟨wr,0,Ab⟩,0,0⟩) hB B1 (OwL.nil Bx _ _ _) (fun b aU=>by cases aU) aV ((Br _ _).alloc (Bs _) _) o5 g5 f5;have aJ:(rs ++ [(([]:List Entry),(⟨Ac ⟨wr,0,Ab⟩,0,0⟩:Sl))]).length=k+1:=by simp [bK]
   rw [aJ] at hP;have g5s:=g5.size;simp only [Bj] at g5s;refine ⟨⟨k+1,_,Bl,by go_num,⟨rs ++ [([],⟨Ac ⟨wr,0,Ab⟩,0,0⟩)],by rw [List.map_append,hm,List.replicate_succ'];rfl,hP.setOther (a:=⟨w.heap.size+1,2,Ab⟩) (by show w.heap.size+1<_;omega) _⟩,D5.setOther (a:=⟨w.heap.size+1,2,Ab⟩) (by show w.heap.size≠w.heap.size+1;omega) _,E5.set 2 Bn _,?_,by simp [World.setCell];omega⟩,by simp [intOf];omega⟩;exact Ad ((((hb.trans (B1.mono hb.size)).alloc (by simp;omega) _).grown g5 (by simp;omega) (fun g hg=>by have:=hO.within g hg;omega))) (by first | (simp;done) | (simp;omega)) _
  ·have sM:k=4:=Bl;subst sM;have d0:wr.cell? ⟨w,0,Ab⟩=Ac (.int .i64 0):=D.cell 0 _ rfl;have d1:wr.cell? ⟨w,1,Ab⟩=Ac (.int .i64 0):=D.cell 1 _ rfl;have d2:wr.cell? ⟨w,2,Ab⟩=Ac (.slice Ab 0 0):=D.cell 2 _ rfl;have d3:wr.cell? ⟨w,3,Ab⟩=Ac (.slice Ab 0 0):=D.cell 3 _ rfl;have df:=D.free;have dl:=D.lt;obtain ⟨rs,hm,hB⟩:=dF.out;obtain ⟨F,h1,h2⟩:=hB.owl hm;obtain ⟨A9,c9,rfl,-⟩:=h1.form;simp only [List.length_replicate] at e2 h1;go_wp2;refine Aj (v:=Dg Fq (⟨A9,4,c9⟩,⟨Ab,0,0⟩)) ?_ rfl ?_
   ·simp [Dg,Fq,results,Tryz.results78,go_sem,d0,d1,d2,d3]
   ·refine ⟨(⟨A9,4,c9⟩,⟨Ab,0,0⟩),F,rfl,⟨F,[],(List.append_nil F).symm,h1.nodup,?_,OwL.nil _ _ _ _⟩,fun b hb=>by have:=h2 b hb;omega,?_⟩
    ·have hn:w.heap.size∉F:=fun hm=>by have:=h2 _ hm;omega
     have h1:OwL (Dt.list Bx) wr F (.slice A9 4 c9) [[],[],[],[]]:=h1;show OwL (Dt.list Bx) _ F (.slice A9 4 c9) [[],[],[],[]];repeat (first | (with_reducible exact h1) | refine OwL.set ?_ hn _)
    ·repeat (first | (with_reducible exact hb) | refine Ad ?_ Bo _)
theorem Y5 {y:Yard} {e:Entry} (h:Da y e.run = -1):El y e=false:=Cf (fun hh=>by have:=hh.1;omega)
theorem V4 {y:Yard} {e:Entry} {k:Nat} (hk:k<y.runs.length) (h:Da y e.run=k) (hq:inB e.task 0 ((y.runs[k].tasks.length:Int) - 1)=false):El y e=false :=
 Cf (fun hh=>by
  have h2:=hh.2.1;rw [Gf hk h] at h2
  have:=Cv.2 (show 0<=e.task/\e.task<=(y.runs[k].tasks.length:Int) - 1 by omega)
  rw [hq] at this;cases this)
theorem Y7 {y:Yard} {e:Entry} {k t:Nat} (hk:k<y.runs.length) (h:Da y e.run=k) (ht:t<y.runs[k].tasks.length) (he:e.task=t):El y e=(y.runs[k].tasks[t].state == 2):=by
 unfold El;rw [Bool.eq_iff_iff,Lq,beq_iff_eq];unfold Tn;rw [Gf hk h,he,Int.toNat_natCast,Cr ht];constructor
 ·intro hh;exact hh.2.2
 ·intro hh;exact ⟨Bl,Bl,hh⟩
theorem Gj {y:Yard} {k:Nat} (hl:Cb y<=2000000) (hk:k<y.runs.length):y.runs[k].tasks.length<=2000000:=by
 have h1:=Ds (cnt:=Cw) (Aw hk);have h2:y.runs[k].tasks.length<=E6 He y.runs[k].tasks:=Ck _ _;unfold Cb at hl;unfold Cw at h1;unfold Cw at hl;omega
theorem Od (y:Yard) (s:Sl×Sl) (e:Entry) (w:World) (hl:Cb y<=2000000) (h:Bu.rd w w y s) :
  Calls Am 135 #[Dg y s,Hd e ()] w fun e' w'=>e' = .returned (.bool (El y e))/\Below w w w':=by
 have HR:=Bq (show ∀ W,Below w w W->Bu.rd W W y s from fun W hW=>Bu.rd_more (Bu.rd_below h hW) hW.size);obtain ⟨⟨A1,n1,c1⟩,⟨A2,n2,c2⟩⟩:=s;obtain rfl:n2=y.runs.length:=RdL.at1 (s:=⟨A2,n2,c2⟩) h.2;have h2:RdL Ch w w (Aa A2 y.runs.length c2) y.runs:=h.2;have cR:y.runs.length<=2000000:=Ah (Ck Cw _) (by unfold Cb at hl;omega);obtain ⟨pr,sq,rn,tk⟩:=e;have X:=(DBox.new 31 [J U y.now,J U y.seq,Aa A1 n1 c1,Aa A2 y.runs.length c2] w (b:=w.heap.size) rfl).below ((Br _ _).alloc (Bs _) (.cells #[J U (⟨pr,sq,rn,tk⟩:Entry).prio,J U (⟨pr,sq,rn,tk⟩:Entry).seq,J U (⟨pr,sq,rn,tk⟩:Entry).run,J U (⟨pr,sq,rn,tk⟩:Entry).task] 93));have E:=DBox.new 93 [J U (⟨pr,sq,rn,tk⟩:Entry).prio,J U (⟨pr,sq,rn,tk⟩:Entry).seq,J U (⟨pr,sq,rn,tk⟩:Entry).run,J U (⟨pr,sq,rn,tk⟩:Entry).task] (w.alloc (.cells #[J U y.now,J U y.seq,Aa A1 n1 c1,Aa A2 y.runs.length c2] 31)) (b:=w.heap.size+1) Bn;have B0:Below w w ((w.alloc (.cells #[J U y.now,J U y.seq,Aa A1 n1 c1,Aa A2 y.runs.length c2] 31)).alloc (.cells #[J U (⟨pr,sq,rn,tk⟩:Entry).prio,J U (⟨pr,sq,rn,tk⟩:Entry).seq,J U (⟨pr,sq,rn,tk⟩:Entry).run,J U (⟨pr,sq,rn,tk⟩:Entry).task] 93)):=by repeat (first | exact Br _ _ | refine Ae ?_ Bo _)
 have C:=Et y (⟨A1,n1,c1⟩,⟨A2,y.runs.length,c2⟩) rn ((w.alloc (.cells #[J U y.now,J U y.seq,Aa A1 n1 c1,Aa A2 y.runs.length c2] 31)).alloc (.cells #[J U (⟨pr,sq,rn,tk⟩:Entry).prio,J U (⟨pr,sq,rn,tk⟩:Entry).seq,J U (⟨pr,sq,rn,tk⟩:Entry).run,J U (⟨pr,sq,rn,tk⟩:Entry).task] 93)) hl (HR.out _ B0);clear h;rcases Ek y rn with hr | ⟨k,hk,hr⟩
 ·have H:=Bq (Y5 (e:=⟨pr,sq,rn,tk⟩) hr);rw [hr] at C;clear hr;go_enter Tryz.func135,Tryz.ntmps135;go_wp2_with fail
  generalize ((w.alloc (.cells #[J U y.now,J U y.seq,Aa A1 n1 c1,Aa A2 y.runs.length c2] 31)).alloc (.cells #[J U (⟨pr,sq,rn,tk⟩:Entry).prio,J U (⟨pr,sq,rn,tk⟩:Entry).seq,J U (⟨pr,sq,rn,tk⟩:Entry).run,J U (⟨pr,sq,rn,tk⟩:Entry).task] 93))=W at *
  refine C.mono ?_;rintro e1 w1 ⟨rfl,b1⟩;replace X:=X.below b1;replace E:=E.below b1;have X_:=X.g4;have E_:=E.g4;have aR:=C7 w1;go_wp2;refine Bw Bm Bm ?_;repeat (go_big_quiet_step (fail))
  refine Ak ?_;rintro _ ⟨⟨w2,b2⟩,rfl⟩;clear aR;go_wp2;go_ret;exact ⟨Bv H.out.symm,Bt (Bt B0 b1) b2⟩
 ·have uA:=Gj hl hk;have HR2:=Bq hr;rw [hr] at C;clear hr;go_enter Tryz.func135,Tryz.ntmps135;go_wp2_with fail
  generalize ((w.alloc (.cells #[J U y.now,J U y.seq,Aa A1 n1 c1,Aa A2 y.runs.length c2] 31)).alloc (.cells #[J U (⟨pr,sq,rn,tk⟩:Entry).prio,J U (⟨pr,sq,rn,tk⟩:Entry).seq,J U (⟨pr,sq,rn,tk⟩:Entry).run,J U (⟨pr,sq,rn,tk⟩:Entry).task] 93))=W at *
  refine C.mono ?_;rintro e1 w1 ⟨rfl,b1⟩;replace X:=X.below b1;replace E:=E.below b1;have X_:=X.g4;have E_:=E.g4;replace B0:=Bt B0 b1;obtain ⟨b,o,⟨s1,⟨At,nt,ct⟩⟩,dZ,aH,cD,c0_,c1_,c2_,c3_,c4_,c5_,c6_,c7_⟩:=(h2.below B0).run hk;subst dZ;obtain rfl:nt=y.runs[k].tasks.length:=RdL.at1 (s:=⟨At,nt,ct⟩) cD.2;have h3:RdL Ee w1 w (Aa At y.runs[k].tasks.length ct) y.runs[k].tasks:=cD.2;have gG:(k:Int)<(y.runs.length:Int):=Bl;have dB:decide ((0:Int)<=(k:Int))=true:=decide_eq_true Bl;have aR:=C7 w1;have bL:b<w1:=Ai aH B0.size;have wr1:U.wrap ((y.runs[k].tasks.length:Int) - 1)=(y.runs[k].tasks.length:Int) - 1:=Aq _ Bl;cases q:inB tk 0 ((y.runs[k].tasks.length:Int) - 1)
  ·have H:=Bq (V4 (e:=⟨pr,sq,rn,tk⟩) hk HR2.out q);go_wp2;refine Bw Bm Bm ?_;repeat (go_big_quiet_step ((go_at_call 58;exact Dk (fun u=>Cl _ _ _ u.1))))
   refine Ak ?_;rintro _ ⟨⟨w2,b2⟩,rfl⟩;clear aR;go_wp2;go_ret;exact ⟨Bv H.out.symm,Bt B0 b2⟩
  ·have qq:=Cv.1 q;obtain ⟨t,rfl⟩:=Ap qq.1;have ht:t<y.runs[k].tasks.length:=Bl;obtain ⟨b',o',_,rQ,bI,_,d0,d1,d2,d3⟩:=h3.task ht;subst rQ;have eL:b'<w1:=Ai bI B0.size;have jS:(t:Int)<(y.runs[k].tasks.length:Int):=Bl;have H:=Bq (Y7 (e:=⟨pr,sq,rn,(t:Int)⟩) hk HR2.out ht rfl);clear qq;generalize y.runs[k].tasks[t].state=st at *
   cases q2:(st == 2)
   all_goals
    rw [q2] at H;go_wp2;refine Bw Bm Bm ?_;repeat (go_big_quiet_step ((go_at_call 58;exact Dk (fun u=>Cl _ _ _ u.1))))
    refine Ak ?_;rintro _ ⟨⟨w2,b2⟩,rfl⟩;clear aR;go_wp2;go_ret;exact ⟨Bv H.out.symm,Bt B0 b2⟩
theorem Oe (y:Yard) (s:Sl×Sl) (e:Entry) (w:World) (hl:Cb y<=2000000) (h:Bu.rd w w y s) :
  Calls Am 87 #[Dg y s,Hd e ()] w fun e' w'=>e' = .returned (.bool (El y e))/\Below w w w':=by
 have HR:=Bq (show ∀ W,Below w w W->Bu.rd W W y s from fun W hW=>Bu.rd_more (Bu.rd_below h hW) hW.size);obtain ⟨⟨A1,n1,c1⟩,⟨A2,n2,c2⟩⟩:=s;obtain rfl:n2=y.runs.length:=RdL.at1 (s:=⟨A2,n2,c2⟩) h.2;have h2:RdL Ch w w (Aa A2 y.runs.length c2) y.runs:=h.2;have cR:y.runs.length<=2000000:=Ah (Ck Cw _) (by unfold Cb at hl;omega);obtain ⟨pr,sq,rn,tk⟩:=e;have X:=(DBox.new 31 [J U y.now,J U y.seq,Aa A1 n1 c1,Aa A2 y.runs.length c2] w (b:=w.heap.size) rfl).below ((Br _ _).alloc (Bs _) (.cells #[J U (⟨pr,sq,rn,tk⟩:Entry).prio,J U (⟨pr,sq,rn,tk⟩:Entry).seq,J U (⟨pr,sq,rn,tk⟩:Entry).run,J U (⟨pr,sq,rn,tk⟩:Entry).task] 93));have E:=DBox.new 93 [J U (⟨pr,sq,rn,tk⟩:Entry).prio,J U (⟨pr,sq,rn,tk⟩:Entry).seq,J U (⟨pr,sq,rn,tk⟩:Entry).run,J U (⟨pr,sq,rn,tk⟩:Entry).task] (w.alloc (.cells #[J U y.now,J U y.seq,Aa A1 n1 c1,Aa A2 y.runs.length c2] 31)) (b:=w.heap.size+1) Bn;have B0:Below w w ((w.alloc (.cells #[J U y.now,J U y.seq,Aa A1 n1 c1,Aa A2 y.runs.length c2] 31)).alloc (.cells #[J U (⟨pr,sq,rn,tk⟩:Entry).prio,J U (⟨pr,sq,rn,tk⟩:Entry).seq,J U (⟨pr,sq,rn,tk⟩:Entry).run,J U (⟨pr,sq,rn,tk⟩:Entry).task] 93)):=by repeat (first | exact Br _ _ | refine Ae ?_ Bo _)
 have C:=Es y (⟨A1,n1,c1⟩,⟨A2,y.runs.length,c2⟩) rn ((w.alloc (.cells #[J U y.now,J U y.seq,Aa A1 n1 c1,Aa A2 y.runs.length c2] 31)).alloc (.cells #[J U (⟨pr,sq,rn,tk⟩:Entry).prio,J U (⟨pr,sq,rn,tk⟩:Entry).seq,J U (⟨pr,sq,rn,tk⟩:Entry).run,J U (⟨pr,sq,rn,tk⟩:Entry).task] 93)) hl (HR.out _ B0);clear h;rcases Ek y rn with hr | ⟨k,hk,hr⟩
 ·have H:=Bq (Y5 (e:=⟨pr,sq,rn,tk⟩) hr);rw [hr] at C;clear hr;go_enter Tryz.func87,Tryz.ntmps87;go_wp2_with fail
  generalize ((w.alloc (.cells #[J U y.now,J U y.seq,Aa A1 n1 c1,Aa A2 y.runs.length c2] 31)).alloc (.cells #[J U (⟨pr,sq,rn,tk⟩:Entry).prio,J U (⟨pr,sq,rn,tk⟩:Entry).seq,J U (⟨pr,sq,rn,tk⟩:Entry).run,J U (⟨pr,sq,rn,tk⟩:Entry).task] 93))=W at *
  refine C.mono ?_;rintro e1 w1 ⟨rfl,b1⟩;replace X:=X.below b1;replace E:=E.below b1;have X_:=X.g4;have E_:=E.g4;have aR:=C7 w1;go_wp2;refine Bw Bm Bm ?_;repeat (go_big_quiet_step (fail))
  refine Ak ?_;rintro _ ⟨⟨w2,b2⟩,rfl⟩;clear aR;go_wp2;go_ret;exact ⟨Bv H.out.symm,Bt (Bt B0 b1) b2⟩
 ·have uA:=Gj hl hk;have HR2:=Bq hr;rw [hr] at C;clear hr;go_enter Tryz.func87,Tryz.ntmps87;go_wp2_with fail
  generalize ((w.alloc (.cells #[J U y.now,J U y.seq,Aa A1 n1 c1,Aa A2 y.runs.length c2] 31)).alloc (.cells #[J U (⟨pr,sq,rn,tk⟩:Entry).prio,J U (⟨pr,sq,rn,tk⟩:Entry).seq,J U (⟨pr,sq,rn,tk⟩:Entry).run,J U (⟨pr,sq,rn,tk⟩:Entry).task] 93))=W at *
  refine C.mono ?_;rintro e1 w1 ⟨rfl,b1⟩;replace X:=X.below b1;replace E:=E.below b1;have X_:=X.g4;have E_:=E.g4;replace B0:=Bt B0 b1;obtain ⟨b,o,⟨s1,⟨At,nt,ct⟩⟩,dZ,aH,cD,c0_,c1_,c2_,c3_,c4_,c5_,c6_,c7_⟩:=(h2.below B0).run hk;subst dZ;obtain rfl:nt=y.runs[k].tasks.length:=RdL.at1 (s:=⟨At,nt,ct⟩) cD.2;have h3:RdL Ee w1 w (Aa At y.runs[k].tasks.length ct) y.runs[k].tasks:=cD.2;have gG:(k:Int)<(y.runs.length:Int):=Bl;have dB:decide ((0:Int)<=(k:Int))=true:=decide_eq_true Bl;have aR:=C7 w1;have bL:b<w1:=Ai aH B0.size;have wr1:U.wrap ((y.runs[k].tasks.length:Int) - 1)=(y.runs[k].tasks.length:Int) - 1:=Aq _ Bl;cases q:inB tk 0 ((y.runs[k].tasks.length:Int) - 1)
  ·have H:=Bq (V4 (e:=⟨pr,sq,rn,tk⟩) hk HR2.out q);go_wp2;refine Bw Bm Bm ?_;repeat (go_big_quiet_step ((go_at_call 155;exact Dk (fun u=>Ce _ _ _ u.1))))
   refine Ak ?_;rintro _ ⟨⟨w2,b2⟩,rfl⟩;clear aR;go_wp2;go_ret;exact ⟨Bv H.out.symm,Bt B0 b2⟩
  ·have qq:=Cv.1 q;obtain ⟨t,rfl⟩:=Ap qq.1;have ht:t<y.runs[k].tasks.length:=Bl;obtain ⟨b',o',_,rQ,bI,_,d0,d1,d2,d3⟩:=h3.task ht;subst rQ;have eL:b'<w1:=Ai bI B0.size;have jS:(t:Int)<(y.runs[k].tasks.length:Int):=Bl;have H:=Bq (Y7 (e:=⟨pr,sq,rn,(t:Int)⟩) hk HR2.out ht rfl);clear qq;generalize y.runs[k].tasks[t].state=st at *
   cases q2:(st == 2)
   all_goals
    rw [q2] at H;go_wp2;refine Bw Bm Bm ?_;repeat (go_big_quiet_step ((go_at_call 155;exact Dk (fun u=>Ce _ _ _ u.1))))
    refine Ak ?_;rintro _ ⟨⟨w2,b2⟩,rfl⟩;clear aR;go_wp2;go_ret;exact ⟨Bv H.out.symm,Bt B0 b2⟩
theorem Wy (r:Run) (s:Sl×Sl) (t:Nat) (w:World) (hf:Co r.plan=0) (hT:(r.tasks.length:Int)=r.plan.tasks) (ht:t<r.tasks.length) (dM:1<=r.tasks[t].state/\r.tasks[t].state<=6) (h:Ch.rd w w r s) :
  Calls Am 246 #[Gw r s,J U (t:Int)] w fun e w'=>e = .returned (.bool (tf (Gt r t)))/\Below w w w':=by
 obtain ⟨⟨A1,n1,c1⟩,⟨A2,n2,c2⟩⟩:=s;obtain rfl:n2=r.tasks.length:=RdL.at1 (s:=⟨A2,n2,c2⟩) h.2;have h2:RdL Ee w w (Aa A2 r.tasks.length c2) r.tasks:=h.2;have h1:Rd Gd w w (Aa A1 n1 c1) r.plan.edges:=H8 h.1;have hz:=C9.1 hf;have hl:r.tasks.length<=12:=by have:=Dw hz.1;omega
 have HQ:=Bq (show tf (Gt r t)=tf (Ni r.tasks[t] (H7 r t) r.plan.most) by unfold Gt;rw [Cr ht]);have jS:(t:Int)<(r.tasks.length:Int):=Bl;have HL:=Bq (show ∀ x∈Dq (Dn r.plan) r.plan.tasks.toNat t,x<r.tasks.length from fun x hx=>by have:=Ts hx;omega);have HN:=Bq (show (Dq (Dn r.plan) r.plan.tasks.toNat t).length<=12 by have:=Ij (Dn r.plan) r.plan.tasks.toNat t;omega);have HD:=Bq (show H7 r t=Hg r (Dq (Dn r.plan) r.plan.tasks.toNat t) from rfl);have HS:=Bq dM;have HZ:=Bq hz;clear hT hf h dM hz;obtain ⟨b,o,_,hA,aH,_,d0,d1,d2,d3⟩:=h2.task ht;subst hA;obtain ⟨W,aG,X,T,B0⟩:=bx2 w 89 [J U r.id,J U r.plan.prio,J U r.plan.most,J U r.plan.wait,J U r.plan.tasks,Aa A1 n1 c1,J U r.state,Aa (Ac ⟨b,o,Ab⟩) r.tasks.length c2] 138 [J U r.tasks[t].state,J U r.tasks[t].need,J U r.tasks[t].try_,J U r.tasks[t].until_];go_enter Tryz.func246,Tryz.ntmps246;go_wp2_with fail
 rw [<-aG.out];clear aG;clear d0 d1 d2 d3;refine (Nc r.plan (Aa A1 n1 c1) t _ HZ.out.1 HZ.out.2.1 HZ.out.2.2.1 ((h1.below B0).more B0.size)).mono ?_;rintro e w1 ⟨v,rfl,o1,b1⟩;generalize Dq (Dn r.plan) r.plan.tasks.toNat t=L at *
 generalize H7 r t=N at *
 obtain ⟨A3,c3,rfl,-⟩:=id (Rd.of_own o1);replace B0:=Bt B0 b1;replace X:=X.below b1;replace T:=T.below b1;have cR:=HN.out;go_wp2;go_loopw [6,8] (fun n i wr=>∃ k:Nat,k<=L.length/\i = J U k/\n = J U (Hg r (L.take k):Nat)/\Below w1 w1 wr) (fun _ i _=>L.length - (intOf i).toNat);case atStart=>exact ⟨0,Ag _,rfl,rfl,Br _ _⟩
 case round =>
  obtain ⟨k,hk,rfl,rfl,hb⟩:=hrel;have ol:=Nt r (L.take k);rw [Az] at ol;by_cases aA:k<L.length
  ·have aB:(k:Int)<(L.length:Int):=Bl;have hx:=HL.out _ (Aw aA);obtain ⟨b3,o3,rfl,cA,e0⟩:=(Rd.of_own (o1.below hb)).nat aA;obtain ⟨b2,o2,_,he,gT,_,d0,d1,d2,d3⟩:=(h2.below (Bt B0 hb)).task hx;simp only [Option.some.injEq,Addr.mk.injEq,and_true] at he;obtain ⟨rfl,rfl⟩:=he;have bL:b<wr:=Ai aH (Bt B0 hb).size;have hxI:(L[k]:Int)<(r.tasks.length:Int):=Bl;have uF:=Bq (Cr hx);replace X:=X.below hb;have X_:=X.g8;by_cases h4:r.tasks[L[k]].state=4
   ·have S:=Bq (Vx (r:=r) aA (by rw [uF.out];exact h4));have t4:(r.tasks[L[k]].state != 4)=false:=by simp [h4]
    clear h4;go_wp2;go_quiet (fail);go_wp2;exact ⟨⟨k+1,Bl,by go_num,by rw [S.out],Cj hb _⟩,by simp [intOf];omega⟩
   ·have S:=Bq (Tm (r:=r) aA (by rw [uF.out];exact h4));have t4:(r.tasks[L[k]].state != 4)=true:=by simp [h4]
    clear h4;go_wp2;go_quiet (fail);go_wp2;exact ⟨⟨k+1,Bl,by go_num,by rw [S.out];go_num,Cj hb _⟩,by simp [intOf];omega⟩
  ·have aB:¬ (k:Int)<(L.length:Int):=Bl;have bJ:k=L.length:=Bl;subst bJ;replace X:=X.below hb;replace T:=T.below hb;have X_:=X.g8;have T_:=T.g4;have HN2:=Bq (show (N:Int)=(Hg r (L.take L.length):Nat) by rw [HD.out,List.take_length]);have HSt:=HS.out;have B1:=Bt B0 hb;clear hb o1 B0;generalize r.tasks[t]=x at *
   generalize (Hg r (L.take L.length):Nat)=M at *
   generalize hM:(M:Int)=m at *
   have fR:0<=m:=Bl;have cG:m<=12:=Bl;clear hM;by_cases a2:x.need=m;case neg =>
    have a2':(x.need != m)=true:=by simp [a2]
    have H:=Bq (show tf (Gt r t)=false by rw [HQ.out];exact Cf (fun h=>a2 (by rw [h.2.1,HN2.out])));clear a2;go_wp2;go_ret;exact ⟨Bv H.out.symm,B1⟩
   have a2':(x.need != m)=false:=by simp [a2]
   cases a3:inB x.try_ 0 r.plan.most;case false =>
    have H:=Bq (show tf (Gt r t)=false by rw [HQ.out];exact Cf (fun h=>by have:=Cv.2 h.2.2.1;rw [a3] at this;cases this));clear a2;go_wp2_with (go_at_call 155;refine (Ce _ _ _ _).mono ?_;rintro e w' ⟨rfl,rfl⟩)
    go_ret;exact ⟨Bv H.out.symm,B1⟩
   have H:=Bq (show tf (Gt r t)=Nw x r.plan.most by rw [HQ.out];exact V3 HSt (by rw [a2,HN2.out]) (Cv.1 a3));obtain ⟨st,nd,tr,un⟩:=x;simp only at *
   subst a2;have S:=(show st=1\/st=2\/st=3\/st=4\/st=5\/st=6 by omega)
   clear HSt;rcases S with rfl | rfl | rfl | rfl | rfl | rfl
   all_goals
    go_wp2_with (go_at_call 155;refine (Ce _ _ _ _).mono ?_;rintro e w' ⟨rfl,rfl⟩)
    all_goals
     go_ret;exact ⟨Bv (by
      rw [H.out];unfold Nw;try have e1:=Aep ‹(un != 0)=true›
      try have e1:=Aeq ‹(un != 0)=false›
      try have e3:=Aer ‹(nd == 0)=true›
      try have e3:=Aes ‹(nd == 0)=false›
      simp [*]),B1⟩
def stI (c1 c2 c3 c4 c5 c6 n:Int):Int:=if c4=n then 2 else if c5=1/\c1+c2+c3=0 then 3 else if c5=0/\0<c6/\c1+c2+c3=0 then 4 else if c5=0/\c6=0 then 1 else 0
theorem Abw (l:List Task):stL l=stI (Dl l 1:Nat) (Dl l 2:Nat) (Dl l 3:Nat) (Dl l 4:Nat) (Dl l 5:Nat) (Dl l 6:Nat) (l.length:Nat):=by
 unfold stL stI Kh;generalize Dl l 1=a;generalize Dl l 2=b;generalize Dl l 3=c;generalize Dl l 4=d;generalize Dl l 5=e;generalize Dl l 6=f;repeat' split
 all_goals first | rfl | (exfalso;omega)
theorem Kx {l:List Task} {k:Nat} (hk:k<l.length) {s:Int} : ((Dl (l.take (k+1)) s:Nat):Int)=(Dl (l.take k) s:Nat)+(if l[k].state=s then 1 else 0):=by
 by_cases h:l[k].state=s
 ·rw [Yy hk h,if_pos h];rfl
 ·rw [Abv hk h,if_neg h];simp
theorem Of (r:Run) (s:Sl×Sl) (w:World) (hl:r.tasks.length<=2000000) (dM:∀ x∈r.tasks,1<=x.state/\x.state<=6) (h:Ch.rd w w r s) :
  Calls Am 243 #[Gw r s] w fun e w'=>e = .returned (J U (stL r.tasks))/\Below w w w':=by
 obtain ⟨⟨A1,n1,c1⟩,⟨A2,n2,c2⟩⟩:=s;obtain rfl:n2=r.tasks.length:=RdL.at1 (s:=⟨A2,n2,c2⟩) h.2;have h2:RdL Ee w w (Aa A2 r.tasks.length c2) r.tasks:=h.2;have HS:=Bq (Abw r.tasks);have HT:=Bq dM;clear h dM;obtain ⟨W,aG,X,E,B0⟩:=bx2 w 89 [J U r.id,J U r.plan.prio,J U r.plan.most,J U r.plan.wait,J U r.plan.tasks,Aa A1 n1 c1,J U r.state,Aa A2 r.tasks.length c2] 3 [J U 0,J U 0,J U 0,J U 0,J U 0,J U 0,J U 0];go_enter Tryz.func243,Tryz.ntmps243;go_wp2;rw [<-aG.out];clear aG;go_loopw [4] (fun i wr=>∃ k:Nat,k<=r.tasks.length/\i = J U k/\DBox w [J U r.id,J U r.plan.prio,J U r.plan.most,J U r.plan.wait,J U r.plan.tasks,Aa A1 n1 c1,J U r.state,Aa A2 r.tasks.length c2] wr/\DBox (w.heap.size+1) [J U 0,J U (Dl (r.tasks.take k) 1:Nat),J U (Dl (r.tasks.take k) 2:Nat),J U (Dl (r.tasks.take k) 3:Nat),J U (Dl (r.tasks.take k) 4:Nat),J U (Dl (r.tasks.take k) 5:Nat),J U (Dl (r.tasks.take k) 6:Nat)] wr/\Below w w wr) (fun i _=>r.tasks.length - (intOf i).toNat);case atStart=>exact ⟨0,Ag _,rfl,X,E,B0⟩
 case round =>
  clear X E B0;obtain ⟨k,hk,rfl,X,E,hb⟩:=hrel;have X_:=X.g8;have E_:=E.g7;have Ef:=E.free;have L1:=Nu (r.tasks.take k) 1;have L2:=Nu (r.tasks.take k) 2;have L3:=Nu (r.tasks.take k) 3;have L4:=Nu (r.tasks.take k) 4;have L5:=Nu (r.tasks.take k) 5;have L6:=Nu (r.tasks.take k) 6;rw [Az] at L1 L2 L3 L4 L5 L6;by_cases aA:k<r.tasks.length
  ·have aB:(k:Int)<(r.tasks.length:Int):=Bl;obtain ⟨b,o,_,rfl,aH,_,d0,d1,d2,d3⟩:=(h2.below hb).task aA;have hs:=hb.size;have S1:=Bq (Kx (s:=1) aA);have S2:=Bq (Kx (s:=2) aA);have S3:=Bq (Kx (s:=3) aA);have S4:=Bq (Kx (s:=4) aA);have S5:=Bq (Kx (s:=5) aA);have S6:=Bq (Kx (s:=6) aA);have dM:=HT.out _ (Aw aA);generalize r.tasks[k].state=st at *
   have S:=(show st=1\/st=2\/st=3\/st=4\/st=5\/st=6 by omega)
   clear dM;rcases S with rfl | rfl | rfl | rfl | rfl | rfl
   ·go_wp2;have E2:=E.set 1 Bn (J U ((Dl (r.tasks.take k) 1:Nat)+1));refine ⟨⟨k+1,Bl,by go_num,X.setOther Bn _,?_,Ad hb Bn _⟩,by simp [intOf];omega⟩;rw [S1.out,S2.out,S3.out,S4.out,S5.out,S6.out];simpa using E2
   ·go_wp2;have E2:=E.set 2 Bn (J U ((Dl (r.tasks.take k) 2:Nat)+1));refine ⟨⟨k+1,Bl,by go_num,X.setOther Bn _,?_,Ad hb Bn _⟩,by simp [intOf];omega⟩;rw [S1.out,S2.out,S3.out,S4.out,S5.out,S6.out];simpa using E2
   ·go_wp2;have E2:=E.set 3 Bn (J U ((Dl (r.tasks.take k) 3:Nat)+1));refine ⟨⟨k+1,Bl,by go_num,X.setOther Bn _,?_,Ad hb Bn _⟩,by simp [intOf];omega⟩;rw [S1.out,S2.out,S3.out,S4.out,S5.out,S6.out];simpa using E2
   ·go_wp2;have E2:=E.set 4 Bn (J U ((Dl (r.tasks.take k) 4:Nat)+1));refine ⟨⟨k+1,Bl,by go_num,X.setOther Bn _,?_,Ad hb Bn _⟩,by simp [intOf];omega⟩;rw [S1.out,S2.out,S3.out,S4.out,S5.out,S6.out];simpa using E2
   ·go_wp2;have E2:=E.set 5 Bn (J U ((Dl (r.tasks.take k) 5:Nat)+1));refine ⟨⟨k+1,Bl,by go_num,X.setOther Bn _,?_,Ad hb Bn _⟩,by simp [intOf];omega⟩;rw [S1.out,S2.out,S3.out,S4.out,S5.out,S6.out];simpa using E2
   ·go_wp2;have E2:=E.set 6 Bn (J U ((Dl (r.tasks.take k) 6:Nat)+1));refine ⟨⟨k+1,Bl,by go_num,X.setOther Bn _,?_,Ad hb Bn _⟩,by simp [intOf];omega⟩;rw [S1.out,S2.out,S3.out,S4.out,S5.out,S6.out];simpa using E2
  ·have aB:¬ (k:Int)<(r.tasks.length:Int):=Bl;have bJ:k=r.tasks.length:=Bl;subst bJ;rw [List.take_length] at *
   generalize rT:((Dl r.tasks 1:Nat):Int)=c1' at *
   generalize vC:((Dl r.tasks 2:Nat):Int)=c2' at *
   generalize rL:((Dl r.tasks 3:Nat):Int)=c3' at *
   generalize hc4:((Dl r.tasks 4:Nat):Int)=c4' at *
   generalize hc5:((Dl r.tasks 5:Nat):Int)=c5' at *
   generalize hc6:((Dl r.tasks 6:Nat):Int)=c6' at *
   have m1:0<=c1'/\c1'<=2000000:=Bl;have m2:0<=c2'/\c2'<=2000000:=Bl;have m3:0<=c3'/\c3'<=2000000:=Bl;have m4:0<=c4':=Bl;have m5:0<=c5':=Bl;have m6:0<=c6':=Bl;clear rT vC rL hc4 hc5 hc6 L1 L2 L3 L4 L5 L6;have w1':U.wrap (c1'+c2')=c1'+c2':=Aq _ Bl;have w2':U.wrap (c1'+c2'+c3')=c1'+c2'+c3':=Aq _ Bl;have aR:=C7 wr;by_cases q1:c4'=(r.tasks.length:Int)
   ·have H:=Bq (show stL r.tasks=2 by rw [HS.out];unfold stI;rw [if_pos q1]);have q1':(c4' == (r.tasks.length:Int))=true:=beq_iff_eq.2 q1;clear q1;go_wp2;go_quiet (fail);go_wp2;go_quiet (fail);go_wp2;go_ret;exact ⟨Dc H.out.symm,by first | exact Cj hb _ | exact Cj (Cj hb _) _⟩
   have q1':(c4' == (r.tasks.length:Int))=false:=beq_eq_false_iff_ne.2 q1;by_cases q2:c1'+c2'+c3'=0;all_goals
    first
     | (have q2':(c1'+c2'+c3' == 0)=true:=beq_iff_eq.2 q2)
     | (have q2':(c1'+c2'+c3' == 0)=false:=beq_eq_false_iff_ne.2 q2)
    by_cases q3:c5'=1
    ·have q3':(c5' == 1)=true:=beq_iff_eq.2 q3;have q4':(c5' == 0)=false:=beq_eq_false_iff_ne.2 Bl;have H:=Bq (show stL r.tasks=stI c1' c2' c3' c4' c5' c6' r.tasks.length from HS.out);simp only [stI,if_neg q1,q2,q3,and_self,if_true,and_true,true_and,if_false,false_and,and_false,show ¬ ((1:Int)=0) by omega] at H;clear q1 q2 q3;go_wp2;go_quiet (fail);go_wp2;go_quiet (fail);go_wp2;go_ret;exact ⟨Dc H.out.symm,by first | exact Cj hb _ | exact Cj (Cj hb _) _⟩
    have q3':(c5' == 1)=false:=beq_eq_false_iff_ne.2 q3;by_cases q4:c5'=0
    ·have q4':(c5' == 0)=true:=beq_iff_eq.2 q4;by_cases q5:c6'=0
     ·have q5':(c6' == 0)=true:=beq_iff_eq.2 q5;have q6':decide (0<c6')=false:=decide_eq_false Bl;have H:=Bq (show stL r.tasks=stI c1' c2' c3' c4' c5' c6' r.tasks.length from HS.out);simp only [stI,if_neg q1,q2,q3,q4,q5,and_self,if_true,and_true,true_and,if_false,false_and,and_false,show ¬ ((0:Int)=1) by omega,show ¬ ((0:Int)<0) by omega] at H;clear q1 q2 q3 q4 q5;go_wp2;go_quiet (fail);go_wp2;go_quiet (fail);go_wp2;go_ret;exact ⟨Dc H.out.symm,by first | exact Cj hb _ | exact Cj (Cj hb _) _⟩
     ·have q5':(c6' == 0)=false:=beq_eq_false_iff_ne.2 q5;have q6:0<c6':=Bl;have q6':decide (0<c6')=true:=decide_eq_true q6;have H:=Bq (show stL r.tasks=stI c1' c2' c3' c4' c5' c6' r.tasks.length from HS.out);simp only [stI,if_neg q1,q2,q3,q4,q5,q6,and_self,if_true,and_true,true_and,if_false,false_and,and_false,show ¬ ((0:Int)=1) by omega] at H;clear q1 q2 q3 q4 q5 q6;go_wp2;go_quiet (fail);go_wp2;go_quiet (fail);go_wp2;go_ret;exact ⟨Dc H.out.symm,by first | exact Cj hb _ | exact Cj (Cj hb _) _⟩
    ·have q4':(c5' == 0)=false:=beq_eq_false_iff_ne.2 q4;have H:=Bq (show stL r.tasks=stI c1' c2' c3' c4' c5' c6' r.tasks.length from HS.out);simp only [stI,if_neg q1,q2,q3,q4,and_self,if_true,and_true,true_and,if_false,false_and,and_false] at H;clear q1 q2 q3 q4;go_wp2;go_quiet (fail);go_wp2;go_quiet (fail);go_wp2;go_ret;exact ⟨Dc H.out.symm,by first | exact Cj hb _ | exact Cj (Cj hb _) _⟩
end Go.Proofs.YtonlnjdempbfoaaGreat
