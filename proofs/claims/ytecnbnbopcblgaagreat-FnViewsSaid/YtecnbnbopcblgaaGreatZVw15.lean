/-
  Do of the reference. Written by program (kzd.py). What Tick and Restart of the program ask of a late task is that it still runs (plain). Poll of the program. Wr
-/
import Derived.Test.YtecnbnbopcblgaaGreatZVw6
import Derived.Test.YtecnbnbopcblgaaGreatZVw10
import Derived.Test.YtecnbnbopcblgaaGreatZVw11
import Derived.Test.YtecnbnbopcblgaaGreatZVw12
import Derived.Test.YtecnbnbopcblgaaGreatZVw13
import Derived.Test.YtecnbnbopcblgaaGreatZVw14
namespace Go.Proofs.YtecnbnbopcblgaaGreat
open Go.RowKit
set_option maxRecDepth 100000
set_option maxHeartbeats 4000000
set_option linter.unusedVariables false
set_option linter.unusedSimpArgs false
open Value renaming int->J,slice->Aa
open IntKind renaming i64->Ab
open Option renaming none->Ac,some->Ad
open Below renaming setCell->Ae
open Go renaming bodyPost_ret->Ak
open Go.Proofs.Tryz renaming prog->An
open Int renaming toNat_natCast->Ap,eq_ofNat_of_zero_le->Aq
open IntWalk renaming i64_in->Ar
open List renaming getElem_mem->Ax,nodup_append->Ay,length_set->Bh,mem_append->Bi
open Go.Proofs.Tryz
section
open Classical in
noncomputable def Uj (y:Yard):Int:=if Dn y then 0 else 8
noncomputable def doO (y:Yard) (d:Deed):Yard×Reply :=
 if Dq d=false then (y,⟨5,0,0,0⟩) else
 match d.kind with
 | 1=>(I8 y d.run d.plan,⟨Jc y d.run d.plan,0,0,0⟩)
 | 2=>Ih y d.worker d.draw
 | 3=>(Kc y d.run d.task d.try_,⟨G6 y d.run d.task d.try_,0,0,0⟩)
 | 4=>(Ka y d.run d.task d.try_,⟨G6 y d.run d.task d.try_,0,0,0⟩)
 | 5=>(Iw y,⟨J1 y,0,0,0⟩)
 | 6=>(Hy y d.run,⟨Il y d.run,0,0,0⟩)
 | 7=>(Im y d.run,⟨Iv y d.run,0,0,0⟩)
 | _=>(Kx y,⟨Uj y,0,0,0⟩)
theorem Xr {b c:Nat} {w:World} {u0 u1 u2 u3 v0 v1 v2 v3:Value} (X:DBox b [u0,u1,u2,u3] w) (Y:DBox c [v0,v1,v2,v3] w) {x0 x1 x2 x3:Value} {rest:List Value} :
  (results Tryz.f92 (x0 :: x1 :: x2 :: x3 :: .pointer (Ad ⟨b,0,Ac⟩) :: .pointer (Ad ⟨c,0,Ac⟩) :: rest).toArray).run An w = .ok (.tuple #[.agg #[u0,u1,u2,u3],.agg #[v0,v1,v2,v3]]) w:=by
 have c0:=X.cell 0 _ rfl;have c1:=X.cell 1 _ rfl;have c2:=X.cell 2 _ rfl;have c3:=X.cell 3 _ rfl;have d0:=Y.cell 0 _ rfl;have d1:=Y.cell 1 _ rfl;have d2:=Y.cell 2 _ rfl;have d3:=Y.cell 3 _ rfl;simp [results,results92,go_sem,c0,c1,c2,c3,d0,d1,d2,d3]
theorem Uk {d:Deed} (h:Dq d=true):inB d.kind 1 8=true:=by
 unfold Dq at h;simp only [Bool.and_eq_true] at h;exact h.1.1.1.1
theorem Ul {rn tk ty wk dr:Int} {p:Plan} (h:Dq ⟨2,rn,p,tk,ty,wk,dr⟩=true):0<=dr/\dr<=1000000000:=by
 unfold Dq at h;simp only [Bool.and_eq_true] at h;have h2:=h.1.2;simp at h2;exact Ct.1 (show inB dr 0 1000000000=true from h2.2)
theorem Aey (y:Yard) (s:Sl×Sl) (d:Deed) (sd:Sl) (w:World) (hl:Cf y<=2000000) (hp:d.plan.edges.length<=2000000) (h:Bu.rd w w y s) (pT:Fb.rd w w d sd) :
  Calls An 92 #[Dh y s,Dw d sd] w (Vp (doO y d) w):=by
 obtain ⟨⟨A1,n1,c1⟩,⟨A2,n2,c2⟩⟩:=s;obtain ⟨A3,n3,c3⟩:=sd;have sH:Ck.rd w w d.plan ⟨A3,n3,c3⟩:=pT;obtain rfl:n3=d.plan.edges.length:=RdL.at1 (s:=⟨A3,n3,c3⟩) sH;have HR:=Bq (show ∀ W,Below w w W->Bu.rd W W y (⟨A1,n1,c1⟩,⟨A2,n2,c2⟩) from fun W hW=>Bu.rd_more (Bu.rd_below h hW) hW.size);have HP:=Bq (show ∀ W,Below w w W->Ck.rd W W d.plan ⟨A3,d.plan.edges.length,c3⟩ from fun W hW=>Ck.rd_more (Ck.rd_below sH hW) hW.size);have CD:=Bq (fun W (hW:Below w w W)=>Wu d ⟨A3,d.plan.edges.length,c3⟩ W (Fb.rd_more (Fb.rd_below pT hW) hW.size));have CC:=Bq (fun W hW=>Fh y (⟨A1,n1,c1⟩,⟨A2,n2,c2⟩) W hl (HR.out W hW));clear h pT sH;obtain ⟨kd,rn,p,tk,ty,wk,dr⟩:=d;replace hp:p.edges.length<=2000000:=hp;replace HP:Hid (∀ W,Below w w W->Ck.rd W W p ⟨A3,p.edges.length,c3⟩):=HP;obtain ⟨W,aG,X,D,RES,RP,OB,B0⟩:=bx5 w 31 [J Ab y.now,J Ab y.seq,Aa A1 n1 c1,Aa A2 n2 c2] 45 [J Ab kd,J Ab rn,J Ab p.prio,J Ab p.most,J Ab p.wait,J Ab p.tasks,Aa A3 p.edges.length c3,J Ab tk,J Ab ty,J Ab wk,J Ab dr] 31 [J Ab 0,J Ab 0,Aa Ac 0 0,Aa Ac 0 0] 84 [J Ab 0,J Ab 0,J Ab 0,J Ab 0] 31 [J Ab 0,J Ab 0,Aa Ac 0 0,Aa Ac 0 0];go_enter func92,ntmps92;go_wp2_with fail
 rw [<-aG.out];clear aG;have uV:w.heap.size+1+1+1+1<W.heap.size:=OB.lt;refine (CD.out _ B0).mono ?_;rintro e1 w1 ⟨rfl,b1⟩;replace X:=X.below b1;replace D:=D.below b1;replace OB:=OB.below b1;replace RES:=RES.below b1;replace RP:=RP.below b1;have bG:=b1.size;replace B0:=Bv B0 b1;clear b1 CD;have X_:=X.g4;have D_:=D.g11;have OB_:=OB.g4;cases hd:Dq ⟨kd,rn,p,tk,ty,wk,dr⟩;case false =>
  have H:=Bq (show doO y ⟨kd,rn,p,tk,ty,wk,dr⟩=(y,⟨5,0,0,0⟩) from if_pos hd);clear hd;go_wp2_with fail
  refine (CC.out _ B0).mono ?_;rintro e2 w2 ⟨s2,F,rfl,oy,nF,b2⟩;have cB:∀ x∈F,w+1+1+1+1<x:=fun x hx=>by have h1:=nF x hx;omega
  clear X_;clear D_;clear OB_;clear X D OB;replace RES:=RES.below b2;replace RP:=RP.below b2;replace B0:=Bv B0 b2;clear nF b2;have RES_:=RES.g4;have RP_:=RP.g4;have rf:=RES.free;have pf:=RP.free;have aE:w.heap.size+1+1+1≠w.heap.size+1+1:=Bl;go_wp2;have RES2:=DBox.row4 RES rfl (J Ab y.now) (J Ab y.seq) (Aa s2.1.a s2.1.n s2.1.c) (Aa s2.2.a s2.2.n s2.2.c);have RP2:=DBox.row4 ((((RP.setOther (a:=⟨w+1+1,0,Ac⟩) aE (J Ab y.now)).setOther (a:=⟨w+1+1,1,Ac⟩) aE (J Ab y.seq)).setOther (a:=⟨w+1+1,2,Ac⟩) aE (Aa s2.1.a s2.1.n s2.1.c)).setOther (a:=⟨w+1+1,3,Ac⟩) aE (Aa s2.2.a s2.2.n s2.2.c)) rfl (J Ab 5) (J Ab 0) (J Ab 0) (J Ab 0);have RES3:=((((RES2.setOther (a:=⟨w+1+1+1,0,Ac⟩) aE.symm (J Ab 5)).setOther (a:=⟨w+1+1+1,1,Ac⟩) aE.symm (J Ab 0)).setOther (a:=⟨w+1+1+1,2,Ac⟩) aE.symm (J Ab 0)).setOther (a:=⟨w+1+1+1,3,Ac⟩) aE.symm (J Ab 0))
  have en1:w.heap.size+1+1∉F:=fun hx=>by have:=cB _ hx;omega
  have en2:w.heap.size+1+1+1∉F:=fun hx=>by have:=cB _ hx;omega
  refine Ak (Xr RES3 RP2) rfl ⟨s2,F,by rw [H.out],by rw [H.out];exact (by (repeat (refine Dt.ow_set Bu ?_ (by first | exact en1 | exact en2) _));exact (show Bu.ow _ F y s2 from oy)),fun x hx=>by have:=cB x hx;omega,?_⟩;repeat (first | (with_reducible exact B0) | refine Ae ?_ Bo _)
 replace hd:=Bq hd;have hkd:=Ct.1 (Uk hd.out);dsimp only at hkd;clear CC;rcases (show kd=1\/kd=2\/kd=3\/kd=4\/kd=5\/kd=6\/kd=7\/kd=8 by omega) with rfl | rfl | rfl | rfl | rfl | rfl | rfl | rfl
 have H:=Bq (show doO y ⟨1,rn,p,tk,ty,wk,dr⟩=(I8 y rn p,⟨Jc y rn p,0,0,0⟩) by unfold doO;rw [if_neg (by rw [hd.out];simp)];rfl);have CS:=Bq (Xg y (⟨A1,n1,c1⟩,⟨A2,n2,c2⟩) rn p ⟨A3,p.edges.length,c3⟩ w1 hl hp (HR.out _ B0) (HP.out _ B0));generalize I8 y rn p=z at *
 generalize Jc y rn p=c at *
 rotate_left
 ·have H:Hid (doO y ⟨2,rn,p,tk,ty,wk,dr⟩=Ih y wk dr):=by
   show doO y ⟨2,rn,p,tk,ty,wk,dr⟩=_;unfold doO;rw [if_neg (by rw [hd.out];simp)];rfl
  have pU:=Bq (Ul hd.out);obtain ⟨dn,rfl⟩:=Aq pU.out.1;have CS:=Bq (Abb y (⟨A1,n1,c1⟩,⟨A2,n2,c2⟩) wk dn w1 hl (by have:=pU.out;omega) (HR.out _ B0));generalize Ih y wk (dn:Int)=o at *
  obtain ⟨z,⟨o0,o1,o2,o3⟩⟩:=o;go_wp2_with fail
  refine CS.out.mono ?_;rintro e2 w2 ⟨s2,F,rfl,oy,nF,b2⟩;replace oy:Bu.ow w2 F z s2:=oy;have cB:∀ x∈F,w+1+1+1+1<x:=fun x hx=>by have h1:=nF x hx;omega
  clear X_;clear D_;clear OB_;clear X D OB;replace RES:=RES.below b2;replace RP:=RP.below b2;replace B0:=Bv B0 b2;clear nF b2;have RES_:=RES.g4;have RP_:=RP.g4;have rf:=RES.free;have pf:=RP.free;have aE:w.heap.size+1+1+1≠w.heap.size+1+1:=Bl;go_wp2;have RES2:=DBox.row4 RES rfl (J Ab z.now) (J Ab z.seq) (Aa s2.1.a s2.1.n s2.1.c) (Aa s2.2.a s2.2.n s2.2.c);have RP2:=DBox.row4 ((((RP.setOther (a:=⟨w+1+1,0,Ac⟩) aE (J Ab z.now)).setOther (a:=⟨w+1+1,1,Ac⟩) aE (J Ab z.seq)).setOther (a:=⟨w+1+1,2,Ac⟩) aE (Aa s2.1.a s2.1.n s2.1.c)).setOther (a:=⟨w+1+1,3,Ac⟩) aE (Aa s2.2.a s2.2.n s2.2.c)) rfl (J Ab o0) (J Ab o1) (J Ab o2) (J Ab o3);have RES3:=((((RES2.setOther (a:=⟨w+1+1+1,0,Ac⟩) aE.symm (J Ab o0)).setOther (a:=⟨w+1+1+1,1,Ac⟩) aE.symm (J Ab o1)).setOther (a:=⟨w+1+1+1,2,Ac⟩) aE.symm (J Ab o2)).setOther (a:=⟨w+1+1+1,3,Ac⟩) aE.symm (J Ab o3))
  have en1:w.heap.size+1+1∉F:=fun hx=>by have:=cB _ hx;omega
  have en2:w.heap.size+1+1+1∉F:=fun hx=>by have:=cB _ hx;omega
  refine Ak (Xr RES3 RP2) rfl ⟨s2,F,by rw [H.out],by rw [H.out];exact (by (repeat (refine Dt.ow_set Bu ?_ (by first | exact en1 | exact en2) _));exact (show Bu.ow _ F z s2 from oy)),fun x hx=>by have:=cB x hx;omega,?_⟩;repeat (first | (with_reducible exact B0) | refine Ae ?_ Bo _)
 have H:=Bq (show doO y ⟨3,rn,p,tk,ty,wk,dr⟩=(Kc y rn tk ty,⟨G6 y rn tk ty,0,0,0⟩) by unfold doO;rw [if_neg (by rw [hd.out];simp)];rfl);have CS:=Bq (Th y (⟨A1,n1,c1⟩,⟨A2,n2,c2⟩) rn tk ty w1 hl (HR.out _ B0));generalize Kc y rn tk ty=z at *
 generalize G6 y rn tk ty=c at *
 rotate_left;have H:=Bq (show doO y ⟨4,rn,p,tk,ty,wk,dr⟩=(Ka y rn tk ty,⟨G6 y rn tk ty,0,0,0⟩) by unfold doO;rw [if_neg (by rw [hd.out];simp)];rfl);have CS:=Bq (Aa4 y (⟨A1,n1,c1⟩,⟨A2,n2,c2⟩) rn tk ty w1 hl (HR.out _ B0));generalize Ka y rn tk ty=z at *
 generalize G6 y rn tk ty=c at *
 rotate_left;have H:=Bq (show doO y ⟨5,rn,p,tk,ty,wk,dr⟩=(Iw y,⟨J1 y,0,0,0⟩) by unfold doO;rw [if_neg (by rw [hd.out];simp)];rfl);have CS:=Bq (Abh y (⟨A1,n1,c1⟩,⟨A2,n2,c2⟩) w1 hl (HR.out _ B0));generalize Iw y=z at *
 generalize J1 y=c at *
 rotate_left;have H:=Bq (show doO y ⟨6,rn,p,tk,ty,wk,dr⟩=(Hy y rn,⟨Il y rn,0,0,0⟩) by unfold doO;rw [if_neg (by rw [hd.out];simp)];rfl);have CS:=Bq (Xh y (⟨A1,n1,c1⟩,⟨A2,n2,c2⟩) rn w1 hl (HR.out _ B0));generalize Hy y rn=z at *
 generalize Il y rn=c at *
 rotate_left;have H:=Bq (show doO y ⟨7,rn,p,tk,ty,wk,dr⟩=(Im y rn,⟨Iv y rn,0,0,0⟩) by unfold doO;rw [if_neg (by rw [hd.out];simp)];rfl);have CS:=Bq (Xl y (⟨A1,n1,c1⟩,⟨A2,n2,c2⟩) rn w1 hl (HR.out _ B0));generalize Im y rn=z at *
 generalize Iv y rn=c at *
 rotate_left
 ·have H:Hid (doO y ⟨8,rn,p,tk,ty,wk,dr⟩=(Kx y,⟨Uj y,0,0,0⟩)):=by
   show doO y ⟨8,rn,p,tk,ty,wk,dr⟩=_;unfold doO;rw [if_neg (by rw [hd.out];simp)];rfl
  have CS:=Bq (Vi y (⟨A1,n1,c1⟩,⟨A2,n2,c2⟩) w1 hl (HR.out _ B0));have CY:=Bq (fun W hW=>G9 y (⟨A1,n1,c1⟩,⟨A2,n2,c2⟩) W hl (HR.out W hW));generalize Kx y=z at *
  go_wp2_with fail
  refine CS.out.mono ?_;rintro e2 w2 ⟨s2,F,rfl,oy,nF,b2⟩;replace oy:Bu.ow w2 F z s2:=oy;have cB:∀ x∈F,w+1+1+1+1<x:=fun x hx=>by have h1:=nF x hx;omega
  clear X_;clear D_;clear OB_;replace X:=X.below b2;replace D:=D.below b2;replace OB:=OB.below b2;replace RES:=RES.below b2;replace RP:=RP.below b2;have X_:=X.g4;have D_:=D.g11;have OB_:=OB.g4;have OBf:=OB.free;replace B0:=Bv B0 b2;clear nF b2;go_upto_region 7 with fail
  clear X_;clear D_;have X9:=X;clear D OBf;have bX:=Chg.cells4 w2 (w+1+1+1+1) 0 1 2 3 (J Ab z.now) (J Ab z.seq) (Aa s2.1.a s2.1.n s2.1.c) (Aa s2.2.a s2.2.n s2.2.c);have dQ:=Bq (show ∀ x,x∈[w.heap.size+1+1+1+1]->x=w.heap.size+1+1+1+1 from fun x hx=>by simpa using hx);clear OB_;replace OB:=DBox.row4 OB rfl (J Ab z.now) (J Ab z.seq) (Aa s2.1.a s2.1.n s2.1.c) (Aa s2.2.a s2.2.n s2.2.c);replace RES:=RES.chg bX (fun hx=>by have:=dQ.out _ hx;omega);replace RP:=RP.chg bX (fun hx=>by have:=dQ.out _ hx;omega);replace oy:Bu.ow _ F z s2:=owC oy bX (fun x hx h=>by have h1:=dQ.out x h;have h2:=cB x hx;omega);replace B0:=B0.trans (bX.below (by have:=B0.size;omega) (fun x hx=>by have:=dQ.out x hx;omega));have hCo9:=bX;clear bX;replace X:=X9.chg hCo9 (fun hx=>by have:=dQ.out _ hx;omega);clear X9;generalize (((w2.setCell ⟨w+1+1+1+1,0,Ac⟩ (J Ab z.now)).setCell ⟨w+1+1+1+1,1,Ac⟩ (J Ab z.seq)).setCell ⟨w+1+1+1+1,2,Ac⟩ (Aa s2.1.a s2.1.n s2.1.c)).setCell ⟨w+1+1+1+1,3,Ac⟩ (Aa s2.2.a s2.2.n s2.2.c)=w3 at *
  have OB_:=OB.g4;have X_:=X.g4;go_wp2_with fail
  refine (CY.out _ B0).mono ?_;rintro e3 w4 ⟨rfl,b4⟩;clear X_;clear OB_;clear X;replace OB:=OB.below b4;replace RES:=RES.below b4;replace RP:=RP.below b4;replace oy:Bu.ow w4 F z s2:=owB oy b4;replace B0:=Bv B0 b4;clear b4;have OB_:=OB.g4;by_cases q:Dn y
  ·rw [Ds q];replace H:=Bq (H.out.trans (by rw [show Uj y=0 from if_pos q]));clear q;have RES_:=RES.g4;have RP_:=RP.g4;have rf:=RES.free;have pf:=RP.free;have aE:w.heap.size+1+1+1≠w.heap.size+1+1:=Bl;go_wp2;have RES2:=DBox.row4 RES rfl (J Ab z.now) (J Ab z.seq) (Aa s2.1.a s2.1.n s2.1.c) (Aa s2.2.a s2.2.n s2.2.c);have RP2:=DBox.row4 ((((RP.setOther (a:=⟨w+1+1,0,Ac⟩) aE (J Ab z.now)).setOther (a:=⟨w+1+1,1,Ac⟩) aE (J Ab z.seq)).setOther (a:=⟨w+1+1,2,Ac⟩) aE (Aa s2.1.a s2.1.n s2.1.c)).setOther (a:=⟨w+1+1,3,Ac⟩) aE (Aa s2.2.a s2.2.n s2.2.c)) rfl (J Ab 0) (J Ab 0) (J Ab 0) (J Ab 0);have RES3:=((((RES2.setOther (a:=⟨w+1+1+1,0,Ac⟩) aE.symm (J Ab 0)).setOther (a:=⟨w+1+1+1,1,Ac⟩) aE.symm (J Ab 0)).setOther (a:=⟨w+1+1+1,2,Ac⟩) aE.symm (J Ab 0)).setOther (a:=⟨w+1+1+1,3,Ac⟩) aE.symm (J Ab 0))
   have en1:w.heap.size+1+1∉F:=fun hx=>by have:=cB _ hx;omega
   have en2:w.heap.size+1+1+1∉F:=fun hx=>by have:=cB _ hx;omega
   refine Ak (Xr RES3 RP2) rfl ⟨s2,F,by rw [H.out],by rw [H.out];exact (by (repeat (refine Dt.ow_set Bu ?_ (by first | exact en1 | exact en2) _));exact (show Bu.ow _ F z s2 from oy)),fun x hx=>by have:=cB x hx;omega,?_⟩;repeat (first | (with_reducible exact B0) | refine Ae ?_ Bo _)
  ·rw [Cm q];replace H:=Bq (H.out.trans (by rw [show Uj y=8 from if_neg q]));clear q;have RES_:=RES.g4;have RP_:=RP.g4;have rf:=RES.free;have pf:=RP.free;have aE:w.heap.size+1+1+1≠w.heap.size+1+1:=Bl;go_wp2;have RES2:=DBox.row4 RES rfl (J Ab z.now) (J Ab z.seq) (Aa s2.1.a s2.1.n s2.1.c) (Aa s2.2.a s2.2.n s2.2.c);have RP2:=DBox.row4 ((((RP.setOther (a:=⟨w+1+1,0,Ac⟩) aE (J Ab z.now)).setOther (a:=⟨w+1+1,1,Ac⟩) aE (J Ab z.seq)).setOther (a:=⟨w+1+1,2,Ac⟩) aE (Aa s2.1.a s2.1.n s2.1.c)).setOther (a:=⟨w+1+1,3,Ac⟩) aE (Aa s2.2.a s2.2.n s2.2.c)) rfl (J Ab 8) (J Ab 0) (J Ab 0) (J Ab 0);have RES3:=((((RES2.setOther (a:=⟨w+1+1+1,0,Ac⟩) aE.symm (J Ab 8)).setOther (a:=⟨w+1+1+1,1,Ac⟩) aE.symm (J Ab 0)).setOther (a:=⟨w+1+1+1,2,Ac⟩) aE.symm (J Ab 0)).setOther (a:=⟨w+1+1+1,3,Ac⟩) aE.symm (J Ab 0))
   have en1:w.heap.size+1+1∉F:=fun hx=>by have:=cB _ hx;omega
   have en2:w.heap.size+1+1+1∉F:=fun hx=>by have:=cB _ hx;omega
   refine Ak (Xr RES3 RP2) rfl ⟨s2,F,by rw [H.out],by rw [H.out];exact (by (repeat (refine Dt.ow_set Bu ?_ (by first | exact en1 | exact en2) _));exact (show Bu.ow _ F z s2 from oy)),fun x hx=>by have:=cB x hx;omega,?_⟩;repeat (first | (with_reducible exact B0) | refine Ae ?_ Bo _)
 all_goals
  go_wp2_with fail
  refine CS.out.mono ?_;rintro e2 w2 ⟨s2,F,rfl,oy,nF,b2⟩;replace oy:Bu.ow w2 F z s2:=oy;have cB:∀ x∈F,w+1+1+1+1<x:=fun x hx=>by have h1:=nF x hx;omega
  clear X_;clear D_;clear OB_;replace X:=X.below b2;replace D:=D.below b2;replace OB:=OB.below b2;replace RES:=RES.below b2;replace RP:=RP.below b2;have X_:=X.g4;have D_:=D.g11;have OB_:=OB.g4;have OBf:=OB.free;replace B0:=Bv B0 b2;clear nF b2;go_upto_region 23 with fail
  clear X_;clear D_;clear X D OBf;have bX:=Chg.cells4 w2 (w+1+1+1+1) 0 1 2 3 (J Ab z.now) (J Ab z.seq) (Aa s2.1.a s2.1.n s2.1.c) (Aa s2.2.a s2.2.n s2.2.c);have dQ:=Bq (show ∀ x,x∈[w.heap.size+1+1+1+1]->x=w.heap.size+1+1+1+1 from fun x hx=>by simpa using hx);clear OB_;replace OB:=DBox.row4 OB rfl (J Ab z.now) (J Ab z.seq) (Aa s2.1.a s2.1.n s2.1.c) (Aa s2.2.a s2.2.n s2.2.c);replace RES:=RES.chg bX (fun hx=>by have:=dQ.out _ hx;omega);replace RP:=RP.chg bX (fun hx=>by have:=dQ.out _ hx;omega);replace oy:Bu.ow _ F z s2:=owC oy bX (fun x hx h=>by have h1:=dQ.out x h;have h2:=cB x hx;omega);replace B0:=B0.trans (bX.below (by have:=B0.size;omega) (fun x hx=>by have:=dQ.out x hx;omega));clear bX;generalize (((w2.setCell ⟨w+1+1+1+1,0,Ac⟩ (J Ab z.now)).setCell ⟨w+1+1+1+1,1,Ac⟩ (J Ab z.seq)).setCell ⟨w+1+1+1+1,2,Ac⟩ (Aa s2.1.a s2.1.n s2.1.c)).setCell ⟨w+1+1+1+1,3,Ac⟩ (Aa s2.2.a s2.2.n s2.2.c)=w3 at *
  have OB_:=OB.g4;have RES_:=RES.g4;have RP_:=RP.g4;have rf:=RES.free;have pf:=RP.free;have aE:w.heap.size+1+1+1≠w.heap.size+1+1:=Bl;go_wp2;have RES2:=DBox.row4 RES rfl (J Ab z.now) (J Ab z.seq) (Aa s2.1.a s2.1.n s2.1.c) (Aa s2.2.a s2.2.n s2.2.c);have RP2:=DBox.row4 ((((RP.setOther (a:=⟨w+1+1,0,Ac⟩) aE (J Ab z.now)).setOther (a:=⟨w+1+1,1,Ac⟩) aE (J Ab z.seq)).setOther (a:=⟨w+1+1,2,Ac⟩) aE (Aa s2.1.a s2.1.n s2.1.c)).setOther (a:=⟨w+1+1,3,Ac⟩) aE (Aa s2.2.a s2.2.n s2.2.c)) rfl (J Ab c) (J Ab 0) (J Ab 0) (J Ab 0);have RES3:=((((RES2.setOther (a:=⟨w+1+1+1,0,Ac⟩) aE.symm (J Ab c)).setOther (a:=⟨w+1+1+1,1,Ac⟩) aE.symm (J Ab 0)).setOther (a:=⟨w+1+1+1,2,Ac⟩) aE.symm (J Ab 0)).setOther (a:=⟨w+1+1+1,3,Ac⟩) aE.symm (J Ab 0))
  have en1:w.heap.size+1+1∉F:=fun hx=>by have:=cB _ hx;omega
  have en2:w.heap.size+1+1+1∉F:=fun hx=>by have:=cB _ hx;omega
  refine Ak (Xr RES3 RP2) rfl ⟨s2,F,by rw [H.out],by rw [H.out];exact (by (repeat (refine Dt.ow_set Bu ?_ (by first | exact en1 | exact en2) _));exact (show Bu.ow _ F z s2 from oy)),fun x hx=>by have:=cB x hx;omega,?_⟩;repeat (first | (with_reducible exact B0) | refine Ae ?_ Bo _)
end
theorem Abk (l:List Task) (t u:Nat) (x:Task) (hx:t<l.length->x.try_=(l.getD t ⟨0,0,0,0⟩).try_):((l.set t x).getD u ⟨0,0,0,0⟩).try_=(l.getD u ⟨0,0,0,0⟩).try_:=by
 simp only [List.getD_eq_getElem?_getD,List.getElem?_set] at hx ⊢;by_cases h:t=u
 ·subst h;by_cases ht:t<l.length
  ·simp only [if_pos ht,↓reduceIte,Option.getD_some];exact hx ht
  ·simp [ht]
 ·simp [h]
theorem Adm (l:List Task) (t u:Nat) (f:Task->Task) (hf:∀ x,(f x).try_=x.try_):((Hc l t f).getD u ⟨0,0,0,0⟩).try_=(l.getD u ⟨0,0,0,0⟩).try_:=by
 unfold Hc;exact Abk l t u _ (fun _=>hf _)
theorem Agu (l:List Task) (u:Nat):((l.map Dj).getD u ⟨0,0,0,0⟩).try_=(l.getD u ⟨0,0,0,0⟩).try_:=by
 simp only [List.getD_eq_getElem?_getD,List.getElem?_map];cases l[u]? with
 | none=>rfl
 | some x =>
  simp only [Option.map_some,Option.getD_some];unfold Dj;split<;>rfl
theorem Aez (r:Run) (t u:Nat):(By (Dm r t) u).try_=(By r u).try_:=by
 unfold Dm;split
 ·exact Adm r.tasks t u (fun x=>⟨2,x.need,x.try_,0⟩) (fun _=>rfl)
 ·show (((Hc r.tasks t fun x=>⟨5,x.need,x.try_,0⟩).map Dj).getD u ⟨0,0,0,0⟩).try_=_;rw [Agu];exact Adm r.tasks t u (fun x=>⟨5,x.need,x.try_,0⟩) (fun _=>rfl)
theorem Xs (z:Yard) (k:Nat) (r:Run):(E0 z k r).runs=z.runs.set k r:=by
 unfold E0 Ly;rw [(Ko _ _ _).2.1]
theorem Tk (z:Yard) (k j:Nat) (r:Run) (hk:k<z.runs.length):Gg (E0 z k r) j=if k=j then r else Gg z j:=by
 unfold Gg;rw [Xs];simp only [List.getD_eq_getElem?_getD,List.getElem?_set];by_cases h:k=j
 ·subst h;simp [hk]
 ·simp [h]
def SameTry (y z:Yard):Prop:=∀ k t,(By (Gg z k) t).try_=(By (Gg y k) t).try_
theorem SameTry.fail {y z:Yard} (h:SameTry y z) {k:Nat} (hk:k<z.runs.length) (t:Nat):SameTry y (Gh z k t):=fun j u=>by
 by_cases q:(By (Gg z k) t).state=3
 ·rw [Jm q,Tk z k j _ hk]
  split
  ·next e =>
   subst e
   rw [Aez]
   exact h k u
  ·exact h j u
 ·rw [Kd q]
  exact h j u
theorem Xt {y z:Yard} {m:Nat} (hT:Trn y m z) (hS:SameTry y z) {k t:Nat} {id:Int} (hk:k<z.runs.length) (ht:t<z.runs[k].tasks.length) (hid:Db z id=k) :
  Gq z id t (By (Gg y k) t).try_ ↔ (By (Gg z k) t).state=3:=by
 unfold Gq;rw [Ey hk hid,hid,<-hS k t,Ee hk];simp only [Ap];exact ⟨fun h=>h.2.2.1,fun h=>⟨Bl,⟨Bl,Bl⟩,h,trivial⟩⟩
def upY (z:Yard):Yard:=⟨z.now+1,z.seq,z.shelf,z.runs⟩
theorem Adn (r:Run):∀ (l:List Nat) (z:Yard),l.foldl (fun y t=>J4 y r t) (upY z)=upY (l.foldl (fun y t=>J4 y r t) z)
 | [],z=>rfl
 | t :: l,z=>by
  rw [List.foldl_cons,List.foldl_cons,<-Adn r l (J4 z r t)];rfl
theorem Ah0 (z:Yard) (k:Nat) (r:Run):E0 (upY z) k r=upY (E0 z k r):=by
 unfold E0 Ly;exact Adn r _ ⟨z.now,z.seq,z.shelf,z.runs.set k r⟩
theorem Qd {b c:Nat} {w:World} {u0 u1 u2 u3 v0 v1 v2 v3:Value} (X:DBox b [u0,u1,u2,u3] w) (Y:DBox c [v0,v1,v2,v3] w) {x0 x1 x2 x3 x4 x5:Value} {rest:List Value} :
  (results Tryz.f132 (x0 :: x1 :: x2 :: x3 :: x4 :: x5 :: .pointer (Ad ⟨b,0,Ac⟩) :: .pointer (Ad ⟨c,0,Ac⟩) :: rest).toArray).run An w = .ok (.tuple #[.agg #[u0,u1,u2,u3],.agg #[v0,v1,v2,v3]]) w:=by
 have c0:=X.cell 0 _ rfl;have c1:=X.cell 1 _ rfl;have c2:=X.cell 2 _ rfl;have c3:=X.cell 3 _ rfl;have d0:=Y.cell 0 _ rfl;have d1:=Y.cell 1 _ rfl;have d2:=Y.cell 2 _ rfl;have d3:=Y.cell 3 _ rfl;simp [results,results132,go_sem,c0,c1,c2,c3,d0,d1,d2,d3]
theorem Abl (y:Yard) (s:Sl×Sl) (worker:Int) (d:Nat) (w:World) (hl:Cf y<=2000000) (hd:d<=1000000000) (h:Bu.rd w w y s) :
  Calls An 132 #[Dh y s,J Ab worker,J Ab (d:Int)] w (Vp (Ih y worker d) w):=by
 have HR:=Bq (show ∀ W,Below w w W->Bu.rd W W y s from fun W hW=>Bu.rd_more (Bu.rd_below h hW) hW.size);obtain ⟨⟨A1,n1,c1⟩,⟨A2,n2,c2⟩⟩:=s;have CC:=Bq (fun W hW=>Gj y (⟨A1,n1,c1⟩,⟨A2,n2,c2⟩) W hl (HR.out W hW));have CY:=Bq (fun W hW=>G8 y (⟨A1,n1,c1⟩,⟨A2,n2,c2⟩) W hl (HR.out W hW));clear h;obtain ⟨W,aG,X,RES,RP,B0⟩:=bx3 w 31 [J Ab y.now,J Ab y.seq,Aa A1 n1 c1,Aa A2 n2 c2] 31 [J Ab 0,J Ab 0,Aa Ac 0 0,Aa Ac 0 0] 84 [J Ab 0,J Ab 0,J Ab 0,J Ab 0];go_enter func132,ntmps132;go_wp2_with fail
 rw [<-aG.out];clear aG;have hPl:w.heap.size+1+1<W.heap.size:=RP.lt;refine (CY.out _ B0).mono ?_;rintro e1 w1 ⟨rfl,b1⟩;replace X:=X.below b1;replace RES:=RES.below b1;replace RP:=RP.below b1;have X_:=X.g4;obtain ⟨RES_0,RES_1,RES_2,RES_3,RES_l⟩:=RES.g4;obtain ⟨RP_0,RP_1,RP_2,RP_3,RP_l⟩:=RP.g4;have aZ:=Bv B0 b1;have hBs:=B0.size;have jY:=b1.size;clear B0 b1 CY;by_cases p0:Dn y;case neg =>
  have H:=Bq (show Ih y worker d=(y,⟨8,0,0,0⟩) from if_pos p0);rw [Cm p0];clear p0;clear RES_0 RES_1 RES_2 RES_3 RES_l;clear RP_0 RP_1 RP_2 RP_3 RP_l;go_wp2_with fail
  refine (CC.out _ aZ).mono ?_;rintro e1 w2 ⟨⟨⟨B1,m1,e1⟩,⟨B2,m2,e2⟩⟩,F,rfl,oy,nF,b2⟩;replace RES:=RES.below b2;replace RP:=RP.below b2;obtain ⟨RES_0,RES_1,RES_2,RES_3,RES_l⟩:=RES.g4;obtain ⟨RP_0,RP_1,RP_2,RP_3,RP_l⟩:=RP.g4;have rf:=RES.free;have pf:=RP.free;have aJ:=Bv aZ b2;go_wp2;have en1:w.heap.size+1∉F:=fun hx=>by have:=nF _ hx;omega
  have en2:w.heap.size+1+1∉F:=fun hx=>by have:=nF _ hx;omega
  have aE:w.heap.size+1+1≠w.heap.size+1:=Bl;have RES2:=DBox.row4 RES rfl (J Ab y.now) (J Ab y.seq) (Aa B1 m1 e1) (Aa B2 m2 e2);have RP2:=DBox.row4 ((((RP.setOther (a:=⟨w+1,0,Ac⟩) aE (J Ab y.now)).setOther (a:=⟨w+1,1,Ac⟩) aE (J Ab y.seq)).setOther (a:=⟨w+1,2,Ac⟩) aE (Aa B1 m1 e1)).setOther (a:=⟨w+1,3,Ac⟩) aE (Aa B2 m2 e2)) rfl (J Ab 8) (J Ab 0) (J Ab 0) (J Ab 0);have RES3:=(((RES2.setOther (a:=⟨w+1+1,0,Ac⟩) aE.symm (J Ab 8)).setOther (a:=⟨w+1+1,1,Ac⟩) aE.symm (J Ab 0)).setOther (a:=⟨w+1+1,2,Ac⟩) aE.symm (J Ab 0)).setOther (a:=⟨w+1+1,3,Ac⟩) aE.symm (J Ab 0);refine Ak (Qd RES3 RP2) rfl ⟨(⟨B1,m1,e1⟩,⟨B2,m2,e2⟩),F,by rw [H.out],by rw [H.out];exact (by (repeat (refine Dt.ow_set Bu ?_ (by first | exact en1 | exact en2) _));exact (show Bu.ow _ F y (⟨B1,m1,e1⟩,⟨B2,m2,e2⟩) from oy)),fun x hx=>by have:=nF x hx;omega,?_⟩;repeat (first | (with_reducible exact aJ) | refine Ae ?_ Bo _)
 rw [Ds p0];cases p1:inB worker 0 99;case false =>
  have H:=Bq (show Ih y worker d=(y,⟨5,0,0,0⟩) by unfold Ih;rw [if_neg (fun h=>h p0),if_pos p1]);clear p0;clear RES_0 RES_1 RES_2 RES_3 RES_l;clear RP_0 RP_1 RP_2 RP_3 RP_l;go_wp2_with (go_at_call 72;refine (Cq _ _ _ _).mono ?_;rintro e w9 ⟨rfl,rfl⟩;rw [p1])
  refine (CC.out _ aZ).mono ?_;rintro e1 w2 ⟨⟨⟨B1,m1,e1⟩,⟨B2,m2,e2⟩⟩,F,rfl,oy,nF,b2⟩;replace RES:=RES.below b2;replace RP:=RP.below b2;obtain ⟨RES_0,RES_1,RES_2,RES_3,RES_l⟩:=RES.g4;obtain ⟨RP_0,RP_1,RP_2,RP_3,RP_l⟩:=RP.g4;have rf:=RES.free;have pf:=RP.free;have aJ:=Bv aZ b2;go_wp2;have en1:w.heap.size+1∉F:=fun hx=>by have:=nF _ hx;omega
  have en2:w.heap.size+1+1∉F:=fun hx=>by have:=nF _ hx;omega
  have aE:w.heap.size+1+1≠w.heap.size+1:=Bl;have RES2:=DBox.row4 RES rfl (J Ab y.now) (J Ab y.seq) (Aa B1 m1 e1) (Aa B2 m2 e2);have RP2:=DBox.row4 ((((RP.setOther (a:=⟨w+1,0,Ac⟩) aE (J Ab y.now)).setOther (a:=⟨w+1,1,Ac⟩) aE (J Ab y.seq)).setOther (a:=⟨w+1,2,Ac⟩) aE (Aa B1 m1 e1)).setOther (a:=⟨w+1,3,Ac⟩) aE (Aa B2 m2 e2)) rfl (J Ab 5) (J Ab 0) (J Ab 0) (J Ab 0);have RES3:=(((RES2.setOther (a:=⟨w+1+1,0,Ac⟩) aE.symm (J Ab 5)).setOther (a:=⟨w+1+1,1,Ac⟩) aE.symm (J Ab 0)).setOther (a:=⟨w+1+1,2,Ac⟩) aE.symm (J Ab 0)).setOther (a:=⟨w+1+1,3,Ac⟩) aE.symm (J Ab 0);refine Ak (Qd RES3 RP2) rfl ⟨(⟨B1,m1,e1⟩,⟨B2,m2,e2⟩),F,by rw [H.out],by rw [H.out];exact (by (repeat (refine Dt.ow_set Bu ?_ (by first | exact en1 | exact en2) _));exact (show Bu.ow _ F y (⟨B1,m1,e1⟩,⟨B2,m2,e2⟩) from oy)),fun x hx=>by have:=nF x hx;omega,?_⟩;repeat (first | (with_reducible exact aJ) | refine Ae ?_ Bo _)
 have pp:=Ct.1 p1;have HP:=Bq p0;obtain ⟨wk,rfl⟩:=Aq pp.1;have hm:((wk:Int).tmod 4)=((wk % 4:Nat):Int):=by rw [Int.tmod_eq_emod_of_nonneg Bl];omega
 have hmw:Ab.wrap ((wk % 4:Nat):Int)=((wk % 4:Nat):Int):=Ar _ Bl;have mL:(wk:Int) % 4=((wk % 4:Nat):Int):=Bl;have hh:=Nat.mod_lt wk (show 0<4 by decide);have H:=Bq (show Ih y wk d=Mx (J5 y ((wk % 4:Nat):Int) d) (wk % 4) by unfold Ih;rw [if_neg (fun h=>h p0),if_neg (by rw [p1];simp),mL,Ap]);have aP:=Pol.start p0 hh;have h4:=p0.2.2.1;clear p0 pp mL;generalize wk % 4=home at *
 have CS:=Bq (fun W hW=>Qx y (⟨A1,n1,c1⟩,⟨A2,n2,c2⟩) home W Bl hl (HR.out W hW));have CV:=Bq (fun W=>Vf home d W hh hd);have HG:Hid (J5 y (home:Int) d=(Em home d).foldl (Ed home) (Cg y home)):=by
  show J5 y (home:Int) d=_;unfold J5;rw [Ap]
 clear RES_0 RES_1 RES_2 RES_3 RES_l;clear RP_0 RP_1 RP_2 RP_3 RP_l;go_wp2_with (go_at_call 72;refine (Cq _ _ _ _).mono ?_;rintro e w9 ⟨rfl,rfl⟩;rw [p1])
 refine (CS.out _ aZ).mono ?_;rintro e1 w2 ⟨s2,F,rfl,oy,nF,b2⟩;clear X_;clear X CC HR CS;replace RES:=RES.below b2;replace RP:=RP.below b2;have aJ:=Bv aZ b2;have hb2s:=b2.size;clear aZ b2 hm hmw;have cI:=Bu.ow_lt oy;have kS:Hid (Cg y home=Cg y home):=rfl;go_upto_region 7 with fail
 have OB:=DBox.new 31 (Ev (Cg y home) s2) w2 (b:=w2) rfl;have b3:Below w2 w2 (w2.alloc (.cells (Ev (Cg y home) s2).toArray 31)):=Bt;replace RES:=RES.below b3;replace RP:=RP.below b3;replace oy:=Bu.ow_below oy b3;have bU:=Bv aJ b3;have hb3s:=b3.size;have gG:=OB.lt;have hPl2:w.heap.size+1+1<w2.heap.size:=Bl;generalize w2.alloc (.cells (Ev (Cg y home) s2).toArray 31)=w3 at *
 go_wp2_with fail
 refine (CV.out _).mono ?_;rintro e1 w4 ⟨v,rfl,ov,b4⟩;replace RES:=RES.below b4;replace RP:=RP.below b4;replace OB:=OB.below b4;replace oy:=Bu.ow_below oy b4;have cL:=Bv bU b4;obtain ⟨fQ,sC⟩:=Hw.of_ow ov;obtain ⟨A9,c9,rfl,-⟩:=id (Rd.of_own ov);have rV:=Uf home d;have fF:=Bq (N6 (home:=(home:Int)) (draw:=d));have gY:=Bq (show ∀ v∈Em home d,v≠home from fun v hv=>by have:=N7 (home:=(home:Int)) (draw:=d) Bl Bl v hv;omega);have cR:w2.heap.size<w3.heap.size:=gG;have aE:∀ x∈Ei (Aa A9 (Em home d).length c9) (Em home d).length,x∉F/\w2<x:=fun x hx=>⟨fun hF=>by have h1:=sC x hx;have h2:=cI x hF;omega,by have:=sC x hx;omega⟩
 have fY:(∀ x∈F,w+1+1<x)/\w2.heap.size∉F:=⟨fun x hx=>by have:=nF x hx;omega,fun hx=>by have:=cI _ hx;omega⟩
 generalize Ei (Aa A9 (Em home d).length c9) (Em home d).length=Fv at *
 generalize Em home d=L at *
 rw [rV] at fQ;rw [rV];generalize Cg y home=Z0 at *
 have tF:w.heap.size+1+1<w2.heap.size:=hPl2;generalize w2.heap.size=ob at *
 clear cI nF sC;go_wp2;go_loopw [11,12,13,42] (fun u0 u1 u2 i wr=>∃ (k:Nat) (s:Sl×Sl) (F:List Nat),k<=3/\i = J Ab k/\Hid (Pol y home ((L.take k).foldl (Ed home) Z0))/\Hid (Bu.ow wr F ((L.take k).foldl (Ed home) Z0) s)/\Hid ((∀ x∈F,w+1+1<x)/\ob∉F /\ ∀ x∈Fv,x∉F)/\Hid (Hw En wr Fv (Aa A9 3 c9) L)/\DBox ob (Ev ((L.take k).foldl (Ed home) Z0) s) wr/\DBox (w+1) [J Ab 0,J Ab 0,Aa Ac 0 0,Aa Ac 0 0] wr/\DBox (w+1+1) [J Ab 0,J Ab 0,J Ab 0,J Ab 0] wr/\Below w w wr) (fun _ _ _ i _=>3 - (intOf i).toNat);case atStart=>exact ⟨0,s2,F,Nat.zero_le _,rfl,aP,oy,⟨fY.1,fY.2,fun x hx=>(aE x hx).1⟩,fQ,OB,RES,RP,cL⟩
 case round =>
  have rW:∀ x∈Fv,ob<x:=fun x hx=>(aE x hx).2;clear aP oy fY fQ OB RES RP cL aE ov b4;obtain ⟨k,s,F,hk,rfl,aP,oy,hF,fQ,OB,RES,RP,hb⟩:=hrel;have aF:Hid (∀ h:k<L.length,(L.take (k+1)).foldl (Ed home) Z0=Ed home ((L.take k).foldl (Ed home) Z0) L[k]):=fun h=>K5 (Ed home) Z0 L k h;have dA:Hid ((k=3 \/ ¬ (((L.take k).foldl (Ed home) Z0).shelf.getD home []).length=0)->L.foldl (Ed home) Z0=(L.take k).foldl (Ed home) Z0):=by
   intro h;rcases h with h | h
   ·rw [List.take_of_length_le Bl]
   ·have e:L.foldl (Ed home) Z0=(L.drop k).foldl (Ed home) ((L.take k).foldl (Ed home) Z0):=by
     rw [<-List.foldl_append,List.take_append_drop]
    rw [e];exact M9 _ _ h
  generalize (L.take k).foldl (Ed home) Z0=Zk at *
  obtain ⟨⟨B1,m1,e1⟩,⟨B2,m2,e2⟩⟩:=s;have rS:=aP.out.four;have oyr:=Bu.ow_rd oy.out;have gZ:home<Zk.shelf.length:=Bl;obtain rfl:m1=4:=(RdL.at1 (s:=⟨B1,m1,e1⟩) oyr.1).trans rS;obtain ⟨g,o,⟨xa,xn,xc⟩,rfl,fZ,eW,ch⟩:=RdL.entryS (show RdL (Dt.list Ch) wr wr.heap.size (Aa B1 4 e1) Zk.shelf from oyr.1) gZ;obtain rfl:xn=Zk.shelf[home].length:=RdL.at1 (s:=⟨xa,xn,xc⟩) eW;have hhI:(home:Int)<4:=Bl;have hh0:(0:Int)<=(home:Int):=Bl;have qU:=aP.out.all _ (Ax gZ);obtain ⟨OB_0,OB_1,OB_2,OB_3,OB_l⟩:=OB.g4;have dC:=Bq (Gf gZ);have hwrs:=hb.size;have hRPl:=RP.lt;have hobl:=OB.lt;rcases (show (k<3/\Zk.shelf[home].length=0)\/(k<3 /\ ¬ Zk.shelf[home].length=0) \/ ¬ k<3 by by_cases k<3<;>by_cases Zk.shelf[home].length=0<;>simp [*]) with ⟨aB,hq⟩ | ⟨aB,hq⟩ | aB
  ·have aC:(k:Int)<3:=Bl
   ·have qP:((Zk.shelf[home].length:Int) == 0)=true:=by simp [hq]
    have nI:k<L.length:=Bl;have hv4:L[k]<4:=fF.out _ (Ax nI);have gT:L[k]≠home:=gY.out _ (Ax nI);obtain ⟨gv,ov,rfl,hgv,cv⟩:=fQ.out.rd.nat nI;replace aF:=Bq (aF.out nI);have bF:=fQ.out.block Bl;generalize L[k]=v at *
    have hP1:Hid (Pol y home (K8 home Zk v)):=by
     have h1:=aP.out.step hh hv4 gT;rw [Nr (by rw [dC.out];exact hq) gT] at h1;exact h1
    replace aF:=Bq (aF.out.trans (Nr (by rw [dC.out];exact hq) gT));have hE0:=Bq (show (Cg Zk v).shelf.getD home []=[] by rw [Tg gT,dC.out];exact List.eq_nil_of_length_eq_zero hq);have rZ:=fQ.out.lt;have hvI:(v:Int)<4:=Bl;have hv0:(0:Int)<=(v:Int):=Bl;have dF:(0:Int)<=(k:Int):=Bl;have hzc:=aP.out.cnt HP.out;have CS:=Bq (Qx Zk (⟨Ad ⟨g,o,Ac⟩,4,e1⟩,⟨B2,m2,e2⟩) v wr Bl hzc oyr);go_wp2_with fail
    clear hq;refine CS.out.mono ?_;rintro e w2 ⟨⟨⟨C1,p1,f1⟩,⟨C2,p2,f2⟩⟩,F2,rfl,oy2,n2,b2⟩;have OB2:=OB.below b2;have k0:=OB2.cell 0 _ rfl;have k1:=OB2.cell 1 _ rfl;have k2:=OB2.cell 2 _ rfl;have k3:=OB2.cell 3 _ rfl;have kf:=OB2.free;have kl:=OB2.lt;go_upto_region 12 with fail
    have b2':Below wr wr w2:=b2;clear k0 k1 k2 k3 kf kl;have OB3:=DBox.row4 OB2 rfl (J Ab (Cg Zk v).now) (J Ab (Cg Zk v).seq) (Aa C1 p1 f1) (Aa C2 p2 f2);have dU:=Chg.cells4 w2 ob 0 1 2 3 (J Ab (Cg Zk v).now) (J Ab (Cg Zk v).seq) (Aa C1 p1 f1) (Aa C2 p2 f2);have eM:=Bq (show ∀ x,x∈[ob]->x=ob from fun x hx=>by simpa using hx);have RES3:=(RES.below b2').chg dU (fun hx=>by have:=eM.out _ hx;omega);have RP3:=(RP.below b2').chg dU (fun hx=>by have:=eM.out _ hx;omega);have dR:=(fQ.out.below b2').chg dU (fun x hx hx2=>by have h1:=eM.out _ hx2;have h2:=rW x hx;omega);have eQ:ob∉F2:=fun hx=>by have h1:=n2 _ hx;have h3:=OB_l;omega
    have oy3:=Bu.ow_chg (F:=F2) (x:=Cg Zk v) (s:=(⟨C1,p1,f1⟩,⟨C2,p2,f2⟩)) oy2 dU (fun x hx hx2=>by have:=eM.out _ hx2;subst this;exact eQ hx);have bU:Below w w _:=(Bv hb b2').trans (dU.below (by have:=b2'.size;omega) (fun x hx=>by have:=eM.out _ hx;omega));have fP:∀ x∈F2,wr<=x:=n2;have cN:=b2'.size;have fS:=dU.size;replace cv:=(dU.cell (p:=⟨gv,_,Ac⟩) (by show gv<w2;omega) (fun hx=>by have h1:gv=ob:=eM.out _ hx;have h2:=rW gv (by rw [bF.1];simp);omega)).trans ((b2'.cell (p:=⟨gv,_,Ac⟩) (by show gv<wr;omega)).trans cv);have nD:∀ x∈F2,w+1+1<x:=fun x hx=>by have h1:=fP x hx;have h2:=RP.lt;omega
    clear OB_0 OB_1 OB_2 OB_3 OB_l;clear OB RES RP fQ oy oy2 n2 b2 b2' hb OB2 oyr eW ch hF CS;generalize (((w2.setCell ⟨ob,0,Ac⟩ (J Ab (Cg Zk v).now)).setCell ⟨ob,1,Ac⟩ (J Ab (Cg Zk v).seq)).setCell ⟨ob,2,Ac⟩ (Aa C1 p1 f1)).setCell ⟨ob,3,Ac⟩ (Aa C2 p2 f2)=w3 at *
    have OB:=OB3;clear OB3;obtain ⟨OB_0,OB_1,OB_2,OB_3,OB_l⟩:=OB.g4;have h41:(Cg Zk v).shelf.length=4:=by rw [Nq];exact rS
    have oyr3:=Bu.ow_rd (F:=F2) (x:=Cg Zk v) oy3;obtain rfl:p1=4:=(RdL.at1 (s:=⟨C1,p1,f1⟩) oyr3.1).trans h41;have gR:v<(Cg Zk v).shelf.length:=Bl;obtain ⟨g2,o2,⟨va,vn,vc⟩,rfl,kI,uM,cv2⟩:=RdL.entryS (show RdL (Dt.list Ch) w3 w3.heap.size (Aa C1 4 f1) (Cg Zk v).shelf from oyr3.1) gR;have gF:=Qa (i:=v) aP.out.all;have gU:=gF _ (Ax gR);have CH:=Bq (Aax (Cg Zk v).shelf[v] ⟨va,vn,vc⟩ w3 Bl uM);have hgvw:gv<w3:=Bl;go_wp2_with fail
    refine CH.out.mono ?_;rintro e w4 ⟨⟨qa1,qn1,qc1⟩,Fh1,⟨qa2,qn2,qc2⟩,Fh2,rfl,oh1,oh2,nh1,nh2,dh,b4⟩;go_upto_region 13 with fail
    have b4':Below w3 w3 w4:=b4;have kH:=b4'.size;have hnh1:∀ x∈Fh1,w3<=x:=nh1;have kX:∀ x∈Fh2,w3<=x:=nh2;replace oy3:Bu.ow w3 F2 (Cg Zk v) (⟨Ad ⟨g2,o2,Ac⟩,4,f1⟩,⟨C2,p2,f2⟩):=oy3;have hfl2:=Bu.ow_lt (F:=F2) (x:=Cg Zk v) (s:=(⟨Ad ⟨g2,o2,Ac⟩,4,f1⟩,⟨C2,p2,f2⟩)) oy3;clear OB_0 OB_1 OB_2 OB_3 OB_l;replace OB:=OB.below b4';replace RES3:=RES3.below b4';replace RP3:=RP3.below b4';replace dR:=dR.below b4';replace oy3:Bu.ow w4 F2 (Cg Zk v) (⟨Ad ⟨g2,o2,Ac⟩,4,f1⟩,⟨C2,p2,f2⟩):=owB oy3 b4';replace bU:=Bv bU b4';replace cv:=(b4'.cell (p:=⟨gv,_,Ac⟩) (by show gv<w3;omega)).trans cv;replace cv2:=(b4'.cell (p:=⟨g2,_,Ac⟩) (by show g2<w3;omega)).trans cv2;clear nh1 nh2 b4 b4' CH oyr3 uM;obtain ⟨OB_0,OB_1,OB_2,OB_3,OB_l⟩:=OB.g4;have kA:∀ j,w4.frozen? ⟨g2,j,Ac⟩=false:=by
     obtain ⟨G1,G2,_,_,os,_⟩:=oy3;exact OwL.free0 (show OwL (Dt.list Ch) w4 G1 (Aa (Ad ⟨g2,o2,Ac⟩) 4 f1) (Cg Zk v).shelf from os) Bl
    have kZ:g2<w4:=Bl;have vG:(Cg Zk v).shelf[home]' Bl=[]:=by
     have h1:=hE0.out;rw [Gf Bl] at h1;exact h1
    have uI:=Bq (show K8 home Zk v=⟨(Cg Zk v).now,(Cg Zk v).seq,((Cg Zk v).shelf.set home (Gp [] ((Cg Zk v).shelf[v].take (C9 (Cg Zk v).shelf[v])))).set v ((Cg Zk v).shelf[v].drop (C9 (Cg Zk v).shelf[v])),(Cg Zk v).runs⟩ by
     unfold K8;rw [Gf gR,List.set_comm _ _ gT];rfl)
    obtain ⟨_,_,⟨xa2,xn2,xc2⟩,cG,_,jI,cx⟩:=RdL.entryS (show RdL (Dt.list Ch) w4 w4.heap.size (Aa (Ad ⟨g2,o2,Ac⟩) 4 f1) (Cg Zk v).shelf from (Bu.ow_rd (F:=F2) (x:=Cg Zk v) oy3).1) (k:=home) Bl;simp only [Option.some.injEq,Addr.mk.injEq,and_true] at cG;obtain ⟨rfl,rfl⟩:=cG;replace jI:RdL Ch w4 w4 (Aa xa2 xn2 xc2) ((Cg Zk v).shelf[home]' Bl):=jI;rw [vG] at jI;obtain rfl:xn2=0:=RdL.at1 (s:=⟨xa2,xn2,xc2⟩) jI;have dN:((Cg Zk v).shelf[v].take (C9 (Cg Zk v).shelf[v])).length<=80:=M8 _ gU;have CM:=Bq (W6 [] ((Cg Zk v).shelf[v].take (C9 (Cg Zk v).shelf[v])) ⟨xa2,0,xc2⟩ ⟨qa1,qn1,qc1⟩ w4.drew Bn Bl (RdL.below jI (Br _ _).drew) (RdL.below oh1.rd (Br _ _).drew));have hobw4:ob<w4:=OB_l;have hobF2':=eQ;clear vG jI gU;generalize (Cg Zk v).shelf[v].take (C9 (Cg Zk v).shelf[v])=lt_ at *
    generalize hlr:(Cg Zk v).shelf[v].drop (C9 (Cg Zk v).shelf[v])=lr_ at *
    replace hlr:=Bq hlr;refine Dl (fun w'=>w'.cell? ⟨ob,2,Ac⟩=Ad (Aa (Ad ⟨g2,o2,Ac⟩) 4 f1)/\w'.cell? ⟨g2,o2+home,Ac⟩=Ad (Aa xa2 0 xc2)) 11 Bm ?_ (fun aA=>?_)
    ·exact ⟨OB_2,cx⟩
    refine aT 0 aA ?_;try simp only [pS]
    refine aT 1 aA ?_;try simp only [pS]
    refine aT 2 aA ?_;try simp only [pS]
    refine aT 3 aA ?_;try simp only [pS]
    refine aT 4 aA ?_;try simp only [pS]
    refine aT 5 aA ?_;try simp only [pS]
    refine aT 6 aA ?_;try simp only [pS]
    refine aT 7 aA ?_;try simp only [pS]
    refine aT 8 aA ?_;try simp only [pS]
    refine oT 9 (fun K hK=>?_)
    (go_simp;refine CM.out.mono ?_;rintro e w6 ⟨⟨ma,mn,mc⟩,Fm,rfl,om,nm,b6⟩;have hgc:w6.cell? ⟨g2,o2+home,Ac⟩=Ad (Aa xa2 0 xc2):=(b6.cell (p:=⟨_,_,Ac⟩) (by show g2<w4;omega)).trans cx;have pL:∀ j,w6.frozen? ⟨g2,j,Ac⟩=false:=fun j=>(b6.frozen (p:=⟨_,_,Ac⟩) (by show g2<w4;omega)).trans (kA j))
    have HSx:w6.cell? ⟨ob,2,Ac⟩=Ad (Aa (Ad ⟨g2,o2,Ac⟩) 4 f1)/\w6.cell? ⟨g2,o2+home,Ac⟩=Ad (Aa xa2 0 xc2):=⟨(b6.cell (p:=⟨_,_,Ac⟩) (by show ob<w4;omega)).trans OB_2,hgc⟩
    refine hK.out _ _ (fun _=>HSx) ?_;clear hK K;try simp only [pS]
    refine oT 10 (fun K hK=>?_);go_simp;refine hK.out _ _ (fun _=>HSx) ?_;clear hK K;try simp only [pS]
    refine oT 11 (fun K hK=>?_);go_simp;refine hK.out _ _ (fun aE=>absurd rfl aE) ?_;clear hK K HSx;try simp only [pS]
    refine Eb Bm ?_ _;have b6':Below w4 w4 w6:=Bv (Br _ _).drew b6;have nY:=b6'.size;have tG:∀ x∈Fm,w4<=x:=nm;have jA:=Bu.ow_lt (F:=F2) (x:=Cg Zk v) (s:=(⟨Ad ⟨g2,o2,Ac⟩,4,f1⟩,⟨C2,p2,f2⟩)) oy3;have oy6:=Bu.ow_below (F:=F2) (x:=Cg Zk v) (s:=(⟨Ad ⟨g2,o2,Ac⟩,4,f1⟩,⟨C2,p2,f2⟩)) oy3 b6';have oh2':=oh2.below b6';obtain ⟨F5,oy5,hF5,jQ⟩:=G7 oy6 (i:=home) Bl (l:=Gp [] lt_) (t:=⟨ma,mn,mc⟩) om (fun x hx bF=>by have h1:=tG x hx;have h2:=jA x bF;omega);have cX:Chg [g2] w6 (w6.setCell ⟨g2,o2+home,Ac⟩ (Aa ma mn mc)):=Chg.setCell w6 g2 _ _;have bQ:=Bq (show ∀ x,x∈[g2]->x=g2 from fun x hx=>by simpa using hx);have hg2gt:=nD _ jQ;have hg2n:=fP _ jQ;have dY:ob≠g2:=fun h=>eQ (by rw [h];exact jQ);clear OB_0 OB_1 OB_2 OB_3 OB_l;replace OB:=(OB.below b6').chg cX (fun hx=>dY (bQ.out _ hx));replace RES3:=(RES3.below b6').chg cX (fun hx=>by have:=bQ.out _ hx;omega);replace RP3:=(RP3.below b6').chg cX (fun hx=>by have:=bQ.out _ hx;omega);replace dR:=(dR.below b6').chg cX (fun x hx hx2=>by have h1:=bQ.out _ hx2;have h2:=rZ x hx;omega);have oh3:=oh2'.chg cX (fun x hx hx2=>by have h1:=bQ.out _ hx2;have h2:=kX x hx;omega);replace bU:=(Bv bU b6').trans (cX.below (by have:=(Bv bU b6').size;omega) (fun x hx=>by have:=bQ.out _ hx;omega));have hfg5:∀ j,(w6.setCell ⟨g2,o2+home,Ac⟩ (Aa ma mn mc)).frozen? ⟨g2,j,Ac⟩=false:=fun j=>(Je w6 _ _ _).trans (pL j);have mK:=cX.size;have hFm5:∀ x∈Fh2,x<w4:=fun x hx=>oh2.lt x hx;clear cX aA oy3 oy6 oh1 oh2 oh2' kA cv cv2 b6 b6' nm om CM cx hgc pL;generalize w6.setCell ⟨g2,o2+home,Ac⟩ (Aa ma mn mc)=w5 at *
    replace oy5:Bu.ow w5 F5 ⟨(Cg Zk v).now,(Cg Zk v).seq,(Cg Zk v).shelf.set home (Gp [] lt_),(Cg Zk v).runs⟩ (⟨Ad ⟨g2,o2,Ac⟩,4,f1⟩,⟨C2,p2,f2⟩):=oy5;obtain ⟨_,_,⟨xa3,xn3,xc3⟩,cG,_,_,cx3⟩:=RdL.entryS (show RdL (Dt.list Ch) w5 w5.heap.size (Aa (Ad ⟨g2,o2,Ac⟩) 4 f1) ((Cg Zk v).shelf.set home (Gp [] lt_)) from (Bu.ow_rd (F:=F5) (x:=⟨(Cg Zk v).now,(Cg Zk v).seq,(Cg Zk v).shelf.set home (Gp [] lt_),(Cg Zk v).runs⟩) oy5).1) (k:=v) (by rw [Bh];omega);simp only [Option.some.injEq,Addr.mk.injEq,and_true] at cG;obtain ⟨rfl,rfl⟩:=cG;obtain ⟨F7,oy7,kW,-⟩:=G7 oy5 (i:=v) (by show v<(List.set _ _ _).length;rw [Bh];omega) (l:=lr_) (t:=⟨qa2,qn2,qc2⟩) oh3 (fun x hx bF=>by
     rcases hF5 x bF with h | h
     ·have h1:=kX x hx;have h2:=hfl2 x h;omega
     ·have h1:=hFm5 x hx;have h2:=tG x h;omega)
    have fL:Chg [g2] w5 (w5.setCell ⟨g2,o2+v,Ac⟩ (Aa qa2 qn2 qc2)):=Chg.setCell w5 g2 _ _;have hg2w5:g2<w5:=Bl;obtain ⟨OB_0,OB_1,OB_2,OB_3,OB_l⟩:=OB.g4;go_upto_region 15 with fail
    clear OB_0 OB_1 OB_2 OB_3 OB_l;replace OB:=OB.chg fL (fun hx=>dY (bQ.out _ hx));replace RES3:=RES3.chg fL (fun hx=>by have:=bQ.out _ hx;omega);replace RP3:=RP3.chg fL (fun hx=>by have:=bQ.out _ hx;omega);replace dR:=dR.chg fL (fun x hx hx2=>by have h1:=bQ.out _ hx2;have h2:=rZ x hx;omega);replace bU:=bU.trans (fL.below (by have:=bU.size;omega) (fun x hx=>by have:=bQ.out _ hx;omega));have jV:∀ x∈F7,x∈F2\/w3<=x:=fun x hx=>by
     rcases kW x hx with h | h
     ·rcases hF5 x h with h' | h'
      ·exact .inl h'
      ·right;have:=tG x h';omega
     ·exact .inr (kX x h)
    clear oy5 fL cx3 hfg5;generalize w5.setCell ⟨g2,o2+v,Ac⟩ (Aa qa2 qn2 qc2)=w7 at *
    go_wp2;exact ⟨⟨k+1,(⟨Ad ⟨g2,o2,Ac⟩,4,f1⟩,⟨C2,p2,f2⟩),F7,Bl,by go_num,by rw [aF.out];exact hP1,by rw [aF.out,uI.out];exact oy7,⟨fun x hx=>by (rcases jV x hx with h | h);exact nD x h;omega,fun hx=>by (rcases jV _ hx with h | h);exact eQ h;omega,fun x hx bF=>by have h1:=rZ x hx;(rcases jV x bF with h | h);have:=fP x h;omega;omega⟩,dR,by rw [aF.out,uI.out];exact OB,RES3,RP3,bU⟩,clM⟩
  have aC:(k:Int)<3:=Bl;have qP:(0:Int)<(Zk.shelf[home].length:Int):=Bl;have hqn:0<Zk.shelf[home].length:=Bl;have hqe:¬ Zk.shelf[home]=[]:=fun h=>hq (by rw [h];rfl);have nI:k<L.length:=Bl;obtain ⟨gv,ov,rfl,hgv,cv⟩:=fQ.out.rd.nat nI;have dF:(0:Int)<=(k:Int):=Bl;generalize L[k]=v at *
  replace dA:=Bq (dA.out (.inr (by rw [dC.out];exact hq)));clear hq;rotate_left;have aC:¬ (k:Int)<3:=Bl;have qP:True:=trivial;replace dA:=Bq (dA.out (.inl Bl));all_goals
   have HZ:=Bq (show Ih y (wk:Int) d=Mx Zk home by rw [H.out,HG.out,dA.out]);have jS:∀ e∈Zk.shelf[home],Q4 Zk e:=fun e he=>by
    have h1:=aP.out.fresh e (by rw [dC.out];exact he);rw [<-Mw aP.out.runs] at h1;exact Ll.1 h1
   replace eW:RdL Ch wr wr (Aa xa Zk.shelf[home].length xc) Zk.shelf[home]:=eW;have nR:=aP.out.all _ (Ax gZ);have qR:Hid (Mx Zk home=Ug Zk home Zk.shelf[home]):=by
    show Mx Zk home=_;unfold Mx;rw [dC.out]
   have CT:=Bq (Sd Zk.shelf[home] ⟨xa,Zk.shelf[home].length,xc⟩ wr Bl eW);clear aF dC fQ fF gY kS rW H HG dA;generalize Zk.shelf[home]=SH at *
   go_wp2_with fail
   refine CT.out.mono ?_
   (try clear hqe)
   (try clear hqn)
   (try clear qP)
   have qP:True:=trivial;rintro e9 w2 ⟨⟨ta,tn,tc⟩,Ft,rfl,ot,nt,b2⟩;replace oy:Bu.ow wr F Zk (⟨Ad ⟨g,o,Ac⟩,4,e1⟩,⟨B2,m2,e2⟩):=oy.out;have mR:=Bu.ow_lt (F:=F) (x:=Zk) (s:=(⟨Ad ⟨g,o,Ac⟩,4,e1⟩,⟨B2,m2,e2⟩)) oy;replace oy:Bu.ow w2 F Zk (⟨Ad ⟨g,o,Ac⟩,4,e1⟩,⟨B2,m2,e2⟩):=owB oy b2;clear OB_0 OB_1 OB_2 OB_3 OB_l;replace OB:=OB.below b2;replace RES:=RES.below b2;replace RP:=RP.below b2;have aJ:=Bv hb b2;have cN:=b2.size;clear b2 CT ch eW hb oyr;have aE:w.heap.size+1+1≠w.heap.size+1:=Bl;cases SH with
   | nil =>
    have HF:=Bq (HZ.out.trans qR.out);clear HZ qR jS ot;have EB0:Below w2 w2 (w2.alloc (.cells #[J Ab 0,J Ab 0,J Ab 0,J Ab 0] 71)):=Bt;go_upto_region 17 with fail
    replace oy:Bu.ow _ F Zk (⟨Ad ⟨g,o,Ac⟩,4,e1⟩,⟨B2,m2,e2⟩):=owB oy EB0;replace OB:=OB.below EB0;replace RES:=RES.below EB0;replace RP:=RP.below EB0;replace aJ:=Bv aJ EB0;clear EB0;generalize w2.alloc (.cells #[J Ab 0,J Ab 0,J Ab 0,J Ab 0] 71)=w3 at *
    obtain ⟨OB_0,OB_1,OB_2,OB_3,OB_l⟩:=OB.g4;obtain ⟨RES_0,RES_1,RES_2,RES_3,RES_l⟩:=RES.g4;obtain ⟨RP_0,RP_1,RP_2,RP_3,RP_l⟩:=RP.g4;have rf:=RES.free;have pf:=RP.free;go_wp2;have en1:w.heap.size+1∉F:=fun hx=>by have:=hF.out.1 _ hx;omega
    have en2:w.heap.size+1+1∉F:=fun hx=>by have:=hF.out.1 _ hx;omega
    have RES2:=DBox.row4 RES rfl (J Ab Zk.now) (J Ab Zk.seq) (Aa (Ad ⟨g,o,Ac⟩) 4 e1) (Aa B2 m2 e2);have RP2:=DBox.row4 ((((RP.setOther (a:=⟨w+1,0,Ac⟩) aE (J Ab Zk.now)).setOther (a:=⟨w+1,1,Ac⟩) aE (J Ab Zk.seq)).setOther (a:=⟨w+1,2,Ac⟩) aE (Aa (Ad ⟨g,o,Ac⟩) 4 e1)).setOther (a:=⟨w+1,3,Ac⟩) aE (Aa B2 m2 e2)) rfl (J Ab 9) (J Ab 0) (J Ab 0) (J Ab 0);have RES3:=(((RES2.setOther (a:=⟨w+1+1,0,Ac⟩) aE.symm (J Ab 9)).setOther (a:=⟨w+1+1,1,Ac⟩) aE.symm (J Ab 0)).setOther (a:=⟨w+1+1,2,Ac⟩) aE.symm (J Ab 0)).setOther (a:=⟨w+1+1,3,Ac⟩) aE.symm (J Ab 0);refine Ak (Qd RES3 RP2) rfl ⟨(⟨Ad ⟨g,o,Ac⟩,4,e1⟩,⟨B2,m2,e2⟩),F,by rw [HF.out];rfl,by rw [HF.out];exact (by (repeat (refine Dt.ow_set Bu ?_ (by first | exact en1 | exact en2) _));exact (show Bu.ow _ F Zk (⟨Ad ⟨g,o,Ac⟩,4,e1⟩,⟨B2,m2,e2⟩) from oy)),fun x hx=>by have:=hF.out.1 x hx;omega,?_⟩;repeat (first | (with_reducible exact aJ) | refine Ae ?_ Bo _)
   | cons e rest =>
    obtain ⟨qD,⟨gK,qT⟩,bL⟩:=jS e (List.mem_cons_self ..);obtain ⟨pr,sq,rn,tk⟩:=e;dsimp only at qD gK qT bL;obtain ⟨t,rfl⟩:=Aq gK;rcases Ek Zk rn with eB | ⟨j,hj,eB⟩
    ·exact absurd qD Bl
    have bR:=Ey hj eB;rw [bR] at qT bL;have uD:j<y.runs.length:=by rw [<-aP.out.runs];exact hj
    have sJ:Hid (Gr Zk.runs[j]):=by
     have e:Zk.runs[j]=y.runs[j]:=by simp only [aP.out.runs]
     show Gr Zk.runs[j];rw [e];exact Er HP.out uD
    have HF:=Bq (HZ.out.trans (qR.out.trans (show _=((⟨Zk.now,Zk.seq,Zk.shelf.set home rest,Zk.runs.set j (De Zk.runs[j] t Zk.now)⟩:Yard),(⟨0,rn,t,(By Zk.runs[j] t).try_+1⟩:Reply)) by show Ug _ _ (_ :: _)=_;unfold Ug;dsimp only;rw [eB,bR,Ap,Ap])));have gI:=Bq (show 0<=Zk.now/\Zk.now<=999999980 by rw [aP.out.now];exact HP.out.1);have hrun8:Zk.runs.length<=8:=by rw [aP.out.runs];exact HP.out.2.2.2.2.2.2.1
    have dN:t<Zk.runs[j].tasks.length:=Bl;have sG:=Co dN;have nP:=Bq (show Db ⟨Zk.now,Zk.seq,Zk.shelf.set home rest,Zk.runs⟩ rn=j from (N5 (y:=Zk) rfl rn).trans eB);have qW:=Bq (show Cf ⟨Zk.now,Zk.seq,Zk.shelf.set home rest,Zk.runs⟩<=2000000 by
     have:=P9 (y:=⟨Zk.now,Zk.seq,Zk.shelf.set home rest,Zk.runs⟩) (M:=80) (by simpa using rS) (fun s hs=>by
      rcases List.mem_or_eq_of_mem_set hs with h | h
      ·exact aP.out.all s h
      ·subst h;simp at nR;omega) hrun8 (fun k hk=>by
       have bE:k<y.runs.length:=by rw [<-aP.out.runs];exact hk
       have e:Zk.runs[k]=y.runs[k]:=by simp only [aP.out.runs]
       show Gr Zk.runs[k];rw [e];exact Er HP.out bE)
     omega)
    clear HZ qR jS eB bR qD gK qT bL uD qU qP;replace ot:OwL Ch w2 Ft (Aa ta tn tc) rest:=ot;have eY:∀ x∈Ft,wr<=x/\x<w2:=fun x hx=>⟨nt x hx,ot.lt x hx⟩
    have EB:=DBox.new 71 [J Ab pr,J Ab sq,J Ab rn,J Ab (t:Int)] w2 (b:=w2) rfl;have EB0:Below w2 w2 (w2.alloc (.cells #[J Ab pr,J Ab sq,J Ab rn,J Ab (t:Int)] 71)):=Bt;go_upto_region 17 with fail
    replace oy:Bu.ow _ F Zk (⟨Ad ⟨g,o,Ac⟩,4,e1⟩,⟨B2,m2,e2⟩):=owB oy EB0;replace ot:=ot.below EB0;replace OB:=OB.below EB0;replace RES:=RES.below EB0;replace RP:=RP.below EB0;replace aJ:=Bv aJ EB0;clear nt EB0;generalize w2.alloc (.cells #[J Ab pr,J Ab sq,J Ab rn,J Ab (t:Int)] 71)=w3 at *
    have hebl:=EB.lt;generalize w2.heap.size=eb at *
    obtain ⟨OB_0,OB_1,OB_2,OB_3,OB_l⟩:=OB.g4;have EB_:=EB.g4;replace oy:Bu.ow w3 F Zk (⟨Ad ⟨g,o,Ac⟩,4,e1⟩,⟨B2,m2,e2⟩):=oy;have kA:∀ j,w3.frozen? ⟨g,j,Ac⟩=false:=by
     obtain ⟨G1,G2,_,_,os,_⟩:=oy;exact OwL.free0 (show OwL (Dt.list Ch) w3 G1 (Aa (Ad ⟨g,o,Ac⟩) 4 e1) Zk.shelf from os) Bl
    obtain ⟨_,_,⟨xa3,xn3,xc3⟩,cG,sM,_,ch⟩:=RdL.entryS (show RdL (Dt.list Ch) w3 w3.heap.size (Aa (Ad ⟨g,o,Ac⟩) 4 e1) Zk.shelf from (Bu.ow_rd (F:=F) (x:=Zk) oy).1) gZ;simp only [Option.some.injEq,Addr.mk.injEq,and_true] at cG;obtain ⟨rfl,rfl⟩:=cG;obtain ⟨F4,oy4,uU,eP⟩:=G7 oy gZ (l:=rest) (t:=⟨ta,tn,tc⟩) ot (fun x hx bF=>by have h1:=(eY x hx).1;have h2:=mR x bF;omega);go_upto_region 20 with fail
    have eK:Chg [g] w3 (w3.setCell ⟨g,o+home,Ac⟩ (Aa ta tn tc)):=Chg.setCell w3 g _ _;have bQ:=Bq (show ∀ x,x∈[g]->x=g from fun x hx=>by simpa using hx);have hgF2:=hF.out.1 g eP;have dY:ob≠g:=fun h=>hF.out.2.1 (by rw [h];exact eP);clear OB_0 OB_1 OB_2 OB_3 OB_l;clear EB_;replace OB:=OB.chg eK (fun hx=>dY (bQ.out _ hx));replace EB:=EB.chg eK (fun hx=>by have:=bQ.out _ hx;omega);replace RES:=RES.chg eK (fun hx=>by have:=bQ.out _ hx;omega);replace RP:=RP.chg eK (fun hx=>by have:=bQ.out _ hx;omega);have kH:=eK.size;replace aJ:=aJ.trans (eK.below (by have:=aJ.size;omega) (fun x hx=>by have:=bQ.out _ hx;omega));clear eK oy kA ch ot;generalize w3.setCell ⟨g,o+home,Ac⟩ (Aa ta tn tc)=w4 at *
    replace oy4:Bu.ow w4 F4 ⟨Zk.now,Zk.seq,Zk.shelf.set home rest,Zk.runs⟩ (⟨Ad ⟨g,o,Ac⟩,4,e1⟩,⟨B2,m2,e2⟩):=oy4;have gQ:∀ x∈F4,(x∈F\/(wr<=x/\x<eb)):=fun x hx=>(uU x hx).imp id (fun h=>eY x h);have CA:=Bq (fun W (hW:Below w4 w4 W)=>Ep ⟨Zk.now,Zk.seq,Zk.shelf.set home rest,Zk.runs⟩ (⟨Ad ⟨g,o,Ac⟩,4,e1⟩,⟨B2,m2,e2⟩) rn W qW.out (Bu.rd_more (Bu.rd_below (Bu.ow_rd (F:=F4) (x:=⟨Zk.now,Zk.seq,Zk.shelf.set home rest,Zk.runs⟩) oy4) hW) hW.size));rw [nP.out] at CA;have oyr:=(Bu.ow_rd (F:=F4) (x:=⟨Zk.now,Zk.seq,Zk.shelf.set home rest,Zk.runs⟩) oy4).2;have dW:m2=Zk.runs.length:=RdL.at1 (s:=⟨B2,m2,e2⟩) oyr;subst dW;have gL:(j:Int)<(Zk.runs.length:Int):=Bl;have bZ:(0:Int)<=(j:Int):=Bl;have hobw4:ob<w4:=OB.lt;have hebw4:eb<w4:=EB.lt;obtain ⟨gr0,orr0,-,rfl,hgrw0,-⟩:=RdL.run (show RdL Cn w4 w4.heap.size (Aa B2 Zk.runs.length e2) Zk.runs from oyr) hj;obtain ⟨OB_0,OB_1,OB_2,OB_3,OB_l⟩:=OB.g4;have EB_:=EB.g4;have aN:=Df w4;refine Bz Bm Bm ?_;repeat (go_big_quiet_step ((go_at_call 78;rename_i x;exact Fk (CA.out x.1 x.2))))
    refine wpQuiet_nil ?_;rintro w5 ⟨⟨_,b5⟩,rfl⟩;clear OB_0 OB_1 OB_2 OB_3 OB_l;clear EB_;replace OB:=OB.below b5;replace EB:=EB.below b5;replace RES:=RES.below b5;replace RP:=RP.below b5;replace aJ:=Bv aJ b5;replace oy4:Bu.ow w5 F4 ⟨Zk.now,Zk.seq,Zk.shelf.set home rest,Zk.runs⟩ (⟨Ad ⟨g,o,Ac⟩,4,e1⟩,⟨Ad ⟨gr0,orr0,Ac⟩,Zk.runs.length,e2⟩):=owB oy4 b5;have mK:=b5.size;clear b5 CA nP qW aN oyr;obtain ⟨G1,G2,sA,bI,osS,osR⟩:=oy4;replace osS:OwL (Dt.list Ch) w5 G1 (Aa (Ad ⟨g,o,Ac⟩) 4 e1) (Zk.shelf.set home rest):=osS;replace osR:OwL Cn w5 G2 (Aa (Ad ⟨gr0,orr0,Ac⟩) Zk.runs.length e2) Zk.runs:=osR;obtain ⟨gr,orr,rs,sr,Ga,Fx,Gb,hAe,hG2,hmr,F5_⟩:=osR.foc hj;simp only [Option.some.injEq,Addr.mk.injEq,and_true] at hAe;obtain ⟨rfl,rfl⟩:=hAe;generalize mP:Zk.runs[j]=r at *
    obtain ⟨Fp,gt,ot2,tc2,pQ,hnx,cN,op,oh,hgg,hgp⟩:=F5_.atRun Bl;obtain ⟨sr1,sr2⟩:=sr;obtain rfl:sr2=_:=cN;have pK:-1000000<=r.tasks[t].try_/\r.tasks[t].try_<=2000000000/\0<=r.plan.wait/\r.plan.wait<=2000000000:=by
     have h1:=sJ.out.2.2.2.1 t dN;have h2:=(Cs.1 sJ.out.2.1).1;simp only [Eg,Bool.and_eq_true] at h2;have h3:=Ct.1 h2.1.2;have h4:=Ct.1 h2.2;unfold Gz Ls at h1;rw [sG] at h1;omega
    have hmemF:gt∈F4/\gr0∈F4:=by
     rw [sA,hG2,pQ];exact ⟨Bn,Bn⟩
    have hdF:∀ x∈G1,x≠gt:=fun x hx e=>by
     rw [sA,Ay] at bI;exact bI.2.2 x hx gt (by rw [hG2,pQ];simp) e
    have gW:∀ x∈F4,w+1+1<x/\x≠ob/\x≠eb:=fun x hx=>by
     rcases gQ x hx with h1 | h1
     ·refine ⟨hF.out.1 x h1,fun e=>hF.out.2.1 (by rw [<-e];exact h1),fun e=>?_⟩
      have:=mR x h1
      omega
     ·omega
    have hgt4:=gW gt hmemF.1;have hgr5:=F5_.blk;have jX:(t:Int)<(r.tasks.length:Int):=Bl;have gK:(0:Int)<=(t:Int):=Bl;have hgtw:gt<w5:=(oh.block Bl).2.1;have nG:=(oh.block Bl).2.2;obtain ⟨c0,c1,c2,c3,c4,c5,c6,c7⟩:=F5_.run;have hobw5:ob<w5:=Bl;have hebw5:eb<w5:=Bl;obtain ⟨OB_0,OB_1,OB_2,OB_3,OB_l⟩:=OB.g4;have EB_:=EB.g4;have aN:=Df w5;go_upto_region 21 with fail
    refine Bz Bm Bm ?_;repeat (go_big_quiet_step (fail))
    refine wpQuiet_nil ?_;rintro w6 ⟨⟨_,b6⟩,rfl⟩;have hB6:Below w4 w4 w4:=Br _ _;replace F5_:=F5_.sub (w':=w6) (y:=r) (Chg.of_below _ b6) (Cn.ow_below (F:=Fx) (x:=r) (s:=(sr1,⟨Ad ⟨gt,ot2,Ac⟩,r.tasks.length,tc2⟩)) F5_.here b6) rfl;replace oh:=oh.below b6;replace op:=Ck.ow_below (F:=Fp) (x:=r.plan) (s:=sr1) op b6;replace osS:=osS.below b6;clear OB_0 OB_1 OB_2 OB_3 OB_l;clear EB_;replace OB:=OB.below b6;replace EB:=EB.below b6;replace RES:=RES.below b6;replace RP:=RP.below b6;replace aJ:=Bv aJ b6;have nY:=b6.size;clear c0 c1 c2 c3 c4 c5 c6 c7 aN b6 hB6 nG;have nG:=(oh.block Bl).2.2;have hgtw6:gt<w6:=Bl;have hgrw6:gr0<w6:=Bl;obtain ⟨_,_,cG,_,d0,d1,d2,d3⟩:=oh.rd.tsk dN;simp only [Option.some.injEq,Addr.mk.injEq,and_true] at cG;obtain ⟨rfl,rfl⟩:=cG;have hw24:Ab.wrap (r.tasks[t].try_+1)=r.tasks[t].try_+1:=Ar _ Bl;have hww:Ab.wrap (Zk.now+r.plan.wait)=Zk.now+r.plan.wait:=Ar _ (by have:=gI.out;omega);have eC:=(Chg.setCell w6 gt (ot2+t * 4) (J Ab 3)).trans (Chg.setCell _ gt (ot2+t * 4+2) (J Ab (r.tasks[t].try_+1)));have c3:w6.cell? ⟨gr0,orr0+j * 8+3,Ac⟩=Ad (J Ab r.plan.wait):=F5_.cells 3 _ rfl;have bQ:=Bq (show ∀ x,x∈[gt]->x=gt from fun x hx=>by simpa using hx);have e3:∀ W:World,Chg [gt] w6 W->W.cell? ⟨gr0,orr0+j * 8+3,Ac⟩=Ad (J Ab r.plan.wait):=fun W hW=>(hW.cell (p:=⟨gr0,_,Ac⟩) hgrw6 (fun hx=>hgg (bQ.out _ hx))).trans c3;have oh2:Hw Fz ((w6.setCell ⟨gt,ot2+t * 4,Ac⟩ (J Ab 3)).setCell ⟨gt,ot2+t * 4+2,Ac⟩ (J Ab (r.tasks[t].try_+1))) [gt] (Aa (Ad ⟨gt,ot2,Ac⟩) r.tasks.length tc2) (r.tasks.set t ⟨3,r.tasks[t].need,r.tasks[t].try_+1,r.tasks[t].until_⟩):=by
     have h1:=oh.part dN ⟨3,r.tasks[t].need,r.tasks[t].try_,r.tasks[t].until_⟩ 0 [J Ab 3] (show 0+1<=4 by omega) (fun i hi=>by simp at hi;subst hi;rfl) (fun i hi ho=>by
      have:i<4:=hi;rcases (show i=1\/i=2\/i=3 by simp at ho;omega) with rfl | rfl | rfl<;>rfl)
     have h2:=h1.part (j:=t) (by rw [Bh];exact dN) ⟨3,r.tasks[t].need,r.tasks[t].try_+1,r.tasks[t].until_⟩ 2 [J Ab (r.tasks[t].try_+1)] (show 2+1<=4 by omega) (fun i hi=>by simp at hi;subst hi;rfl) (fun i hi ho=>by
      have:i<4:=hi;rw [List.getElem_set_self];rcases (show i=0\/i=1\/i=3 by simp at ho;omega) with rfl | rfl | rfl<;>rfl)
     rw [List.set_set] at h2;exact h2
    go_upto_region 24 with fail
    generalize (w6.setCell ⟨gt,ot2+t * 4,Ac⟩ (J Ab 3)).setCell ⟨gt,ot2+t * 4+2,Ac⟩ (J Ab (r.tasks[t].try_+1))=w7 at *
    have OB7:=OB.chg eC (fun hx=>hgt4.2.1 (bQ.out _ hx).symm);have c37:=e3 w7 eC;have hs7:=eC.size;clear d0 d1 d2 d3 nG oh;refine Go.wp_region_noPanic ?_;refine wp_region_held_drew (S:=(fun w'=>DBox ob [J Ab Zk.now,J Ab Zk.seq,Aa (Ad ⟨g,o,Ac⟩) 4 e1,Aa (Ad ⟨gr0,orr0,Ac⟩) Zk.runs.length e2] w'/\w'.cell? ⟨gr0,orr0+j * 8+3,Ac⟩=Ad (J Ab r.plan.wait))) Bm ⟨DBox.drew4 OB7,c37⟩ (fun aA=>?_);replace oh2:=oh2.below (Br w7 w7).drew;replace eC:=eC.drew;have hs8:w7.drew.heap.size=w7.heap.size:=rfl;clear OB7 c37;generalize w7.drew=w8 at *
    refine tV 0 ?_
    (try simp only [pS])
    refine tV 1 ?_
    (try simp only [pS])
    refine tV 2 ?_
    (try simp only [pS])
    refine tV 3 ?_
    (try simp only [pS])
    refine tV 4 ?_
    (try simp only [pS])
    refine tV 5 ?_
    (try simp only [pS])
    refine tV 6 ?_
    (try simp only [pS])
    refine tV 7 ?_
    (try simp only [pS])
    refine tV 8 ?_
    (try simp only [pS])
    refine tV 9 ?_
    (try simp only [pS])
    refine tV 10 ?_
    (try simp only [pS])
    have eS:t<(r.tasks.set t ⟨3,r.tasks[t].need,r.tasks[t].try_+1,r.tasks[t].until_⟩).length:=by rw [Bh];exact dN
    obtain ⟨_,_,cG,_,d0,d1,d2,d3⟩:=oh2.rd.tsk eS;simp only [Option.some.injEq,Addr.mk.injEq,and_true] at cG;obtain ⟨rfl,rfl⟩:=cG;have nG:=(oh2.block (by rw [Bh];omega)).2.2;have jD:=Chg.setCell w8 gt (ot2+t * 4+3) (J Ab (Zk.now+r.plan.wait));refine rC 11 (fun K_ hK=>?_);go_simp;refine hK.out _ _ ⟨aA.1.chg jD (fun hx=>hgt4.2.1 (bQ.out _ hx).symm),e3 _ (eC.trans jD)⟩ (fun aA=>?_);clear hK K_ aA
    (try simp only [pS])
    refine wpAnyH_done Bm ?_ _;refine NoPanic.normal ?_;have oh3:=oh2.part (j:=t) eS ⟨3,r.tasks[t].need,r.tasks[t].try_+1,Zk.now+r.plan.wait⟩ 3 [J Ab (Zk.now+r.plan.wait)] (show 3+1<=4 by omega) (fun i hi=>by simp at hi;subst hi;rfl) (fun i hi ho=>by
     have:i<4:=hi;rw [List.getElem_set_self];rcases (show i=0\/i=1\/i=2 by simp at ho;omega) with rfl | rfl | rfl<;>rfl)
    rw [List.set_set] at oh3;replace oh3:Hw Fz (w8.setCell ⟨gt,ot2+t * 4+3,Ac⟩ (J Ab (Zk.now+r.plan.wait))) [gt] (Aa (Ad ⟨gt,ot2,Ac⟩) r.tasks.length tc2) (r.tasks.set t ⟨3,r.tasks[t].need,r.tasks[t].try_+1,Zk.now+r.plan.wait⟩):=oh3;replace eC:=eC.trans jD;have hE:=Bq (show De r t Zk.now=⟨r.id,r.plan,r.state,r.tasks.set t ⟨3,r.tasks[t].need,r.tasks[t].try_+1,Zk.now+r.plan.wait⟩⟩ by unfold De;rw [Ig dN]);clear d0 d1 d2 d3 nG oh2 jD;generalize w8.setCell ⟨gt,ot2+t * 4+3,Ac⟩ (J Ab (Zk.now+r.plan.wait))=w9 at *
    have hxm:∀ x∈[gt],x∈Fx:=fun x hx=>by rw [bQ.out x hx,pQ];simp
    replace op:=Ck.ow_chg (F:=Fp) (x:=r.plan) (s:=sr1) op eC (fun x hx h=>hgp (by rw [<-bQ.out x h];exact hx));have F9_:=F5_.sub (w':=w9) (y:=De r t Zk.now) (eC.mono hxm) (by
     rw [hE.out];exact ⟨Fp,[gt],pQ,hnx,op,Hf oh3⟩) (by rw [hE.out])
    have osR9:=F9_.owl hmr;rw [<-hG2] at osR9;have osS9:=osS.chg eC (fun x hx h=>hdF x hx (bQ.out x h));have oy8:Bu.ow w9 F4 ⟨Zk.now,Zk.seq,Zk.shelf.set home rest,Zk.runs.set j (De r t Zk.now)⟩ (⟨Ad ⟨g,o,Ac⟩,4,e1⟩,⟨Ad ⟨gr0,orr0,Ac⟩,Zk.runs.length,e2⟩):=⟨G1,G2,sA,bI,osS9,osR9⟩
    replace OB:=OB.chg eC (fun hx=>hgt4.2.1 (bQ.out _ hx).symm);replace EB:=EB.chg eC (fun hx=>hgt4.2.2 (bQ.out _ hx).symm);replace RES:=RES.chg eC (fun hx=>by have:=bQ.out _ hx;omega);replace RP:=RP.chg eC (fun hx=>by have:=bQ.out _ hx;omega);replace aJ:=aJ.trans (eC.below (by have:=aJ.size;omega) (fun x hx=>by have:=bQ.out _ hx;omega));have qS:t<(r.tasks.set t ⟨3,r.tasks[t].need,r.tasks[t].try_+1,Zk.now+r.plan.wait⟩).length:=by rw [Bh];exact dN
    obtain ⟨_,_,cG,_,-,-,cY,-⟩:=oh3.rd.tsk qS;simp only [Option.some.injEq,Addr.mk.injEq,and_true] at cG;obtain ⟨rfl,rfl⟩:=cG;rw [List.getElem_set_self] at cY;have vE:=eC.size;have hgt9:gt<w9:=Bl;have HFF:=Bq (show Ih y (wk:Int) d=((⟨Zk.now,Zk.seq,Zk.shelf.set home rest,Zk.runs.set j (De r t Zk.now)⟩:Yard),(⟨0,rn,t,r.tasks[t].try_+1⟩:Reply)) by rw [HF.out,sG]);have en1:w.heap.size+1∉F4:=fun hx=>by have:=(gW _ hx).1;omega
    have en2:w.heap.size+1+1∉F4:=fun hx=>by have:=(gW _ hx).1;omega
    have mE:∀ x∈F4,w<=x:=fun x hx=>by have:=(gW x hx).1;omega
    have gn1:gt≠w.heap.size+1:=Bl;have gn2:gt≠w.heap.size+1+1:=Bl;clear HF gQ eY uU mR sG hE oh3 op F9_ F5_ osR9 osS9 osS osR eC e3 c3 bI sA hG2 hmr hdF gW hmemF;go_upto_region 25 with fail
    refine Go.wp_region_noPanic ?_;refine wp_region_held_drew (S:=(fun w'=>DBox ob [J Ab Zk.now,J Ab Zk.seq,Aa (Ad ⟨g,o,Ac⟩) 4 e1,Aa (Ad ⟨gr0,orr0,Ac⟩) Zk.runs.length e2] w'/\DBox eb [J Ab pr,J Ab sq,J Ab rn,J Ab (t:Int)] w'/\w'.cell? ⟨gt,ot2+t * 4+2,Ac⟩=Ad (J Ab (r.tasks[t].try_+1)))) Bm ⟨DBox.drew4 OB,DBox.drew4 EB,cY⟩ (fun aA=>?_);replace oy8:Bu.ow w9.drew F4 ⟨Zk.now,Zk.seq,Zk.shelf.set home rest,Zk.runs.set j (De r t Zk.now)⟩ (⟨Ad ⟨g,o,Ac⟩,4,e1⟩,⟨Ad ⟨gr0,orr0,Ac⟩,Zk.runs.length,e2⟩):=owB oy8 (Br _ _).drew;replace RES:DBox _ _ w9.drew:=DBox.drew4 RES;replace RP:DBox _ _ w9.drew:=DBox.drew4 RP;replace aJ:=aJ.drew;have nC:w9.drew.heap.size=w9.heap.size:=rfl;rw [<-nC] at hgt9;clear OB EB cY nC;generalize w9.drew=w8d at *
    refine tV 0 ?_
    (try simp only [pS])
    refine tV 1 ?_
    (try simp only [pS])
    refine tV 2 ?_
    (try simp only [pS])
    refine tV 3 ?_
    (try simp only [pS])
    refine tV 4 ?_
    (try simp only [pS])
    refine tV 5 ?_
    (try simp only [pS])
    refine tV 6 ?_
    (try simp only [pS])
    refine tV 7 ?_
    (try simp only [pS])
    refine tV 8 ?_
    (try simp only [pS])
    refine tV 9 ?_
    (try simp only [pS])
    have RES_0:=RES.cell 0 _ rfl;have RES_1:=RES.cell 1 _ rfl;have RES_2:=RES.cell 2 _ rfl;have RES_3:=RES.cell 3 _ rfl;have rf:=RES.free;have cS:=Bq (show ∀ x,x∈[w.heap.size+1]->x=w.heap.size+1 from fun x hx=>by simpa using hx);have hm2':=Bq (show ∀ x,x∈[w.heap.size+1+1]->x=w.heap.size+1+1 from fun x hx=>by simpa using hx);have eR:=Chg.cells4 w8d (w+1) 0 1 2 3 (J Ab Zk.now) (J Ab Zk.seq) (Aa (Ad ⟨g,o,Ac⟩) 4 e1) (Aa (Ad ⟨gr0,orr0,Ac⟩) Zk.runs.length e2);refine rC 10 (fun K_ hK=>?_);go_simp;have vD:=eR.size;have RES2:=DBox.row4 RES rfl (J Ab Zk.now) (J Ab Zk.seq) (Aa (Ad ⟨g,o,Ac⟩) 4 e1) (Aa (Ad ⟨gr0,orr0,Ac⟩) Zk.runs.length e2);have RP2:=RP.chg eR (fun hx=>by have:=cS.out _ hx;omega);replace oy8:Bu.ow _ F4 ⟨Zk.now,Zk.seq,Zk.shelf.set home rest,Zk.runs.set j (De r t Zk.now)⟩ (⟨Ad ⟨g,o,Ac⟩,4,e1⟩,⟨Ad ⟨gr0,orr0,Ac⟩,Zk.runs.length,e2⟩):=owC oy8 eR (fun x hx hx2=>by have h1:=cS.out _ hx2;subst h1;exact en1 hx);replace aJ:=aJ.trans (eR.below (by have:=aJ.size;omega) (fun x hx=>by have:=cS.out _ hx;omega));refine hK.out _ _ ⟨aA.1.chg eR (fun hx=>by have:=cS.out _ hx;omega),aA.2.1.chg eR (fun hx=>by have:=cS.out _ hx;omega),(eR.cell (p:=⟨gt,_,Ac⟩) hgt9 (fun hx=>gn1 (cS.out _ hx))).trans aA.2.2⟩ (fun aA=>?_);clear hK K_ rf RES_0 RES_1 RES_2 RES_3 eR
    (try simp only [pS])
    generalize (((w8d.setCell ⟨w+1,0,Ac⟩ (J Ab Zk.now)).setCell ⟨w+1,1,Ac⟩ (J Ab Zk.seq)).setCell ⟨w+1,2,Ac⟩ (Aa (Ad ⟨g,o,Ac⟩) 4 e1)).setCell ⟨w+1,3,Ac⟩ (Aa (Ad ⟨gr0,orr0,Ac⟩) Zk.runs.length e2)=wA at *
    have RP_0:=RP2.cell 0 _ rfl;have RP_1:=RP2.cell 1 _ rfl;have RP_2:=RP2.cell 2 _ rfl;have RP_3:=RP2.cell 3 _ rfl;have pf:=RP2.free;have gB:=Chg.cells4 wA (w+1+1) 0 1 2 3 (J Ab 0) (J Ab rn) (J Ab (t:Int)) (J Ab (r.tasks[t].try_+1));refine rC 11 (fun K_ hK=>?_);go_simp;refine hK.out _ _ ⟨aA.1.chg gB (fun hx=>by have:=hm2'.out _ hx;omega),aA.2.1.chg gB (fun hx=>by have:=hm2'.out _ hx;omega),(gB.cell (p:=⟨gt,_,Ac⟩) (by show gt<wA;omega) (fun hx=>gn2 (hm2'.out _ hx))).trans aA.2.2⟩ (fun aA=>?_);clear hK K_ aA
    (try simp only [pS])
    refine wpAnyH_done Bm ?_ _;refine NoPanic.normal ?_;have RES3:=RES2.chg gB (fun hx=>by have:=hm2'.out _ hx;omega);have RP3:=DBox.row4 RP2 rfl (J Ab 0) (J Ab rn) (J Ab (t:Int)) (J Ab (r.tasks[t].try_+1));replace oy8:Bu.ow _ F4 ⟨Zk.now,Zk.seq,Zk.shelf.set home rest,Zk.runs.set j (De r t Zk.now)⟩ (⟨Ad ⟨g,o,Ac⟩,4,e1⟩,⟨Ad ⟨gr0,orr0,Ac⟩,Zk.runs.length,e2⟩):=owC oy8 gB (fun x hx hx2=>by have h1:=hm2'.out _ hx2;subst h1;exact en2 hx);replace aJ:=aJ.trans (gB.below (by have:=aJ.size;omega) (fun x hx=>by have:=hm2'.out _ hx;omega));clear RP_0 RP_1 RP_2 RP_3 pf;go_wp2;exact Ak (Qd RES3 RP3) rfl ⟨(⟨Ad ⟨g,o,Ac⟩,4,e1⟩,⟨Ad ⟨gr0,orr0,Ac⟩,Zk.runs.length,e2⟩),F4,by rw [HFF.out],by rw [HFF.out];exact oy8,mE,aJ⟩
theorem Ado (id:Int) (p:Nat) (e:Entry) (w:World) (X:DBox p [J Ab id] w) :
  Calls An 221 #[Io e (),.pointer (Ad ⟨p,0,Ac⟩)] w fun e' w'=>e' = .returned (.bool (e.run == id))/\Below w w w':=by
 have B0:Below w w (w.alloc (.cells #[J Ab e.prio,J Ab e.seq,J Ab e.run,J Ab e.task] 71)):=Bt;have E:=DBox.new 71 [J Ab e.prio,J Ab e.seq,J Ab e.run,J Ab e.task] w (b:=w) rfl;replace X:=X.below B0;obtain ⟨X_0,X_l⟩:=X.g1;have E_:=E.g4;go_enter func221,ntmps221;go_wp2;go_ret;exact ⟨rfl,B0⟩
theorem Z8 {a b:Entry} : D7 a b=true ↔ b.prio<a.prio\/(a.prio=b.prio/\a.seq<b.seq):=by
 unfold D7;simp
theorem Adp {a b c:Entry} (h:D7 a b=true) (k:D7 b c=true):D7 a c=true:=by
 rw [Z8] at *
 omega
theorem Adq {a b:Entry} (h:a.seq≠b.seq) (k:¬ D7 a b=true):D7 b a=true:=by
 rw [Z8] at *
 omega
abbrev Mq (l:List Entry):Prop:=l.Pairwise fun a b=>D7 a b=true
theorem Agv {l:List Entry} (h:Mq l):∀ i (h:i+1<l.length),D7 l[i] l[i+1]=true:=fun i hi=>List.pairwise_iff_getElem.1 h i (i+1) Bl hi Bl
theorem Z9 (l:List Entry) (e:Entry):(Ip l e).Perm (e :: l):=by
 unfold Ip;refine List.perm_middle.trans ?_;rw [List.takeWhile_append_dropWhile]
theorem Qy {α:Type} {p:α->Bool} : ∀ {l:List α} {x:α},x∈l.takeWhile p->p x=true
 | a :: l,x,h=>by
  rw [List.takeWhile_cons] at h;split at h
  ·rcases List.mem_cons.1 h with rfl | h
   ·assumption
   ·exact Qy h
  ·cases h
theorem Xu {l:List Entry} {e:Entry} (h:Mq l) (hs:∀ x∈l,x.seq≠e.seq):Mq (Ip l e):=by
 unfold Ip;have hl:=h;rw [<-List.takeWhile_append_dropWhile (p:=fun x=>D7 x e) (l:=l)] at hl;obtain ⟨h1,h2,h3⟩:=List.pairwise_append.1 hl;have hT:∀ x∈l.takeWhile (fun x=>D7 x e),D7 x e=true:=fun x hx=>Qy (p:=fun x=>D7 x e) hx;have hD:∀ x∈l.dropWhile (fun x=>D7 x e),D7 e x=true:=by
  intro x hx;cases hd:l.dropWhile (fun x=>D7 x e) with
  | nil=>rw [hd] at hx;cases hx
  | cons a d =>
   have ha:¬ D7 a e=true:=by
    have:=List.head_dropWhile_not (fun x=>D7 x e) (l:=l) (by rw [hd];simp)
    simp only [hd,List.head_cons] at this;simp [this]
   have ham:a∈l:=(List.dropWhile_suffix _).sublist.subset (by rw [hd];exact List.mem_cons_self ..);have h0:=Adq (hs a ham) ha;rw [hd] at hx h2;rcases List.mem_cons.1 hx with rfl | hx
   ·exact h0
   ·exact Adp h0 ((List.pairwise_cons.1 h2).1 x hx)
 refine List.pairwise_append.2 ?_;refine ⟨h1,List.Pairwise.cons hD h2,fun a ha b hb=>?_⟩;rcases List.mem_cons.1 hb with rfl | hb
 ·exact hT a ha
 ·exact h3 a ha b hb
theorem Xv:∀ (b a:List Entry),Mq a->((a ++ b).map (·.seq)).Nodup->Mq (b.foldl Ip a)/\(b.foldl Ip a).Perm (a ++ b)
 | [],a,h,_=>⟨h,Bn⟩
 | e :: b,a,h,hn=>by
  rw [List.foldl_cons];have hp:(Ip a e ++ b).Perm (a ++ e :: b):=by
   refine ((Z9 a e).append_right b).trans ?_;rw [List.cons_append];exact List.perm_middle.symm
  have h1:=Xv b (Ip a e) (Xu h (fun x hx he=>by
   rw [List.map_append,List.map_cons,Ay] at hn;exact hn.2.2 _ (List.mem_map_of_mem hx) _ (List.mem_cons_self ..) he)) ((hp.map _).nodup_iff.2 hn)
  exact ⟨h1.1,h1.2.trans hp⟩
theorem Ae0 {a b:List Entry} (h:Mq a) (hn:((a ++ b).map (·.seq)).Nodup) (hl:a.length+b.length<=80):Mq (Gp a b)/\(Gp a b).Perm (a ++ b):=by
 unfold Gp;rw [if_neg Bl];exact Xv b a h hn
theorem Pk {α:Type} (s:List (List α)) (i:Nat) (hi:i<s.length):∃ R,s.flatten.Perm (s[i] ++ R) /\ ∀ l',(s.set i l').flatten.Perm (l' ++ R):=by
 refine ⟨(s.take i).flatten ++ (s.drop (i+1)).flatten,?_,fun l'=>?_⟩
 ·have e:s=s.take i ++ s[i] :: s.drop (i+1):=by rw [List.getElem_cons_drop hi,List.take_append_drop]
  have:s.flatten=(s.take i).flatten ++ (s[i] ++ (s.drop (i+1)).flatten):=by
   conv=>lhs;rw [e]
   rw [List.flatten_append,List.flatten_cons]
  rw [this];exact List.perm_append_comm_assoc _ _ _
 ·rw [List.set_eq_take_append_cons_drop,if_pos hi,List.flatten_append,List.flatten_cons];exact List.perm_append_comm_assoc _ _ _
structure Shelves (s:List (List Entry)):Prop where
 four:s.length=4
 sort:∀ l∈s,Mq l
theorem Shelves.set {s:List (List Entry)} (h:Shelves s) {l:List Entry} (hl:Mq l) (i:Nat):Shelves (s.set i l) :=
 ⟨by rw [Bh];exact h.four,fun x hx=>by rcases List.mem_or_eq_of_mem_set hx with h1 | rfl;exact h.sort x h1;exact hl⟩
theorem Shelves.at_ {s:List (List Entry)} (h:Shelves s) (i:Nat):Mq (s.getD i []):=by
 rw [List.getD_eq_getElem?_getD];cases q:s[i]? with
 | none=>exact List.Pairwise.nil
 | some l=>exact h.sort l (List.mem_of_getElem? q)
def Nu (s:Int) (r:Run):List Nat->List Entry
 | []=>[]
 | t :: L=>⟨r.plan.prio,s,r.id,t⟩ :: Nu (s+1) r L
theorem Ir {r:Run} : ∀ {L:List Nat} {s:Int} {e:Entry},e∈Nu s r L->e.prio=r.plan.prio/\e.run=r.id/\s<=e.seq/\e.seq<s+L.length /\ ∃ t∈L,e.task=(t:Int)
 | [],_,_,h=>by cases h
 | t :: L,s,e,h=>by
  rcases List.mem_cons.1 h with rfl | h
  ·refine ⟨rfl,rfl,Int.le_refl _,?_,t,List.mem_cons_self ..,rfl⟩;simp only [List.length_cons];omega
  ·obtain ⟨h1,h2,h3,h4,u,hu,h5⟩:=Ir h;refine ⟨h1,h2,Bl,?_,u,List.mem_cons_of_mem _ hu,h5⟩;simp only [List.length_cons];omega
theorem Xw (r:Run):∀ (L:List Nat) (s:Int),(Nu s r L).length=L.length
 | [],_=>rfl
 | t :: L,s=>by simp [Nu,Xw r L (s+1)]
theorem Ri (r:Run):∀ (L:List Nat) (s:Int),((Nu s r L).map (·.seq)).Nodup
 | [],_=>List.nodup_nil
 | t :: L,s=>by
  simp only [Nu,List.map_cons,List.nodup_cons];refine ⟨fun h=>?_,Ri r L (s+1)⟩;obtain ⟨e,he,h1⟩:=List.mem_map.1 h
  have:=(Ir he).2.2.1
  omega
theorem Tm (r:Run) (t:Nat):∀ (L:List Nat) (s:Int),L.Nodup->Ec r.id t (Nu s r L)=if t∈L then 1 else 0
 | [],_,_=>rfl
 | u :: L,s,hn=>by
  obtain ⟨h1,h2⟩:=List.nodup_cons.1 hn;have ih:=Tm r t L (s+1) h2;unfold Ec at *
  by_cases e:u=t
  ·subst e;simp [Nu,Gy,ih,h1]
  ·have e':¬ t=u:=fun h=>e h.symm;have e2:¬ ((u:Int)=(t:Int)):=Bl;simp [Nu,Gy,ih,e',e2]
theorem Xx {r:Run} {id:Int} (h:id≠r.id) (t:Nat) (L:List Nat) (s:Int):Ec id t (Nu s r L)=0:=by
 unfold Ec;rw [List.length_eq_zero_iff,List.filter_eq_nil_iff];intro e he hm;unfold Gy at hm;simp at hm;exact h (hm.1.symm.trans (Ir he).2.1)
theorem Xy (r:Run):∀ (L:List Nat) (y:Yard),Shelves y.shelf->(∀ e∈y.shelf.flatten,e.seq<y.seq) ->
  Shelves (L.foldl (fun y t=>J4 y r t) y).shelf/\(L.foldl (fun y t=>J4 y r t) y).shelf.flatten.Perm (Nu y.seq r L ++ y.shelf.flatten)
 | [],y,h,_=>⟨h,by simp [Nu]⟩
 | t :: L,y,h,hs=>by
  rw [List.foldl_cons];have h4:Cz r.id<y.shelf.length:=by rw [h.four];exact Q6 _
  have hg:y.shelf.getD (Cz r.id) []=y.shelf[Cz r.id]:=by rw [List.getD_eq_getElem?_getD,List.getElem?_eq_getElem h4];rfl
  obtain ⟨R,hR,hS⟩:=Pk y.shelf (Cz r.id) h4;have hp:(J4 y r t).shelf.flatten.Perm (⟨r.plan.prio,y.seq,r.id,t⟩ :: y.shelf.flatten):=by
   unfold J4;refine (hS _).trans ?_;rw [hg];refine ((Z9 _ _).append_right R).trans ?_;rw [List.cons_append];exact hR.symm.cons _
  have h1:=Xy r L (J4 y r t) (by
   unfold J4;refine h.set (Xu (h.at_ _) (fun x hx e=>?_)) _;rw [hg] at hx
   have:=hs x (hR.mem_iff.2 (List.mem_append_left _ hx))
   dsimp only at e;omega) (fun e he=>by
   show e.seq<y.seq+1;rcases List.mem_cons.1 (hp.mem_iff.1 he) with rfl | he
   ·show y.seq<y.seq+1;omega
   ·have:=hs e he;omega)
  refine ⟨h1.1,h1.2.trans ?_⟩;show (Nu (y.seq+1) r L ++ _).Perm (_ :: Nu (y.seq+1) r L ++ _);exact (hp.append_left _).trans List.perm_middle
theorem Ju (r:Run):Dc r=r.plan.edges.length+r.tasks.length:=by
 have e1:Hi r.plan=r.plan.edges.length:=Hz (fun _=>rfl) _;have e2:Kv Ix r.tasks=r.tasks.length:=Hz (fun _=>rfl) _;unfold Dc;omega
theorem Mr {y:Yard} {M:Nat} (h4:y.shelf.length=4) (hM:∀ s∈y.shelf,s.length<=M) (h8:y.runs.length<=8) (hr:∀ r∈y.runs,Dc r<=42):Cf y<=4 * (M+1)+344:=by
 have h1:Kv Dp y.shelf<=y.shelf.length * (M+1):=Sk (fun s hs=>by
  have e:Dp s=s.length:=Hz (fun _=>rfl) _;rw [e];exact hM s hs)
 have h2:Kv Dc y.runs<=y.runs.length * (42+1):=Sk hr;rw [h4] at h1;have h3:y.runs.length * (42+1)<=8 * 43:=Nat.mul_le_mul_right _ h8;unfold Cf;omega
theorem Fu {y:Yard} (h:Dn y):∀ r∈y.runs,Dc r<=42:=fun r hr=>by
 obtain ⟨k,hk,rfl⟩:=List.getElem_of_mem hr
 exact K7 (Er h hk)
theorem Adr {y:Yard} {k:Nat} {r:Run} (hy:Dn y) (hk:k<y.runs.length) (hc:Dc r<=42) (hT:r.tasks.length<=12):Cf (E0 y k r)<=2000000:=by
 rw [Zw _ _ _ hk];have hF:=Rf (y:=⟨y.now,y.seq,y.shelf,y.runs.set k r⟩) (was:=y.runs[k]) (r:=r) (M:=80) (fun s hs=>(hy.2.2.2.1 s hs).1) r.tasks.length
 have:=Mr (M:=92) (hF.len.trans hy.2.2.1) (fun s hs=>by have:=hF.all s hs;omega) (by rw [hF.runs];simp;exact hy.2.2.2.2.2.2.1) (fun x hx=>by
  rw [hF.runs] at hx;rcases List.mem_or_eq_of_mem_set hx with h | h
  ·exact Fu hy x h
  ·rw [h];exact hc)
 omega
theorem Trn.folds {y:Yard} (hy:Dn y):∀ (l:List (Nat×Nat)) (z:Yard) (m:Nat),Trn y m z->(∀ p∈l,p.1<y.runs.length/\p.2<(Gg y p.1).tasks.length)->Trn y (m+l.length) (Ej z l)
 | [],z,m,h,_=>h
 | p :: l,z,m,h,hl=>by
  have hp:=hl p (List.mem_cons_self ..);have hk:p.1<z.runs.length:=by rw [h.len];exact hp.1
  have h1:=h.fail hk (t:=p.2) (by rw [(h.run p.1 hk hp.1).2.2,<-Ee hp.1];exact hp.2);have h2:=Trn.folds hy l (Gh z p.1 p.2) (m+1) h1 (fun q hq=>hl q (List.mem_cons_of_mem _ hq));rw [List.length_cons,show m+(l.length+1)=m+1+l.length by omega];exact h2
theorem Xz {y:Yard} {n:Nat} {p:Nat×Nat} (h:p∈Ik y n):p.1<n/\p.2<(Gg y p.1).tasks.length:=by
 unfold Ik at h;obtain ⟨j,hj,hp⟩:=List.mem_flatMap.1 h;unfold J6 at hp;obtain ⟨t,ht,rfl⟩:=List.mem_map.1 hp;exact ⟨List.mem_range.1 hj,List.mem_range.1 ht⟩
theorem Rj {y:Yard} (h:∀ j,(Gg y j).tasks.length<=12):∀ k,(Ik y k).length<=12 * k
 | 0=>by simp [Ik]
 | k+1=>by
  rw [Pj,List.length_append];have h1:=Rj h k;have h3:=h k;have h2:(J6 k (Gg y k).tasks.length).length=(Gg y k).tasks.length:=by unfold J6;simp
  omega
theorem Ae1 {y:Yard} {id tk tr:Int} (q:G6 y id tk tr=0):Dn y /\ ∃ k,∃ hk:k<y.runs.length,Db y id=(k:Int)/\Ij y id=y.runs[k]:=by
 unfold G6 at q;by_cases p0:Dn y
 ·by_cases p1:Db y id<0
  ·rw [if_neg (fun h=>h p0),if_pos p1] at q;cases q
  ·rcases Ek y id with hr | ⟨k,hk,hr⟩
   ·omega
   ·exact ⟨p0,k,hk,hr,Ey hk hr⟩
 ·rw [if_pos p0] at q;cases q
theorem Abm {y:Yard} {d:Deed} (h:Cf y<=2000000):Cf (doO y d).1<=2000000:=by
 unfold doO;split
 ·exact h
 split
 ·show Cf (I8 y d.run d.plan)<=_;unfold I8;split
  ·next q =>
   unfold Jc at q;by_cases p0:Dn y
   ·rw [if_neg (fun h=>h p0)] at q;split at q
    ·cases q
    split at q
    ·cases q
    split at q
    ·next hf=>exact absurd q hf
    next hf =>
    split at q
    ·cases q
    next hr =>
    have hf0:Cr d.plan=0:=Classical.not_not.1 hf;have hm:=Cs.1 hf0;have hT:=Dx hm.1;have hE:=Es hm.1;have mQ:=Hs d.run d.plan;have rE:y.runs.length<8:=by
     have kC:Kr y d.plan=true:=by cases e:Kr y d.plan<;>simp_all
     unfold Kr at kC;simp only [Bool.and_eq_true,decide_eq_true_eq] at kC;exact kC.1
    have hF:=Rf (y:=⟨y.now,y.seq,y.shelf,y.runs ++ [Ce d.run d.plan]⟩) (was:=Eh) (r:=Ce d.run d.plan) (M:=80) (fun s hs=>(p0.2.2.2.1 s hs).1) (Ce d.run d.plan).tasks.length
    have:=Mr (y:=Ly ⟨y.now,y.seq,y.shelf,y.runs ++ [Ce d.run d.plan]⟩ Eh (Ce d.run d.plan)) (M:=92) (hF.len.trans p0.2.2.1) (fun s hs=>by have:=hF.all s hs;omega) (by
     show (I6 _ _ _ _).runs.length<=8;rw [hF.runs];simp;omega) (fun x hx=>by
     have eE:x∈(I6 ⟨y.now,y.seq,y.shelf,y.runs ++ [Ce d.run d.plan]⟩ Eh (Ce d.run d.plan) (Ce d.run d.plan).tasks.length).runs:=hx;rw [hF.runs] at eE;rcases Bi.1 eE with h1 | h1
     ·exact Fu p0 x h1
     ·rw [List.mem_singleton.1 h1,Ju];show d.plan.edges.length+_<=42;omega)
    omega
   ·rw [if_pos p0] at q;cases q
  ·exact h
 ·show Cf (Ih y d.worker d.draw).1<=_;unfold Ih;by_cases p0:Dn y;case neg=>rw [if_pos p0];exact h
  rw [if_neg (fun h=>h p0)];split
  ·exact h
  ·next hw =>
   have kV:=Ct.1 (show inB d.worker 0 99=true by cases e:inB d.worker 0 99<;>simp_all);have hh:(d.worker % 4).toNat<4:=Bl;have hP:Pol y (d.worker % 4).toNat (J5 y (d.worker % 4) d.draw):=by
    unfold J5;refine Pol.fold hh _ _ (Pol.start p0 hh) (fun v hv=>⟨N6 v hv,N7 Bl Bl v hv⟩)
   have hc:=hP.cnt p0;unfold Mx Ug;split
   ·exact hc
   ·next e rest rU =>
    have h80:∀ s∈(J5 y (d.worker % 4) d.draw).shelf.set (d.worker % 4).toNat rest,s.length<=80:=fun s hs=>by
     rcases List.mem_or_eq_of_mem_set hs with h1 | h1
     ·exact hP.all s h1
     ·have h2:=hP.all _ (Ax (show (d.worker % 4).toNat<(J5 y (d.worker % 4) d.draw).shelf.length by rw [hP.four];exact hh));rw [Gf (by rw [hP.four];exact hh)] at rU;rw [rU] at h2;rw [h1];simp at h2;omega
    have:=Mr (y:=⟨(J5 y (d.worker % 4) d.draw).now,(J5 y (d.worker % 4) d.draw).seq,(J5 y (d.worker % 4) d.draw).shelf.set (d.worker % 4).toNat rest,(J5 y (d.worker % 4) d.draw).runs.set (Db (J5 y (d.worker % 4) d.draw) e.run).toNat (De (Ij (J5 y (d.worker % 4) d.draw) e.run) e.task.toNat (J5 y (d.worker % 4) d.draw).now)⟩) (M:=80) (by simpa using hP.four) h80 (by simp;rw [hP.runs];exact p0.2.2.2.2.2.2.1) (fun x hx=>by
     rcases List.mem_or_eq_of_mem_set hx with h1 | h1
     ·rw [hP.runs] at h1;exact Fu p0 x h1
     ·rw [h1,Ju,N9];show (Ij (J5 y (d.worker % 4) d.draw) e.run).plan.edges.length+_<=42;rw [<-Ju];unfold Ij;rw [List.getD_eq_getElem?_getD];cases q:(J5 y (d.worker % 4) d.draw).runs[(Db (J5 y (d.worker % 4) d.draw) e.run).toNat]? with
      | none=>decide
      | some r =>
       have h2:=List.mem_of_getElem? q;rw [hP.runs] at h2;exact Fu p0 r h2)
    dsimp only;omega
 ·show Cf (Kc y d.run d.task d.try_)<=_;unfold Kc;split
  ·next q =>
   obtain ⟨p0,k,hk,e1,e2⟩:=Ae1 q;rw [e1,e2,Ap];have hs:=Fu p0 _ (Ax hk);have hl:=D4 (Er p0 hk);exact Adr p0 hk (by rw [Ju,Ns];rw [Ju] at hs;exact hs) (by rw [Ns];exact hl.2)
  ·exact h
 ·show Cf (Ka y d.run d.task d.try_)<=_;unfold Ka;split
  ·next q =>
   obtain ⟨p0,k,hk,e1,e2⟩:=Ae1 q;rw [e1,e2,Ap];have hs:=Fu p0 _ (Ax hk);have hl:=D4 (Er p0 hk);exact Adr p0 hk (by rw [Ju,Hd,(K6 _ _).2];rw [Ju] at hs;exact hs) (by rw [Hd];exact hl.2)
  ·exact h
 ·show Cf (Iw y)<=_;unfold Iw;split
  ·next q =>
   unfold J1 at q;by_cases p0:Dn y
   ·have hT:=Trn.folds p0 (E7 y y.runs.length) y 0 (Trn.start p0) (fun p hp=>Qc hp);have hl:=La (Nt p0) y.runs.length;have h8:=p0.2.2.2.2.2.2.1;exact hT.cnt Bl
   ·rw [if_pos p0] at q;cases q
  ·exact h
 ·show Cf (Hy y d.run)<=_;unfold Hy;split
  ·next q =>
   unfold Il at q;by_cases p0:Dn y
   ·rw [if_neg (fun h=>h p0)] at q;split at q
    ·cases q
    next hr =>
    rcases Ek y d.run with e | ⟨k,hk,e⟩
    ·omega
    ·have cZ:=Ey hk e
     have:=Mr (y:=⟨y.now,y.seq,y.shelf,y.runs.set (Db y d.run).toNat (C8 (Ij y d.run) 4)⟩) (M:=80) p0.2.2.1 (fun s hs=>(p0.2.2.2.1 s hs).1) (by simp;exact p0.2.2.2.2.2.2.1) (fun x hx=>by
      rcases List.mem_or_eq_of_mem_set hx with h1 | h1
      ·exact Fu p0 x h1
      ·have hs:=Fu p0 _ (Ax hk);rw [Ju] at hs;rw [h1,cZ,Ju];show y.runs[k].plan.edges.length+(y.runs[k].tasks.map Dj).length<=42;rw [List.length_map];exact hs)
     omega
   ·rw [if_pos p0] at q;cases q
  ·exact h
 ·show Cf (Im y d.run)<=_;unfold Im;split
  ·next q =>
   unfold Iv at q;by_cases p0:Dn y
   ·have:=Mr (y:=⟨y.now,y.seq,y.shelf.map (Dg d.run),y.runs.take (Db y d.run).toNat ++ y.runs.drop ((Db y d.run).toNat+1)⟩) (M:=80) (by simp;exact p0.2.2.1) (fun s hs=>by
     obtain ⟨l,hl,rfl⟩:=List.mem_map.1 hs;exact Nat.le_trans (List.length_filter_le _ _) (p0.2.2.2.1 l hl).1) (by have:=p0.2.2.2.2.2.2.1;simp;omega) (fun x hx=>by
     rcases Bi.1 hx with h1 | h1
     ·exact Fu p0 x (List.mem_of_mem_take h1)
     ·exact Fu p0 x (List.mem_of_mem_drop h1))
    omega
   ·rw [if_pos p0] at q;cases q
  ·exact h
 ·show Cf (Kx y)<=_;unfold Kx;split
  ·next p0 =>
   have hT:=Trn.folds p0 (Ik y y.runs.length) y 0 (Trn.start p0) (fun p hp=>Xz hp);have hl:=Rj (Nt p0) y.runs.length;have h8:=p0.2.2.2.2.2.2.1;exact hT.cnt Bl
  ·exact h
end Go.Proofs.YtecnbnbopcblgaaGreat
