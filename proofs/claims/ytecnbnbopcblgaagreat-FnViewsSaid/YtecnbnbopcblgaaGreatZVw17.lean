/-
  Do of the program. Written by program (ido.py). Deeds are drawn, and the yard behind them (l16Deeds). What a deed leaves of a yard (plain): what becomes of a ri
-/
import Derived.Test.YtecnbnbopcblgaaGreatZVw0
import Derived.Test.YtecnbnbopcblgaaGreatZVw3
import Derived.Test.YtecnbnbopcblgaaGreatZVw7
import Derived.Test.YtecnbnbopcblgaaGreatZVw8
import Derived.Test.YtecnbnbopcblgaaGreatZVw14
import Derived.Test.YtecnbnbopcblgaaGreatZVw15
import Derived.Test.YtecnbnbopcblgaaGreatZVw16
namespace Go.Proofs.YtecnbnbopcblgaaGreat
open Go.RowKit
set_option maxRecDepth 100000
set_option maxHeartbeats 4000000
set_option linter.unusedVariables false
set_option linter.unusedSimpArgs false
open Value renaming int->J,slice->Aa
open IntKind renaming i64->Ab
open Option renaming none->Ac,some->Ad
open Below renaming setCell->Ae
open Nat renaming le_trans->Ai
open Go renaming bodyPost_ret->Ak
open Go.Proofs.Tryz renaming prog->An
open Int renaming toNat_natCast->Ap,eq_ofNat_of_zero_le->Aq
open List renaming length_map->Au,mem_singleton->Aw,getElem_mem->Ax,nodup_append->Ay,length_append->Bd,mem_append_right->Be,mem_append_left->Bf,length_set->Bh,mem_append->Bi
open Go.Proofs.Tryz
theorem Abp {b c:Nat} {w:World} {u0 u1 u2 u3 v0 v1 v2 v3:Value} (X:DBox b [u0,u1,u2,u3] w) (Y:DBox c [v0,v1,v2,v3] w) {x0 x1 x2 x3:Value} {rest:List Value} :
  (results Tryz.f70 (x0 :: x1 :: x2 :: x3 :: .pointer (Ad ⟨b,0,Ac⟩) :: .pointer (Ad ⟨c,0,Ac⟩) :: rest).toArray).run An w = .ok (.tuple #[.agg #[u0,u1,u2,u3],.agg #[v0,v1,v2,v3]]) w:=by
 have c0:=X.cell 0 _ rfl;have c1:=X.cell 1 _ rfl;have c2:=X.cell 2 _ rfl;have c3:=X.cell 3 _ rfl;have d0:=Y.cell 0 _ rfl;have d1:=Y.cell 1 _ rfl;have d2:=Y.cell 2 _ rfl;have d3:=Y.cell 3 _ rfl;simp [results,results70,go_sem,c0,c1,c2,c3,d0,d1,d2,d3]
theorem Ae2 (y:Yard) (s:Sl×Sl) (d:Deed) (sd:Sl) (w:World) (hl:Cf y<=2000000) (hp:d.plan.edges.length<=2000000) (h:Bu.rd w w y s) (pT:Fb.rd w w d sd) :
  Calls An 70 #[Dh y s,Dw d sd] w (Vp (doO y d) w):=by
 obtain ⟨⟨A1,n1,c1⟩,⟨A2,n2,c2⟩⟩:=s;obtain ⟨A3,n3,c3⟩:=sd;have sH:Ck.rd w w d.plan ⟨A3,n3,c3⟩:=pT;obtain rfl:n3=d.plan.edges.length:=RdL.at1 (s:=⟨A3,n3,c3⟩) sH;have HR:=Bq (show ∀ W,Below w w W->Bu.rd W W y (⟨A1,n1,c1⟩,⟨A2,n2,c2⟩) from fun W hW=>Bu.rd_more (Bu.rd_below h hW) hW.size);have HP:=Bq (show ∀ W,Below w w W->Ck.rd W W d.plan ⟨A3,d.plan.edges.length,c3⟩ from fun W hW=>Ck.rd_more (Ck.rd_below sH hW) hW.size);have CD:=Bq (fun W (hW:Below w w W)=>W0 d ⟨A3,d.plan.edges.length,c3⟩ W (by show Hi d.plan<=_;rw [show Hi d.plan=d.plan.edges.length from Hz (fun _=>rfl) _];exact hp) (Fb.rd_more (Fb.rd_below pT hW) hW.size));have CC:=Bq (fun W hW=>Gj y (⟨A1,n1,c1⟩,⟨A2,n2,c2⟩) W hl (HR.out W hW));have CY:=Bq (fun W hW=>G8 y (⟨A1,n1,c1⟩,⟨A2,n2,c2⟩) W hl (HR.out W hW));clear h pT sH;obtain ⟨kd,rn,p,tk,ty,wk,dr⟩:=d;replace hp:p.edges.length<=2000000:=hp;replace HP:Hid (∀ W,Below w w W->Ck.rd W W p ⟨A3,p.edges.length,c3⟩):=HP;obtain ⟨W,aG,X,D,RES,RP,B0⟩:=bx4 w 31 [J Ab y.now,J Ab y.seq,Aa A1 n1 c1,Aa A2 n2 c2] 45 [J Ab kd,J Ab rn,J Ab p.prio,J Ab p.most,J Ab p.wait,J Ab p.tasks,Aa A3 p.edges.length c3,J Ab tk,J Ab ty,J Ab wk,J Ab dr] 31 [J Ab 0,J Ab 0,Aa Ac 0 0,Aa Ac 0 0] 84 [J Ab 0,J Ab 0,J Ab 0,J Ab 0];go_enter func70,ntmps70;go_wp2_with fail
 rw [<-aG.out];clear aG;have uV:w.heap.size+1+1+1<W.heap.size:=RP.lt;refine (CD.out _ B0).mono ?_;rintro e1 w1 ⟨rfl,b1⟩;replace X:=X.below b1;replace D:=D.below b1;replace RES:=RES.below b1;replace RP:=RP.below b1;have bG:=b1.size;replace B0:=Bv B0 b1;clear b1 CD;have X_:=X.g4;have D_:=D.g11;cases hd:Dq ⟨kd,rn,p,tk,ty,wk,dr⟩;case false =>
  have H:=Bq (show doO y ⟨kd,rn,p,tk,ty,wk,dr⟩=(y,⟨5,0,0,0⟩) from if_pos hd);clear hd;go_wp2_with fail
  refine (CC.out _ B0).mono ?_;rintro e2 w2 ⟨s2,F,rfl,oy,nF,b2⟩;have cB:∀ x∈F,w+1+1+1<x:=fun x hx=>by have h1:=nF x hx;omega
  clear X_;clear D_;clear X D;replace RES:=RES.below b2;replace RP:=RP.below b2;replace B0:=Bv B0 b2;clear nF b2;obtain ⟨RES_0,RES_1,RES_2,RES_3,RES_l⟩:=RES.g4;obtain ⟨RP_0,RP_1,RP_2,RP_3,RP_l⟩:=RP.g4;have rf:=RES.free;have pf:=RP.free;have aE:w.heap.size+1+1+1≠w.heap.size+1+1:=Bl;go_wp2;have RES2:=DBox.row4 RES rfl (J Ab y.now) (J Ab y.seq) (Aa s2.1.a s2.1.n s2.1.c) (Aa s2.2.a s2.2.n s2.2.c);have RP2:=DBox.row4 ((((RP.setOther (a:=⟨w+1+1,0,Ac⟩) aE (J Ab y.now)).setOther (a:=⟨w+1+1,1,Ac⟩) aE (J Ab y.seq)).setOther (a:=⟨w+1+1,2,Ac⟩) aE (Aa s2.1.a s2.1.n s2.1.c)).setOther (a:=⟨w+1+1,3,Ac⟩) aE (Aa s2.2.a s2.2.n s2.2.c)) rfl (J Ab 5) (J Ab 0) (J Ab 0) (J Ab 0);have RES3:=((((RES2.setOther (a:=⟨w+1+1+1,0,Ac⟩) aE.symm (J Ab 5)).setOther (a:=⟨w+1+1+1,1,Ac⟩) aE.symm (J Ab 0)).setOther (a:=⟨w+1+1+1,2,Ac⟩) aE.symm (J Ab 0)).setOther (a:=⟨w+1+1+1,3,Ac⟩) aE.symm (J Ab 0))
  have en1:w.heap.size+1+1∉F:=fun hx=>by have:=cB _ hx;omega
  have en2:w.heap.size+1+1+1∉F:=fun hx=>by have:=cB _ hx;omega
  refine Ak (Abp RES3 RP2) rfl ⟨s2,F,by rw [H.out],by rw [H.out];exact (by (repeat (refine Dt.ow_set Bu ?_ (by first | exact en1 | exact en2) _));exact (show Bu.ow _ F y s2 from oy)),fun x hx=>by have:=cB x hx;omega,?_⟩;repeat (first | (with_reducible exact B0) | refine Ae ?_ Bo _)
 replace hd:=Bq hd;have hkd:=Ct.1 (Uk hd.out);dsimp only at hkd;clear CC;have b2:Below w1 w1 ((w1.alloc (.cells #[J Ab 0,J Ab 0,Aa Ac 0 0,Aa Ac 0 0] 31)).alloc (.cells #[J Ab 0,J Ab 0,J Ab 0,J Ab 0] 84)):=(Bt).alloc Bn _;have OB:=(DBox.new 31 [J Ab 0,J Ab 0,Aa Ac 0 0,Aa Ac 0 0] w1 (b:=w1) rfl).below ((Br _ _).alloc (Bs _) (.cells #[J Ab 0,J Ab 0,J Ab 0,J Ab 0] 84));have RR:=DBox.new 84 [J Ab 0,J Ab 0,J Ab 0,J Ab 0] (w1.alloc (.cells #[J Ab 0,J Ab 0,Aa Ac 0 0,Aa Ac 0 0] 31)) (b:=w1+1) Bn;go_upto_region 5 with fail
 clear X_;clear D_;replace X:=X.below b2;replace D:=D.below b2;replace RES:=RES.below b2;replace RP:=RP.below b2;have nU:w.heap.size+1+1+1<w1.heap.size:=Bl;replace B0:=Bv B0 b2;clear b2;replace OB:DBox w1 [J Ab 0,J Ab 0,Aa Ac 0 0,Aa Ac 0 0] ((w1.alloc (.cells #[J Ab 0,J Ab 0,Aa Ac 0 0,Aa Ac 0 0] 31)).alloc (.cells #[J Ab 0,J Ab 0,J Ab 0,J Ab 0] 84)):=OB;replace RR:DBox (w1+1) [J Ab 0,J Ab 0,J Ab 0,J Ab 0] ((w1.alloc (.cells #[J Ab 0,J Ab 0,Aa Ac 0 0,Aa Ac 0 0] 31)).alloc (.cells #[J Ab 0,J Ab 0,J Ab 0,J Ab 0] 84)):=RR;generalize ((w1.alloc (.cells #[J Ab 0,J Ab 0,Aa Ac 0 0,Aa Ac 0 0] 31)).alloc (.cells #[J Ab 0,J Ab 0,J Ab 0,J Ab 0] 84))=w2 at *
 generalize cR:w1.heap.size=ob at *
 have cK:=RR.lt;have X_:=X.g4;have D_:=D.g11;rcases (show kd=1\/kd=2\/kd=3\/kd=4\/kd=5\/kd=6\/kd=7\/kd=8 by omega) with rfl | rfl | rfl | rfl | rfl | rfl | rfl | rfl
 have H:=Bq (show doO y ⟨1,rn,p,tk,ty,wk,dr⟩=(I8 y rn p,⟨Jc y rn p,0,0,0⟩) by unfold doO;rw [if_neg (by rw [hd.out];simp)];rfl);have CS:=Bq (Xp y (⟨A1,n1,c1⟩,⟨A2,n2,c2⟩) rn p ⟨A3,p.edges.length,c3⟩ w2 hl hp (HR.out _ B0) (HP.out _ B0));generalize I8 y rn p=z at *
 generalize Jc y rn p=c at *
 rotate_left
 ·have H:Hid (doO y ⟨2,rn,p,tk,ty,wk,dr⟩=Ih y wk dr):=by
   show doO y ⟨2,rn,p,tk,ty,wk,dr⟩=_;unfold doO;rw [if_neg (by rw [hd.out];simp)];rfl
  have pU:=Bq (Ul hd.out);obtain ⟨dn,rfl⟩:=Aq pU.out.1;have CS:=Bq (Abl y (⟨A1,n1,c1⟩,⟨A2,n2,c2⟩) wk dn w2 hl (by have:=pU.out;omega) (HR.out _ B0));generalize Ih y wk (dn:Int)=o at *
  obtain ⟨z,⟨o0,o1,o2,o3⟩⟩:=o;go_wp2_with fail
  refine CS.out.mono ?_;rintro e2 w3 ⟨s2,F,rfl,oy,nF,b3⟩;replace oy:Bu.ow w3 F z s2:=oy;have cB:∀ x∈F,w+1+1+1<x:=fun x hx=>by have h1:=nF x hx;omega
  clear X_;clear D_;clear X D OB RR;replace RES:=RES.below b3;replace RP:=RP.below b3;replace B0:=Bv B0 b3;clear nF b3;obtain ⟨RES_0,RES_1,RES_2,RES_3,RES_l⟩:=RES.g4;obtain ⟨RP_0,RP_1,RP_2,RP_3,RP_l⟩:=RP.g4;have rf:=RES.free;have pf:=RP.free;have aE:w.heap.size+1+1+1≠w.heap.size+1+1:=Bl;go_wp2;have RES2:=DBox.row4 RES rfl (J Ab z.now) (J Ab z.seq) (Aa s2.1.a s2.1.n s2.1.c) (Aa s2.2.a s2.2.n s2.2.c);have RP2:=DBox.row4 ((((RP.setOther (a:=⟨w+1+1,0,Ac⟩) aE (J Ab z.now)).setOther (a:=⟨w+1+1,1,Ac⟩) aE (J Ab z.seq)).setOther (a:=⟨w+1+1,2,Ac⟩) aE (Aa s2.1.a s2.1.n s2.1.c)).setOther (a:=⟨w+1+1,3,Ac⟩) aE (Aa s2.2.a s2.2.n s2.2.c)) rfl (J Ab o0) (J Ab o1) (J Ab o2) (J Ab o3);have RES3:=((((RES2.setOther (a:=⟨w+1+1+1,0,Ac⟩) aE.symm (J Ab o0)).setOther (a:=⟨w+1+1+1,1,Ac⟩) aE.symm (J Ab o1)).setOther (a:=⟨w+1+1+1,2,Ac⟩) aE.symm (J Ab o2)).setOther (a:=⟨w+1+1+1,3,Ac⟩) aE.symm (J Ab o3))
  have en1:w.heap.size+1+1∉F:=fun hx=>by have:=cB _ hx;omega
  have en2:w.heap.size+1+1+1∉F:=fun hx=>by have:=cB _ hx;omega
  refine Ak (Abp RES3 RP2) rfl ⟨s2,F,by rw [H.out],by rw [H.out];exact (by (repeat (refine Dt.ow_set Bu ?_ (by first | exact en1 | exact en2) _));exact (show Bu.ow _ F z s2 from oy)),fun x hx=>by have:=cB x hx;omega,?_⟩;repeat (first | (with_reducible exact B0) | refine Ae ?_ Bo _)
 have H:=Bq (show doO y ⟨3,rn,p,tk,ty,wk,dr⟩=(Kc y rn tk ty,⟨G6 y rn tk ty,0,0,0⟩) by unfold doO;rw [if_neg (by rw [hd.out];simp)];rfl);have CS:=Bq (Tj y (⟨A1,n1,c1⟩,⟨A2,n2,c2⟩) rn tk ty w2 hl (HR.out _ B0));generalize Kc y rn tk ty=z at *
 generalize G6 y rn tk ty=c at *
 rotate_left;have H:=Bq (show doO y ⟨4,rn,p,tk,ty,wk,dr⟩=(Ka y rn tk ty,⟨G6 y rn tk ty,0,0,0⟩) by unfold doO;rw [if_neg (by rw [hd.out];simp)];rfl);have CS:=Bq (Abi y (⟨A1,n1,c1⟩,⟨A2,n2,c2⟩) rn tk ty w2 hl (HR.out _ B0));generalize Ka y rn tk ty=z at *
 generalize G6 y rn tk ty=c at *
 rotate_left;have H:=Bq (show doO y ⟨5,rn,p,tk,ty,wk,dr⟩=(Iw y,⟨J1 y,0,0,0⟩) by unfold doO;rw [if_neg (by rw [hd.out];simp)];rfl);have CS:=Bq (Abn y (⟨A1,n1,c1⟩,⟨A2,n2,c2⟩) w2 hl (HR.out _ B0));generalize Iw y=z at *
 generalize J1 y=c at *
 rotate_left;have H:=Bq (show doO y ⟨6,rn,p,tk,ty,wk,dr⟩=(Hy y rn,⟨Il y rn,0,0,0⟩) by unfold doO;rw [if_neg (by rw [hd.out];simp)];rfl);have CS:=Bq (Xq y (⟨A1,n1,c1⟩,⟨A2,n2,c2⟩) rn w2 hl (HR.out _ B0));generalize Hy y rn=z at *
 generalize Il y rn=c at *
 rotate_left;have H:=Bq (show doO y ⟨7,rn,p,tk,ty,wk,dr⟩=(Im y rn,⟨Iv y rn,0,0,0⟩) by unfold doO;rw [if_neg (by rw [hd.out];simp)];rfl);have CS:=Bq (X0 y (⟨A1,n1,c1⟩,⟨A2,n2,c2⟩) rn w2 hl (HR.out _ B0));generalize Im y rn=z at *
 generalize Iv y rn=c at *
 rotate_left;focus
  have H:=Bq (show doO y ⟨8,rn,p,tk,ty,wk,dr⟩=(Kx y,⟨Uj y,0,0,0⟩) by unfold doO;rw [if_neg (by rw [hd.out];simp)];rfl);have CS:=Bq (Vj y (⟨A1,n1,c1⟩,⟨A2,n2,c2⟩) w2 hl (HR.out _ B0));have hrc:=Bq (show (Dn y->Uj y=0)/\(¬ Dn y->Uj y=8) from ⟨fun h=>if_pos h,fun h=>if_neg h⟩);generalize Kx y=z at *
  generalize Uj y=c at *
  go_wp2_with fail
  refine CS.out.mono ?_;rintro e2 w3 ⟨s2,F,rfl,oy,nF,b3⟩;replace oy:Bu.ow w3 F z s2:=oy;have cB:∀ x∈F,ob+1<x:=fun x hx=>by have h1:=nF x hx;omega
  clear X_;clear D_;replace X:=X.below b3;clear D;replace OB:=OB.below b3;replace RR:=RR.below b3;replace RES:=RES.below b3;replace RP:=RP.below b3;replace B0:=Bv B0 b3;have fS:=b3.size;clear nF b3;have OB_:=OB.g4;have RR_:=RR.g4;have OBf:=OB.free;have RRf:=RR.free;go_upto_region 7 with fail
  clear OB_;clear RR_;clear OBf RRf;have bX:=Chg.cells4 w3 ob 0 1 2 3 (J Ab z.now) (J Ab z.seq) (Aa s2.1.a s2.1.n s2.1.c) (Aa s2.2.a s2.2.n s2.2.c);have dQ:=Bq (show ∀ x,x∈[ob]->x=ob from fun x hx=>by simpa using hx);replace OB:=DBox.row4 OB rfl (J Ab z.now) (J Ab z.seq) (Aa s2.1.a s2.1.n s2.1.c) (Aa s2.2.a s2.2.n s2.2.c);replace RR:=RR.chg bX (fun hx=>by have:=dQ.out _ hx;omega);replace RES:=RES.chg bX (fun hx=>by have:=dQ.out _ hx;omega);replace RP:=RP.chg bX (fun hx=>by have:=dQ.out _ hx;omega);replace oy:Bu.ow _ F z s2:=owC oy bX (fun x hx h=>by have h1:=dQ.out x h;have h2:=cB x hx;omega);replace X:=X.chg bX (fun hx=>by have:=dQ.out _ hx;omega);replace B0:=B0.trans (bX.below (by have:=B0.size;omega) (fun x hx=>by have:=dQ.out x hx;omega));clear bX;generalize (((w3.setCell ⟨ob,0,Ac⟩ (J Ab z.now)).setCell ⟨ob,1,Ac⟩ (J Ab z.seq)).setCell ⟨ob,2,Ac⟩ (Aa s2.1.a s2.1.n s2.1.c)).setCell ⟨ob,3,Ac⟩ (Aa s2.2.a s2.2.n s2.2.c)=w4 at *
  have X_:=X.g4;go_wp2_with fail
  refine (CY.out _ B0).mono ?_;rintro e9 w8 ⟨rfl,b8⟩;clear X_;clear X;replace OB:=OB.below b8;replace RR:=RR.below b8;replace RES:=RES.below b8;replace RP:=RP.below b8;replace oy:Bu.ow w8 F z s2:=owB oy b8;replace B0:=Bv B0 b8;have hs8:=b8.size;clear b8;by_cases p0:Dn y;focus
   rw [Ds p0];have hc0:=Bq (hrc.out.1 p0);replace RR:DBox (ob+1) [J Ab c,J Ab 0,J Ab 0,J Ab 0] w8:=by rw [hc0.out];exact RR
   rename World=>w5;go_upto_region 23 with fail
  rotate_left;focus
   rw [Cm p0];have hc8:=Bq (hrc.out.2 p0);have RR_:=RR.g4;have RRf:=RR.free;go_upto_region 23 with fail
   clear RR_;clear RRf;rename World=>w4;have mB:=Chg.setCell w4 (ob+1) 0 (J Ab 8);have eU:=Bq (show ∀ x,x∈[ob+1]->x=ob+1 from fun x hx=>by simpa using hx);replace OB:=OB.chg mB (fun hx=>by have:=eU.out _ hx;omega);replace RR:DBox (ob+1) [J Ab 8,J Ab 0,J Ab 0,J Ab 0] (w4.setCell ⟨ob+1,0,Ac⟩ (J Ab 8)):=RR.set 0 Bn _;replace RES:=RES.chg mB (fun hx=>by have:=eU.out _ hx;omega);replace RP:=RP.chg mB (fun hx=>by have:=eU.out _ hx;omega);replace oy:Bu.ow _ F z s2:=owC oy mB (fun x hx h=>by have h1:=eU.out x h;have h2:=cB x hx;omega);replace B0:=B0.trans (mB.below (by have:=B0.size;omega) (fun x hx=>by have:=eU.out x hx;omega));clear mB;generalize w4.setCell ⟨ob+1,0,Ac⟩ (J Ab 8)=w5 at *
   replace RR:DBox (ob+1) [J Ab c,J Ab 0,J Ab 0,J Ab 0] w5:=by rw [hc8.out];exact RR
 rotate_left 2;iterate 6
  focus
   go_wp2_with fail
   refine CS.out.mono ?_;rintro e2 w3 ⟨s2,F,rfl,oy,nF,b3⟩;replace oy:Bu.ow w3 F z s2:=oy;have cB:∀ x∈F,ob+1<x:=fun x hx=>by have h1:=nF x hx;omega
   clear X_;clear D_;clear X;clear D;replace OB:=OB.below b3;replace RR:=RR.below b3;replace RES:=RES.below b3;replace RP:=RP.below b3;replace B0:=Bv B0 b3;have fS:=b3.size;clear nF b3;have OB_:=OB.g4;have RR_:=RR.g4;have OBf:=OB.free;have RRf:=RR.free;go_upto_region 23 with fail
   clear OB_;clear RR_;clear OBf RRf;have bX:=Chg.cells4 w3 ob 0 1 2 3 (J Ab z.now) (J Ab z.seq) (Aa s2.1.a s2.1.n s2.1.c) (Aa s2.2.a s2.2.n s2.2.c);have dQ:=Bq (show ∀ x,x∈[ob]->x=ob from fun x hx=>by simpa using hx);replace OB:=DBox.row4 OB rfl (J Ab z.now) (J Ab z.seq) (Aa s2.1.a s2.1.n s2.1.c) (Aa s2.2.a s2.2.n s2.2.c);replace RR:=RR.chg bX (fun hx=>by have:=dQ.out _ hx;omega);replace RES:=RES.chg bX (fun hx=>by have:=dQ.out _ hx;omega);replace RP:=RP.chg bX (fun hx=>by have:=dQ.out _ hx;omega);replace oy:Bu.ow _ F z s2:=owC oy bX (fun x hx h=>by have h1:=dQ.out x h;have h2:=cB x hx;omega);replace B0:=B0.trans (bX.below (by have:=B0.size;omega) (fun x hx=>by have:=dQ.out x hx;omega));clear bX;generalize (((w3.setCell ⟨ob,0,Ac⟩ (J Ab z.now)).setCell ⟨ob,1,Ac⟩ (J Ab z.seq)).setCell ⟨ob,2,Ac⟩ (Aa s2.1.a s2.1.n s2.1.c)).setCell ⟨ob,3,Ac⟩ (Aa s2.2.a s2.2.n s2.2.c)=w4 at *
   have mB:=Chg.setCell w4 (ob+1) 0 (J Ab c);have eU:=Bq (show ∀ x,x∈[ob+1]->x=ob+1 from fun x hx=>by simpa using hx);replace OB:=OB.chg mB (fun hx=>by have:=eU.out _ hx;omega);replace RR:DBox (ob+1) [J Ab c,J Ab 0,J Ab 0,J Ab 0] (w4.setCell ⟨ob+1,0,Ac⟩ (J Ab c)):=RR.set 0 Bn _;replace RES:=RES.chg mB (fun hx=>by have:=eU.out _ hx;omega);replace RP:=RP.chg mB (fun hx=>by have:=eU.out _ hx;omega);replace oy:Bu.ow _ F z s2:=owC oy mB (fun x hx h=>by have h1:=eU.out x h;have h2:=cB x hx;omega);replace B0:=B0.trans (mB.below (by have:=B0.size;omega) (fun x hx=>by have:=eU.out x hx;omega));clear mB;generalize w4.setCell ⟨ob+1,0,Ac⟩ (J Ab c)=w5 at *
  rotate_left
 all_goals
  refine Go.wp_region_noPanic ?_;refine wp_region_held_drew (S:=(fun w'=>DBox ob [J Ab z.now,J Ab z.seq,Aa s2.1.a s2.1.n s2.1.c,Aa s2.2.a s2.2.n s2.2.c] w'/\DBox (ob+1) [J Ab c,J Ab 0,J Ab 0,J Ab 0] w')) Bm ⟨DBox.drew4 OB,DBox.drew4 RR⟩ (fun aA=>?_);replace oy:Bu.ow w5.drew F z s2:=owB oy (Br _ _).drew;replace RES:DBox _ _ w5.drew:=DBox.drew4 RES;replace RP:DBox _ _ w5.drew:=DBox.drew4 RP;replace B0:=B0.drew;clear OB RR;generalize w5.drew=w6 at *
  refine tV 0 ?_
  (try simp only [pS])
  refine tV 1 ?_
  (try simp only [pS])
  have RES_0:=RES.cell 0 _ rfl;have RES_1:=RES.cell 1 _ rfl;have RES_2:=RES.cell 2 _ rfl;have RES_3:=RES.cell 3 _ rfl;have rf:=RES.free;have cS:=Bq (show ∀ x,x∈[w.heap.size+1+1]->x=w.heap.size+1+1 from fun x hx=>by simpa using hx);have dW:=Bq (show ∀ x,x∈[w.heap.size+1+1+1]->x=w.heap.size+1+1+1 from fun x hx=>by simpa using hx);have eR:=Chg.cells4 w6 (w+1+1) 0 1 2 3 (J Ab z.now) (J Ab z.seq) (Aa s2.1.a s2.1.n s2.1.c) (Aa s2.2.a s2.2.n s2.2.c);refine rC 2 (fun K_ hK=>?_);go_simp;have RES2:=DBox.row4 RES rfl (J Ab z.now) (J Ab z.seq) (Aa s2.1.a s2.1.n s2.1.c) (Aa s2.2.a s2.2.n s2.2.c);have RP2:=RP.chg eR (fun hx=>by have:=cS.out _ hx;omega);replace oy:Bu.ow _ F z s2:=owC oy eR (fun x hx h=>by have h1:=cS.out x h;have h2:=cB x hx;omega);replace B0:=B0.trans (eR.below (by have:=B0.size;omega) (fun x hx=>by have:=cS.out x hx;omega));refine hK.out _ _ ⟨aA.1.chg eR (fun hx=>by have:=cS.out _ hx;omega),aA.2.chg eR (fun hx=>by have:=cS.out _ hx;omega)⟩ (fun aA=>?_);clear hK K_ rf RES_0 RES_1 RES_2 RES_3 eR
  (try simp only [pS])
  generalize (((w6.setCell ⟨w+1+1,0,Ac⟩ (J Ab z.now)).setCell ⟨w+1+1,1,Ac⟩ (J Ab z.seq)).setCell ⟨w+1+1,2,Ac⟩ (Aa s2.1.a s2.1.n s2.1.c)).setCell ⟨w+1+1,3,Ac⟩ (Aa s2.2.a s2.2.n s2.2.c)=w7 at *
  have RP_0:=RP2.cell 0 _ rfl;have RP_1:=RP2.cell 1 _ rfl;have RP_2:=RP2.cell 2 _ rfl;have RP_3:=RP2.cell 3 _ rfl;have pf:=RP2.free;have gB:=Chg.cells4 w7 (w+1+1+1) 0 1 2 3 (J Ab c) (J Ab 0) (J Ab 0) (J Ab 0);refine rC 3 (fun K_ hK=>?_);go_simp;refine hK.out _ _ ⟨aA.1.chg gB (fun hx=>by have:=dW.out _ hx;omega),aA.2.chg gB (fun hx=>by have:=dW.out _ hx;omega)⟩ (fun aA=>?_);clear hK K_ aA
  (try simp only [pS])
  refine wpAnyH_done Bm ?_ _;refine NoPanic.normal ?_;have RES3:=RES2.chg gB (fun hx=>by have:=dW.out _ hx;omega);have RP3:=DBox.row4 RP2 rfl (J Ab c) (J Ab 0) (J Ab 0) (J Ab 0);replace oy:Bu.ow _ F z s2:=owC oy gB (fun x hx h=>by have h1:=dW.out x h;have h2:=cB x hx;omega);replace B0:=B0.trans (gB.below (by have:=B0.size;omega) (fun x hx=>by have:=dW.out x hx;omega));clear RP_0 RP_1 RP_2 RP_3 pf;go_wp2;exact Ak (Abp RES3 RP3) rfl ⟨s2,F,by rw [H.out],by rw [H.out];exact oy,fun x hx=>by have:=cB x hx;omega,B0⟩
theorem Chg.grow {b:Nat} {w w':World} (hc:Chg [b] w w'):w.grownBy w' (Ad b):=⟨hc.os,hc.tape,hc.output,hc.size,fun i hi hn=>hc.block i hi (fun hx=>hn (by rw [Aw.1 hx]))⟩
theorem BldG.chgLow {α:Type} {d:Dt α} {E:TypeId} {w w':World} {base b:Nat} {v:Value} {rs:List (α×d.S)} {G:List Nat} (h:BldG d E w base v rs G) (hc:Chg [b] w w') (hb:b<base):BldG d E w' base v rs G :=
 ⟨h.1.grown hc.grow (.inr (fun e=>by have:=(h.1.within b e).1;omega)),h.2.1.chg hc (fun x hx hx2=>by (have h5:x=b:=Aw.1 hx2);have:=(h.2.2.2 x hx).1;omega),h.2.2.1,h.2.2.2⟩
theorem Chg.moreL {F G:List Nat} {w w1 w2:World} (h:Chg F w w1) (k:Chg G w1 w2) (hg:∀ x∈G,w<=x):Chg F w w2 :=
 ⟨k.os.trans h.os,k.tape.trans h.tape,k.output.trans h.output,Ai h.size k.size,fun i hi hn=>(k.block i (Nat.lt_of_lt_of_le hi h.size) (fun hx=>by have:=hg i hx;omega)).trans (h.block i hi hn)⟩
theorem BldG.push2 {α:Type} {d:Dt α} {E:TypeId} {w1 w2 w5:World} {base m:Nat} {v v5:Value} {rs:List (α×d.S)} {G:List Nat} {x:α} {s:d.S} {F:List Nat} (h:BldG d E w1 base v rs G) (hG:∀ b∈G,b<m) (hv:∀ g,v.ownBlock=Ad g->g<m) (o1:d.ow w1 F x s) (n1:∀ b∈F,m<=b)
  (aS:base<=m) (hm:m<=w1) (aJ:Below w1 w1 w2) (o5:Ow d.enc E w5 base v5 (rs ++ [(x,s)])) (g5:w2.grownBy w5 v.ownBlock) (f5:v5.ownBlock=v.ownBlock\/v5.ownBlock=Ad w2.heap.size):BldG d E w5 base v5 (rs ++ [(x,s)]) (G ++ F):=by
 obtain ⟨h1,h2,h3,h4⟩:=h;have cI:∀ b∈F,b<w1:=d.ow_lt o1;have rQ:∀ b∈F,v.ownBlock≠Ad b:=fun b hb he=>by
  have h5:=hv b he;have h6:=n1 b hb;omega
 have cN:=aJ.size;have ht:Ows d w2 F [(x,s)]:=Ows.one (r:=(x,s)) (d.ow_below o1 aJ);refine ⟨o5,?_,?_,?_⟩
 ·refine Ows.append ((h2.bel aJ).keep g5.size fun b hbG=>g5.block b (by have:=hG b hbG;omega) ?_) (ht.keep g5.size fun b bT=>g5.block b (by have:=cI b bT;omega) ?_)
  ·exact fun e=>(h4 b hbG).2 e.symm
  ·exact fun e=>rQ b bT e.symm
 ·rw [Ay];refine ⟨h3,d.ow_nodup o1,fun a ha b bH e=>?_⟩
  have:=hG a ha
  have:=n1 b bH
  omega
 ·intro b aV;rcases Bi.1 aV with aV | aV
  ·refine ⟨(h4 b aV).1,?_⟩;rcases f5 with jK | jK
   ·rw [jK];exact (h4 b aV).2
   ·rw [jK];intro e
    have:=hG b aV
    injection e with e
    omega
  ·refine ⟨by have:=n1 b aV;omega,?_⟩;rcases f5 with jK | jK
   ·rw [jK];exact rQ b aV
   ·rw [jK];intro e
    have:=cI b aV
    injection e with e
    omega
noncomputable def Ew (code:List UInt8) (c:Cur):Nat->(List Deed×Yard)×Cur
 | 0=>(([],Fg),c)
 | n+1=>((((Ew code c n).1.1 ++ [(Et code (Ew code c n).1.2 (Ew code c n).2).1],(doO (Ew code c n).1.2 (Et code (Ew code c n).1.2 (Ew code c n).2).1).1),(Et code (Ew code c n).1.2 (Ew code c n).2).2))
theorem Adu:Cf Fg<=2000000:=Bp
theorem Rk (code:List UInt8) (c:Cur):∀ n,Cf (Ew code c n).1.2<=2000000
 | 0=>Adu
 | n+1=>Abm (Rk code c n)
theorem Yb (code:List UInt8) (c:Cur):∀ n,(Ew code c n).1.1.length=n
 | 0=>rfl
 | n+1=>by show ((Ew code c n).1.1 ++ [_]).length=n+1;rw [Bd,Yb code c n];rfl
theorem Y9 (code:List UInt8) (y:Yard) (c:Cur):(Et code y c).1.plan.edges.length<=2000000:=by
 have h0:Jn.edges.length<=2000000:=Bp;have h1:∀ c,(Hu code c).1.edges.length<=2000000:=fun c=>by
  have:=Es (Cs.1 (Wy code c)).1
  omega
 unfold Et;simp only []
 (repeat' split)<;>first | exact h0 | exact h1 _
def Aji (b:Nat) (v:Value) (code:List UInt8) (r:(List Deed×Yard)×Cur) (w:World) (e:Ending) (w':World):Prop :=
 ∃ (l:Sl) (F1:List Nat) (s:Sl×Sl) (F2:List Nat),e = .returned (.tuple #[Aa l.a l.n l.c,Dh r.1.2 s])/\OwL Fb w' F1 l.v r.1.1/\(∀ x∈F1,w<=x)/\Bu.ow w' F2 r.1.2 s/\(∀ x∈F2,w<=x)/\Drw b v code r.2 w'/\Chg [b] w w'
theorem Agx {b:Nat} {w:World} {u0 u1 u2 u3 v4:Value} (X:DBox b [u0,u1,u2,u3] w) {v0 v1 v2 v3:Value} {rest:List Value} :
  (results Tryz.f98 (v0 :: v1 :: v2 :: v3 :: v4 :: .pointer (Ad ⟨b,0,Ac⟩) :: rest).toArray).run An w = .ok (.tuple #[v4,.agg #[u0,u1,u2,u3]]) w:=by
 have c0:=X.cell 0 _ rfl;have c1:=X.cell 1 _ rfl;have c2:=X.cell 2 _ rfl;have c3:=X.cell 3 _ rfl;simp [results,results98,go_sem,c0,c1,c2,c3]
theorem Agy (b:Nat) (v:Value) (code:List UInt8) (c:Cur) (many:Nat) (w:World) (hm:many<=1000) (h:Drw b v code c w) :
  Calls An 98 #[.pointer (Ad ⟨b,0,Ac⟩),J Ab (many:Int)] w (Aji b v code (Ew code c many) w):=by
 have hb:=h.box.lt;have aV:=Bq (show ∀ x,x∈[b]->x=b from fun x hx=>by simpa using hx);obtain ⟨i0,aQ,aW,aU,aR⟩:=info_parts Aed;obtain ⟨W,aG,RES,B0⟩:=bx1 w 31 [J Ab 0,J Ab 0,Aa Ac 0 0,Aa Ac 0 0];replace h:=h.below B0;go_enter func98,ntmps98;go_wp2_with fail
 rw [<-aG.out];clear aG;have hWl:w.heap.size<W.heap.size:=RES.lt;refine (U5 W).mono ?_;rintro e1 w1 ⟨⟨⟨B1,m1,e1⟩,⟨B2,m2,e2⟩⟩,F,rfl,oy,nF,b1⟩;replace h:=h.below b1;replace RES:=RES.below b1;replace B0:=Bv B0 b1;have bG:=b1.size;have cI:=Bu.ow_lt (F:=F) (x:=Fg) (s:=(⟨B1,m1,e1⟩,⟨B2,m2,e2⟩)) oy;clear b1;go_upto_region 2 with fail
 have YB:=DBox.new 31 (Ev Fg (⟨B1,m1,e1⟩,⟨B2,m2,e2⟩)) w1 (b:=w1) rfl;have b2:Below w1 w1 (w1.alloc (.cells (Ev Fg (⟨B1,m1,e1⟩,⟨B2,m2,e2⟩)).toArray 31)):=Bt;replace h:=h.below b2;replace RES:=RES.below b2;replace oy:Bu.ow _ F Fg (⟨B1,m1,e1⟩,⟨B2,m2,e2⟩):=owB oy b2;replace B0:=Bv B0 b2;have uG:=YB.lt;clear b2;generalize w1.alloc (.cells (Ev Fg (⟨B1,m1,e1⟩,⟨B2,m2,e2⟩)).toArray 31)=w2 at *
 generalize hyb:w1.heap.size=yb at *
 have q0:Below w2 w2 (w2.alloc (.cells #[] 45)):=Bt;have o0:=Ow.empty Fb.enc 45 w2 rfl;have fW:Hid (∀ x∈F,w<x/\x≠yb/\(Value.slice (Ad ⟨w2,0,Ac⟩) 0 0).ownBlock≠Ad x):=fun x hx=>⟨by have:=nF x hx;omega,by have:=cI x hx;omega,fun e=>by have h5:=Option.some.inj (show Ad w2.heap.size=Ad x from e);have:=cI x hx;omega⟩
 have hC:=Chg.of_below [b] (Bv B0 q0);replace h:=h.below q0;replace RES:=RES.below q0;replace YB:=YB.below q0;replace oy:Bu.ow _ F Fg (⟨B1,m1,e1⟩,⟨B2,m2,e2⟩):=owB oy q0;have aH:Hid (BldG Fb 45 (w2.alloc (.cells #[] 45)) w2 (Aa (Ad ⟨w2,0,Ac⟩) 0 0) [] []):=⟨o0,.nil,List.nodup_nil,fun _ h=>by cases h⟩
 clear q0 o0 nF cI B0;go_wp2;go_loopw [7,8,9] (fun lv iv u9 wr=>∃ (n:Nat) (vl:Value) (rs:List (Deed×Fb.S)) (G:List Nat) (s:Sl×Sl) (F:List Nat),n<=many/\iv = J Ab n/\vl=lv/\Hid (rs.map (·.1)=(Ew code c n).1.1)/\Hid (BldG Fb 45 wr w2 vl rs G)/\Hid (Bu.ow wr F (Ew code c n).1.2 s)/\Hid (∀ x∈F,w<x/\x≠yb/\vl.ownBlock≠Ad x)/\DBox yb (Ev (Ew code c n).1.2 s) wr/\DBox w [J Ab 0,J Ab 0,Aa Ac 0 0,Aa Ac 0 0] wr/\Drw b v code (Ew code c n).2 wr/\Chg [b] w wr/\w2.heap.size<=wr.heap.size) (fun _ i _ _=>many - (intOf i).toNat);case atStart=>exact ⟨0,_,[],[],(⟨B1,m1,e1⟩,⟨B2,m2,e2⟩),F,Nat.zero_le _,rfl,rfl,rfl,aH,oy,fW,YB,RES,h,hC,Bn⟩
 case round =>
  clear h RES YB oy hC aH fW;obtain ⟨n,vl,rs,G,s,F,hn,rfl,rfl,mX,aH,oy,hF,YB,RES,h,hC,tF⟩:=hrel;have nB:=Bq (Rk code c n);have uQ:=Bq (Yb code c n);have aF:Hid (Ew code c (n+1)=((((Ew code c n).1.1 ++ [(Et code (Ew code c n).1.2 (Ew code c n).2).1],(doO (Ew code c n).1.2 (Et code (Ew code c n).1.2 (Ew code c n).2).1).1),(Et code (Ew code c n).1.2 (Ew code c n).2).2))):=rfl;have dA:=Bq (show n=many->Ew code c many=Ew code c n from fun e=>by rw [e]);generalize Ew code c n=p at *
  obtain ⟨⟨L,Y⟩,cu⟩:=p;dsimp only at mX nB uQ aF oy YB h;replace oy:Bu.ow wr F Y s:=oy.out;have YB_:=YB.g4;by_cases aB:n<many
  ·have aC:(n:Int)<(many:Int):=Bl;have bT:b∉F:=fun hx=>by have:=(hF.out _ hx).1;omega
   have bM:=Bu.ow_lt (F:=F) (x:=Y) (s:=s) oy;go_wp2_with fail
   refine (Ah1 b _ code cu Y s F wr nB.out h oy bT).mono ?_;rintro e3 w3 ⟨sd,Fd,rfl,od,nd,h3,cc3⟩;have hed:=Y9 code Y cu;generalize hdd:Et code Y cu=dd at *
   obtain ⟨d,cu2⟩:=dd;dsimp only at od h3 hed aF;have hGlt:∀ x∈G,x<wr:=aH.out.2.1.lt;have fF:∀ g,vl.ownBlock=Ad g->g<wr.heap.size:=fun g hg=>(aH.out.1.within g hg).2;have hbw2:b<w2:=Bl;have mW:=cc3.size;replace aH:=aH.out.chgLow cc3 hbw2;have hybb:yb≠b:=Bl;clear YB_;replace YB:=YB.chg cc3 (fun hx=>hybb (aV.out _ hx));replace RES:=RES.chg cc3 (fun hx=>by have:=aV.out _ hx;omega);replace oy:Bu.ow w3 F Y s:=owC oy cc3 (fun x hx hx2=>by have h1:=aV.out x hx2;subst h1;exact bT hx);replace hC:=hC.trans cc3;have DB:=DBox.new 45 [J Ab d.kind,J Ab d.run,J Ab d.plan.prio,J Ab d.plan.most,J Ab d.plan.wait,J Ab d.plan.tasks,Aa sd.a sd.n sd.c,J Ab d.task,J Ab d.try_,J Ab d.worker,J Ab d.draw] w3 (b:=w3) rfl;have b4:Below w3 w3 (w3.alloc (.cells #[J Ab d.kind,J Ab d.run,J Ab d.plan.prio,J Ab d.plan.most,J Ab d.plan.wait,J Ab d.plan.tasks,Aa sd.a sd.n sd.c,J Ab d.task,J Ab d.try_,J Ab d.worker,J Ab d.draw] 45)):=Bt;go_upto_region 7 with fail
   replace YB:=YB.below b4;replace RES:=RES.below b4;replace oy:Bu.ow _ F Y s:=owB oy b4;replace h3:=h3.below b4;replace od:Ck.ow _ Fd d.plan sd:=Ck.ow_below (F:=Fd) (x:=d.plan) (s:=sd) od b4;replace aH:=aH.below b4;replace hC:=hC.trans (Chg.of_below [b] b4);have hDl:=DB.lt;have kH:=b4.size;clear b4;generalize w3.alloc (.cells #[J Ab d.kind,J Ab d.run,J Ab d.plan.prio,J Ab d.plan.most,J Ab d.plan.wait,J Ab d.plan.tasks,Aa sd.a sd.n sd.c,J Ab d.task,J Ab d.try_,J Ab d.worker,J Ab d.draw] 45)=w4 at *
   generalize hdb:w3.heap.size=db at *
   obtain ⟨A7,c7,sR,-⟩:=_root_.id (Rd.of_own aH.1);have cK:=Bq (show rs.length=n by have h5:=congrArg List.length mX.out;rw [Au,uQ.out] at h5;exact h5);have hrl3:=Bq (show rs.length<=3000000 by have:=cK.out;omega);generalize tK:rs.length=n7 at sR;subst sR;replace tK:=Bq tK;have hvd:=Bq (fun g (hg:(Value.slice A7 n7 c7).ownBlock=Ad g)=>aH.1.within g hg);replace fF:=Bq fF;replace hGlt:=Bq hGlt;have DB_:=DB.g11;have ha:=Bq (show ∀ w:World,Below w w (w.alloc (.cells #[J Ab d.kind,J Ab d.run,J Ab d.plan.prio,J Ab d.plan.most,J Ab d.plan.wait,J Ab d.plan.tasks,Aa sd.a sd.n sd.c,J Ab d.task,J Ab d.try_,J Ab d.worker,J Ab d.draw] 45)) from fun w=>Bt);have hw24:w2.heap.size<=w4.heap.size:=Bl;go_upto_region 8 with (at_builtin;go_loud (refine Cj _ Fb.enc Bp rfl (.tmp 20) (.tmp 22) rfl underlying77 aQ aW aU aR rfl (base:=w2) (v:=Aa A7 n7 c7) (l:=rs) rfl (aH.1.below (ha.out w4)) rfl (Rd.one Fb.enc _ _ (d,sd) rfl rfl 1 (Bs _) (Nat.lt_succ_self _)) hrl3.out Bn Bp (by simp;omega) ?_);intro v5 w5 o5 g5 f5)
   have hP:=aH.push2 (x:=d) (s:=sd) (F:=Fd) hGlt.out fF.out od nd Bl Bl (ha.out w4) o5 g5 f5;have g5s:=g5.size;simp only [World.size_alloc] at g5s;have rn:∀ z,z<w2.heap.size->Ad z≠(Value.slice A7 n7 c7).ownBlock:=fun z hz e=>by have:=(hvd.out z e.symm).1;omega
   have rd_:Ad db≠(Value.slice A7 n7 c7).ownBlock:=fun e=>by have:=fF.out db e.symm;omega
   clear DB_;replace DB:=(DB.below (ha.out w4)).off g5 rd_;replace YB:=(YB.below (ha.out w4)).off g5 (rn yb Bl);replace RES:=(RES.below (ha.out w4)).off g5 (rn _ Bl);have oy5:Bu.ow w5 F Y s:=Bu.ow_keep (F:=F) (x:=Y) (s:=s) (Bu.ow_below (F:=F) (x:=Y) (s:=s) oy (ha.out w4)) g5.size (fun z hz=>g5.block z (Bu.ow_lt (F:=F) (x:=Y) (s:=s) (Bu.ow_below (F:=F) (x:=Y) (s:=s) oy (ha.out w4)) z hz) (fun e=>(hF.out z hz).2.2 e.symm));have cC:=Bq (show ∀ x∈((Value.slice A7 n7 c7).ownBlock).toList,w2.heap.size<=x from fun x hx=>(hvd.out x (by simpa using hx)).1);have cg:=Chg.grown (F:=((Value.slice A7 n7 c7).ownBlock).toList) g5 (fun g hg=>by rw [hg];simp);have h5:=(h3.below (ha.out w4)).chg cg (fun x hx=>by have:=cC.out x hx;omega);have cX:=(hC.trans (Chg.of_below [b] (ha.out w4))).moreL cg (fun x hx=>by have:=cC.out x hx;omega);have od5:=Ck.ow_keep (F:=Fd) (x:=d.plan) (s:=sd) (Ck.ow_below (F:=Fd) (x:=d.plan) (s:=sd) od (ha.out w4)) g5.size (fun z hz=>g5.block z (Ck.ow_lt (F:=Fd) (x:=d.plan) (s:=sd) (Ck.ow_below (F:=Fd) (x:=d.plan) (s:=sd) od (ha.out w4)) z hz) (fun e=>by have h6:=fF.out z e.symm;have h7:=nd z hz;omega));have v5lt:=Bq (fun g (hg:v5.ownBlock=Ad g)=>(o5.within g hg).2);obtain ⟨A8,c8,rR,-⟩:=_root_.id (Rd.of_own o5);simp only [Bd,List.length_singleton] at rR;subst rR;clear hC oy od h3 cg o5 f5 g5 aH rn rd_ ha;have CD:=Bq (Aey Y s d sd w5 nB.out hed (Bu.ow_rd (F:=F) (x:=Y) (s:=s) oy5) (Ck.ow_rd (F:=Fd) (x:=d.plan) (s:=sd) od5));generalize doO Y d=o at *
   obtain ⟨z,rep⟩:=o;dsimp only at aF;have YB_:=YB.g4;have DB_:=DB.g11;go_wp2_with fail
   refine CD.out.mono ?_;rintro e6 w6 ⟨s6,F6,rfl,oy6,n6,b6⟩;replace oy6:Bu.ow w6 F6 z s6:=oy6;clear YB_;clear DB_;clear DB CD;replace YB:=YB.below b6;replace RES:=RES.below b6;replace h5:=h5.below b6;replace hP:=hP.below b6;replace cX:=cX.trans (Chg.of_below [b] b6);have nY:=b6.size;have mH:∀ x∈F6,w5<=x:=n6;clear b6 n6 oy5 od5;have YB_:=YB.g4;have ybf:=YB.free;go_upto_region 5 with fail
   have bX:=Chg.cells4 w6 yb 0 1 2 3 (J Ab z.now) (J Ab z.seq) (Aa s6.1.a s6.1.n s6.1.c) (Aa s6.2.a s6.2.n s6.2.c);have pY:=Bq (show ∀ x,x∈[yb]->x=yb from fun x hx=>by simpa using hx);clear YB_;clear ybf;have YB7:=DBox.row4 YB rfl (J Ab z.now) (J Ab z.seq) (Aa s6.1.a s6.1.n s6.1.c) (Aa s6.2.a s6.2.n s6.2.c);have RES7:=RES.chg bX (fun hx=>by have:=pY.out _ hx;omega);have h7:=h5.chg bX (fun x hx=>by have:=pY.out _ hx;omega);have sB:=hP.chgLow bX Bl;have oy7:=Bu.ow_chg (F:=F6) (x:=z) (s:=s6) oy6 bX (fun x hx hx2=>by have h8:=pY.out x hx2;have h9:=mH x hx;omega);have fL:=cX.more bX Bl;have kW:Hid (∀ x∈F6,w<x/\x≠yb/\(Value.slice A8 (rs.length+1) c8).ownBlock≠Ad x):=fun x hx=>by
    have h9:=mH x hx;exact ⟨Bl,Bl,fun e=>by have:=v5lt.out x e;omega⟩
   have hw7:=bX.size;have hmp:Hid ((rs ++ [(d,sd)]).map (·.1)=L ++ [d]):=by
    show (rs ++ [(d,sd)]).map (·.1)=L ++ [d]
    rw [List.map_append,mX.out];rfl
   clear RES YB h5 hP oy6 cX bX hF mX;generalize (((w6.setCell ⟨yb,0,Ac⟩ (J Ab z.now)).setCell ⟨yb,1,Ac⟩ (J Ab z.seq)).setCell ⟨yb,2,Ac⟩ (Aa s6.1.a s6.1.n s6.1.c)).setCell ⟨yb,3,Ac⟩ (Aa s6.2.a s6.2.n s6.2.c)=w7 at *
   go_wp2;exact ⟨⟨n+1,Aa A8 (rs.length+1) c8,rs ++ [(d,sd)],G ++ Fd,s6,F6,Bl,by go_num,rfl,by rw [aF.out];exact hmp,sB,by rw [aF.out];exact oy7,kW,by rw [aF.out];exact YB7,RES7,by rw [aF.out];exact h7,fL,Bl⟩,clM⟩
  ·have aC:¬ (n:Int)<(many:Int):=Bl;have he:=dA.out Bl;replace he:=Bq he;go_wp2;refine Go.wp_region_noPanic ?_;refine wp_region_held_drew (S:=(fun w'=>DBox yb (Ev Y s) w')) Bm (DBox.drew4 YB) (fun aA=>?_);replace oy:Bu.ow wr.drew F Y s:=owB oy (Br _ _).drew;replace h:=h.below (Br _ _).drew;replace RES:DBox _ _ wr.drew:=DBox.drew4 RES;replace aH:=Bq (aH.out.below (Br _ _).drew);replace hC:=hC.trans (Chg.of_below [b] (Br wr wr).drew);have mU:wr.drew.heap.size=wr.heap.size:=rfl;rw [<-mU] at tF;clear YB_;clear YB mU;generalize wr.drew=w5 at *
   refine tZ 0 ?_ (hy:=by (intro w' hSw;(try dsimp only at hSw);have f0:=hSw.cell 0 _ rfl;have f1:=hSw.cell 1 _ rfl;have f2:=hSw.cell 2 _ rfl;have f3:=hSw.cell 3 _ rfl;go_simp;(try with_reducible rfl)))
   (try simp only [pS])
   refine tZ 1 ?_ (hy:=by (intro w' hSw;(try dsimp only at hSw);have f0:=hSw.cell 0 _ rfl;have f1:=hSw.cell 1 _ rfl;have f2:=hSw.cell 2 _ rfl;have f3:=hSw.cell 3 _ rfl;go_simp;(try with_reducible rfl)))
   (try simp only [pS])
   refine tZ 2 ?_ (hy:=by (intro w' hSw;(try dsimp only at hSw);have f0:=hSw.cell 0 _ rfl;have f1:=hSw.cell 1 _ rfl;have f2:=hSw.cell 2 _ rfl;have f3:=hSw.cell 3 _ rfl;go_simp;(try with_reducible rfl)))
   (try simp only [pS])
   have RES_:=RES.g4;have rf:=RES.free;have hwyb:w<yb:=Bl;refine rC 3 (fun K_ hK=>?_);go_simp;refine hK.out _ _ ((((aA.setOther (a:=⟨w,0,Ac⟩) (by show yb≠w;omega) _).setOther (a:=⟨w,1,Ac⟩) (by show yb≠w;omega) _).setOther (a:=⟨w,2,Ac⟩) (by show yb≠w;omega) _).setOther (a:=⟨w,3,Ac⟩) (by show yb≠w;omega) _) (fun aA=>?_);clear hK K_ aA
   (try simp only [pS])
   refine wpAnyH_done Bm ?_ _;refine NoPanic.normal ?_;have bX:=Chg.cells4 w5 (w.heap.size) 0 1 2 3 (J Ab Y.now) (J Ab Y.seq) (Aa s.1.a s.1.n s.1.c) (Aa s.2.a s.2.n s.2.c);have pY:=Bq (show ∀ x,x∈[w.heap.size]->x=w.heap.size from fun x hx=>by simpa using hx);clear RES_;clear rf;have RES7:=DBox.row4 RES rfl (J Ab Y.now) (J Ab Y.seq) (Aa s.1.a s.1.n s.1.c) (Aa s.2.a s.2.n s.2.c);have h7:=h.chg bX (fun x hx=>by have:=pY.out _ hx;omega);have sB:=aH.out.chgLow bX Bl;have oy7:=Bu.ow_chg (F:=F) (x:=Y) (s:=s) oy bX (fun x hx hx2=>by have h8:=pY.out x hx2;have h9:=(hF.out x hx).1;omega);have fL:=hC.more bX (Bs _);obtain ⟨A7,c7,sR,-⟩:=_root_.id (Rd.of_own sB.1);subst sR;have kR:=sB.owl mX.out;have sE:=sB.2.2.2;have hvb:=Bq (fun g (hg:(Value.slice A7 rs.length c7).ownBlock=Ad g)=>(sB.1.within g hg).1);clear RES h oy hC aH bX sB;generalize (((w5.setCell ⟨w,0,Ac⟩ (J Ab Y.now)).setCell ⟨w,1,Ac⟩ (J Ab Y.seq)).setCell ⟨w,2,Ac⟩ (Aa s.1.a s.1.n s.1.c)).setCell ⟨w,3,Ac⟩ (Aa s.2.a s.2.n s.2.c)=w7 at *
   go_wp2;refine Ak (Agx RES7) rfl ⟨⟨A7,rs.length,c7⟩,_,s,F,by rw [he.out],by rw [he.out];exact kR,fun x hx=>?_,by rw [he.out];exact oy7,fun x hx=>by have:=(hF.out x hx).1;omega,by rw [he.out];exact h7,fL⟩;rcases Bi.1 hx with hx | hx
   ·have h1:=hvb.out x (Ho _ _ _ hx);omega
   ·have h1:=(sE x hx).1;omega
theorem Ms {l:List Task} {u:Nat} (hu:u<l.length) (y:Task) (b:Nat):(l.set u y).getD b ⟨0,0,0,0⟩=if b=u then y else l.getD b ⟨0,0,0,0⟩:=by
 rw [List.getD_eq_getElem?_getD,List.getD_eq_getElem?_getD,List.getElem?_set];by_cases e:u=b
 ·subst e;simp [hu]
 ·rw [if_neg e,if_neg (fun hh=>e hh.symm)]
theorem Ah4 (l:List Task) (f:Task->Task) {b:Nat} (hb:b<l.length):(l.map f).getD b ⟨0,0,0,0⟩=f (l.getD b ⟨0,0,0,0⟩):=by
 simp [List.getD_eq_getElem?_getD,hb]
theorem Li (r:Run) (b:Nat):By r b=r.tasks.getD b ⟨0,0,0,0⟩:=rfl
theorem Jo {r:Run} {s:Int} {b:Nat} (hb:b<r.tasks.length):By (C8 r s) b=Dj (By r b):=Ah4 _ _ hb
theorem Md (x:Task):(Dj x).state≠1/\(Dj x).state≠2/\(Dj x).state≠3:=by
 rcases Np x with ⟨a,_⟩ | ⟨a,_⟩ | ⟨a,_⟩<;>rw [a]<;>decide
theorem Un {r:Run} {u:Nat} (h:Ads r) (hu:u<r.tasks.length) (hs:(By r u).state=3):StepR r (Dm r u):=by
 have hR:Iu r u:=⟨h.1,⟨Bl,Bl⟩,hs⟩
 refine ⟨(K6 r u).1,(K6 r u).2,Hd r u,⟨Ue hR,fun t ht h1=>?_⟩,(Mo hR).2.2.2,fun t ht=>?_⟩
 ·rw [Hd] at ht;rw [(K6 r u).2];unfold Dm at h1 ⊢;split at h1
  ·next hm =>
   rw [if_pos hm];rw [Ig hu,Kb,Ms hu,<-Li] at h1 ⊢;by_cases e:t=u
   ·subst e;rw [if_pos rfl] at h1;simp at h1
   ·rw [if_neg e] at h1 ⊢;exact h.2 t ht h1
  ·exfalso;rw [Jo (by simp [Ic];exact ht)] at h1;exact (Md _).1 h1
 unfold Dm;split
 ·rw [Ig hu,Kb,Ms hu,<-Li];by_cases e:t=u
  ·subst e;rw [if_pos rfl];simp [hs]
  ·rw [if_neg e];exact ⟨fun h=>.inr (.inl h),id,fun h=>⟨h,rfl⟩,fun _ h=>h⟩
 ·rw [Jo (by simp [Ic];exact ht)];obtain ⟨a,b,c⟩:=Md (By ⟨r.id,r.plan,r.state,Hc r.tasks u fun x=>⟨5,x.need,x.try_,0⟩⟩ t);exact ⟨fun h=>absurd h b,fun h=>absurd h a,fun h=>absurd h c,fun h=>by simp [C8] at h⟩
theorem Adv {r:Run} (h:Gr r) (hs:r.state=1):Gr (C8 r 4):=by
 have bL:=fun t ht=>Pm h hs (t:=t) ht;have rL:Cp r.tasks 5=0:=by
  unfold Cp;rw [List.length_eq_zero_iff,List.filter_eq_nil_iff];intro x hx;obtain ⟨k,hk,rfl⟩:=List.getElem_of_mem hx
  have:=bL k hk
  rw [Co hk] at this;simp;omega
 have tJ:Cp r.tasks 4≠r.tasks.length:=fun e=>by
  have h5:=h.2.2.2.2.1;unfold stL at h5;rw [if_pos e] at h5;omega
 obtain ⟨a1,a2,a3,a4,a5,a6⟩:=h;have hN:∀ t,Ge (C8 r 4) t=Ge r t:=fun t=>by
  show Gn _ _=Gn _ _;apply L8;intro b;by_cases e:b<r.tasks.length
  ·rw [Jo e];rcases Np (By r b) with ⟨a,b⟩ | ⟨a,b⟩ | ⟨a,b,c⟩
   ·simp [a,b]
   ·simp [a,b]
   ·simp [a,b]
  ·have e1:By (C8 r 4) b=⟨0,0,0,0⟩:=by
    unfold By C8;rw [List.getD_eq_getElem?_getD,List.getElem?_eq_none (by rw [Au];omega)];rfl
   have e2:By r b=⟨0,0,0,0⟩:=by
    unfold By;rw [List.getD_eq_getElem?_getD,List.getElem?_eq_none Bl];rfl
   rw [e1,e2]
 refine ⟨a1,a2,by simpa [C8] using a3,fun t ht=>?_,?_,by simp [C8]⟩
 ·have eI:t<r.tasks.length:=by simpa [C8] using ht
  unfold Gz;rw [hN,Jo eI];obtain ⟨p1,p2,p3,p4,p5,p6,p7,p8⟩:=a4 t eI;show Ls _ _ r.plan.most;unfold Dj;split
  ·refine ⟨Bn,p2,p3,Bn,Bn,Bn,Bn,Bn⟩
  ·exact ⟨p1,p2,p3,p4,p5,p6,p7,p8⟩
 ·obtain ⟨m1,m2,m3⟩:=Zv r.tasks;have hA:=R8 (l:=r.tasks.map Dj) (fun x hx=>by
   obtain ⟨z,hz,rfl⟩:=List.mem_map.1 hx;rcases Np z with ⟨a,_⟩ | ⟨a,_⟩ | ⟨a,_⟩<;>rw [a]<;>decide)
  rw [Au] at hA;have hle:=Ia r.tasks 4;show (4:Int)=stL (r.tasks.map Dj);unfold stL;rw [Au,if_neg Bl,if_neg Bl,if_pos Bl]
theorem Adw {r:Run} (h:Ads r) (hs:r.state=1):StepR r (C8 r 4):=by
 refine ⟨rfl,rfl,by simp [C8],⟨Adv h.1 hs,fun t ht h1=>?_⟩,hs,fun t ht=>?_⟩
 ·rw [Jo (by simpa [C8] using ht)] at h1;exact absurd h1 (Md _).1
 rw [Jo ht];obtain ⟨a,b,c⟩:=Md (By r t);exact ⟨fun h=>absurd h b,fun h=>absurd h a,fun h=>absurd h c,fun h=>by simp [C8] at h⟩
theorem Qz:∀ (L:List Nat) (l:List Task),L.Nodup->(∀ b∈L,b<l.length) -> ∀ t,(L.foldl (fun l b=>Hc l b Da) l).getD t ⟨0,0,0,0⟩=if t∈L then Da (l.getD t ⟨0,0,0,0⟩) else l.getD t ⟨0,0,0,0⟩
 | [],l,_,_,t=>by simp
 | b :: L,l,hn,hl,t=>by
  obtain ⟨h1,h2⟩:=List.nodup_cons.1 hn;have hb:=hl b (List.mem_cons_self ..);rw [List.foldl_cons,Qz L _ h2 (fun x hx=>by rw [Ic];exact hl x (List.mem_cons_of_mem _ hx)) t];have e:Hc l b Da=l.set b (Da (l.getD b ⟨0,0,0,0⟩)):=rfl;rw [e,Ms hb];by_cases q:t=b
  ·subst q;rw [if_pos rfl,if_neg h1,if_pos (List.mem_cons_self ..)]
  ·rw [if_neg q];by_cases q2:t∈L
   ·rw [if_pos q2,if_pos (List.mem_cons_of_mem _ q2)]
   ·rw [if_neg q2,if_neg (fun hm=>by rcases List.mem_cons.1 hm with h | h;exact q h;exact q2 h)]
theorem Ah5 {r:Run} {u:Nat} (hu:u<r.tasks.length) (hT:r.plan.tasks.toNat=r.tasks.length) (hc:u∉D9 (Dr r.plan) r.plan.tasks.toNat u) (t:Nat) :
  By (Gs r u) t=if t=u then ⟨4,(By r u).need,(By r u).try_,0⟩ else if t∈D9 (Dr r.plan) r.plan.tasks.toNat u then Da (By r t) else By r t:=by
 show (I5 r u).getD t _=_;unfold I5;have hm:Hc r.tasks u (fun x=>⟨4,x.need,x.try_,0⟩)=r.tasks.set u ⟨4,r.tasks[u].need,r.tasks[u].try_,0⟩:=Ig hu _;rw [Qz (D9 (Dr r.plan) r.plan.tasks.toNat u) (Hc r.tasks u fun x=>⟨4,x.need,x.try_,0⟩) (List.nodup_range.filter _) (fun b hb=>by rw [Ic];have:=N4 _ _ _ b hb;omega) t,hm,Ms hu,<-Li];by_cases e:t=u
 ·subst e;rw [if_neg hc,if_pos rfl,if_pos rfl,Co hu]
 ·rw [if_neg e,if_neg e]
theorem Uo {r r':Run} {u:Nat} (hu:(By r u).state≠4) (hu':(By r' u).state=4) (h:∀ b,b≠u->((By r b).state=4 ↔ (By r' b).state=4)):∀ L:List Nat,L.Nodup->Gn r' L+(if u∈L then 1 else 0)=Gn r L
 | [],_=>rfl
 | b :: L,hn=>by
  obtain ⟨h1,h2⟩:=List.nodup_cons.1 hn;have ih:=Uo hu hu' h L h2;unfold Gn at *
  by_cases e:b=u
  ·subst e;rw [if_neg h1] at ih;simp [hu,hu'] at ih ⊢;omega
  ·have e':¬ u=b:=fun h=>e h.symm;have hb:=h b e;by_cases q:(By r b).state=4
   ·have q':=hb.1 q;simp [q,q',e'] at ih ⊢;exact ih
   ·have q':¬ (By r' b).state=4:=fun hh=>q (hb.2 hh);simp [q,q',e'] at ih ⊢;omega
theorem Agz {es:List (Nat×Nat)} {u:Nat} (h:(u,u)∈es):Pg.Reach es u u:=by
 exact Pg.Reach.one h
theorem Ae3 {r:Run} {u:Nat} (hf:Ads r) (hu:u<r.tasks.length) (hs:(By r u).state=3):StepR r (Gs r u):=by
 have h:=hf.1;have hR:Iu r u:=⟨h,⟨Bl,Bl⟩,hs⟩
 obtain ⟨l5,l6,l4,ls⟩:=Mo hR;have bL:=fun t ht=>Pm h ls (t:=t) ht;obtain ⟨a1,a2,a3,a4,a5,a6⟩:=h;obtain ⟨dD,cH,bI,nB⟩:=Cs.1 a2;have hT:r.plan.tasks.toNat=r.tasks.length:=Bl;have hes1:∀ e∈Dr r.plan,e.1<r.plan.tasks.toNat/\e.2<r.plan.tasks.toNat:=by
  intro e he;unfold Dr esL at he;obtain ⟨x,hx,rfl⟩:=List.mem_map.1 he
  have:=cH x hx
  unfold I9 at this;simp only [Bool.and_eq_true,Ct] at this;dsimp only;omega
 have hBh:∀ t,t∈D9 (Dr r.plan) r.plan.tasks.toNat u ↔ u∈Dv (Dr r.plan) r.plan.tasks.toNat t:=fun t=>by
  rw [Ub (fun e he=>(hes1 e he).2),Acx (fun e he=>(hes1 e he).1)]
 have hc:u∉D9 (Dr r.plan) r.plan.tasks.toNat u:=fun hm=>by
  rw [Ub (fun e he=>(hes1 e he).2)] at hm;exact nB ⟨u,Bl,Agz hm⟩
 have hat:=Ah5 hu hT hc
 -- those behind it wait
 have hw:∀ t,t<r.tasks.length->t∈D9 (Dr r.plan) r.plan.tasks.toNat u->(By r t).state=1/\1<=(By r t).need:=by
  intro t ht hm;have h1:=a4 t ht;have h2:=bL t ht;obtain ⟨p1,p2,p3,p4,p5,p6,p7,p8⟩:=h1;have h3:1<=Ge r t:=by
   unfold Ge Gn;apply List.length_pos_of_mem (a:=u);rw [List.mem_filter];exact ⟨(hBh t).1 hm,by simp [hs]⟩
  have h4:1<=(By r t).need:=Bl;refine ⟨?_,h4⟩;rcases (show (By r t).state=1\/(By r t).state=2\/(By r t).state=3\/(By r t).state=4 by omega) with e | e | e | e
  ·exact e
  ·have:=(p7 e).1;omega
  ·have:=(p8 (.inl e)).1;omega
  ·have:=(p8 (.inr (.inl e))).1;omega
 have h4':∀ b,b≠u->((By r b).state=4 ↔ (By (Gs r u) b).state=4):=fun b hb=>by
  rw [hat,if_neg hb];by_cases q:b∈D9 (Dr r.plan) r.plan.tasks.toNat u
  ·rw [if_pos q];have kG:b<r.tasks.length:=by have:=N4 _ _ _ b q;omega
   have:=hw b kG q
   unfold Da;dsimp only;split<;>omega
  ·rw [if_neg q]
 have hu4:(By (Gs r u) u).state=4:=by rw [hat,if_pos rfl]
 have hN:∀ t,Ge (Gs r u) t+(if t∈D9 (Dr r.plan) r.plan.tasks.toNat u then 1 else 0)=Ge r t:=fun t=>by
  have:=Uo (r:=r) (r':=Gs r u) (u:=u) Bl hu4 h4' (Dv (Dr r.plan) r.plan.tasks.toNat t) (List.nodup_range.filter _)
  by_cases q:t∈D9 (Dr r.plan) r.plan.tasks.toNat u
  ·rw [if_pos q];rw [if_pos ((hBh t).1 q)] at this;exact this
  ·rw [if_neg q];rw [if_neg (fun hh=>q ((hBh t).2 hh))] at this;exact this
 have aK:=Ns r u;have bY:∀ t,t<r.tasks.length->(By (Gs r u) t).state<=4:=fun t ht=>by
  have h1:=bL t ht;rw [hat];split
  ·simp
  ·split
   ·unfold Da;dsimp only;split<;>omega
   ·exact h1.2
 have rL:∀ s:Int,4<s->Cp (Gs r u).tasks s=0:=fun s mK=>by
  unfold Cp;rw [List.length_eq_zero_iff,List.filter_eq_nil_iff];intro x hx;obtain ⟨k,hk,rfl⟩:=List.getElem_of_mem hx
  have:=bY k Bl
  rw [Co hk] at this;simp;omega
 have aY:Gr (Gs r u):=by
  refine ⟨a1,a2,by show ((Gs r u).tasks.length:Int)=_;rw [aK];exact a3,fun t ht=>?_,rfl,?_⟩
  ·have eI:t<r.tasks.length:=Bl;have hNt:=hN t;obtain ⟨p1,p2,p3,p4,p5,p6,p7,p8⟩:=a4 t eI;show Ls (By (Gs r u) t) (Ge (Gs r u) t) r.plan.most;by_cases e:t=u
   ·subst e;rw [if_neg hc] at hNt;have h8:=p8 (.inl hs);rw [hat,if_pos rfl];refine ⟨Bn,by show (By r t).need=_;omega,p3,Bn,Bn,Bn,Bn,fun _=>h8⟩
   ·by_cases q:t∈D9 (Dr r.plan) r.plan.tasks.toNat u
    ·rw [if_pos q] at hNt;obtain ⟨q1,q2⟩:=hw t eI q;have h5:=p5 Bl;have hmost:1<=r.plan.most:=by
      unfold Eg at dD;simp only [Bool.and_eq_true,Ct] at dD;omega
     rw [hat,if_neg e,if_pos q];unfold Da;by_cases z:(By r t).need - 1=0
     ·rw [if_pos z];refine ⟨Bn,by show (By r t).need - 1=_;omega,p3,Bn,fun _=>h5,Bn,fun _=>⟨z,?_⟩,Bn⟩;exact hf.2 t eI q1
     ·rw [if_neg z,q1];refine ⟨Bn,by show (By r t).need - 1=_;omega,p3,Bn,fun _=>h5,fun _=>by show 0<(By r t).need - 1;omega,Bn,Bn⟩
    ·rw [if_neg q] at hNt;rw [hat,if_neg e,if_neg q];exact ⟨p1,Bl,p3,p4,p5,p6,p7,p8⟩
  ·show stL (Gs r u).tasks≠0;unfold stL;have c5:=rL 5 Bp;have c6:=rL 6 Bp;split
   ·decide
   ·rw [if_neg Bl,if_neg Bl,if_pos ⟨c5,c6⟩];decide
 have gE:∀ t,t<(Gs r u).tasks.length->(By (Gs r u) t).state=1->(By (Gs r u) t).try_<(Gs r u).plan.most:=fun t ht h1=>by
  show _<r.plan.most;rw [hat] at h1 ⊢;split at h1
  ·simp at h1
  ·next aE =>
   rw [if_neg aE];split at h1
   ·next hm =>
    rw [if_pos hm]
    have:=hw t Bl hm
    unfold Da;split<;>exact hf.2 t Bl this.1
   ·next hm =>
    rw [if_neg hm];exact hf.2 t Bl h1
 refine ⟨rfl,rfl,aK,⟨aY,gE⟩,ls,fun t ht=>?_⟩;rw [hat];by_cases e:t=u
 ·subst e;rw [if_pos rfl];simp [hs]
 ·rw [if_neg e];by_cases q:t∈D9 (Dr r.plan) r.plan.tasks.toNat u
  ·rw [if_pos q]
   have:=hw t ht q
   unfold Da;dsimp only;split
   ·simp [this.1]
   ·simp [this.1]
  ·rw [if_neg q];exact ⟨fun h=>.inr (.inl h),id,fun h=>⟨h,rfl⟩,fun _ h=>h⟩
theorem Za:Cf Fg<=2000000:=Bp
noncomputable def Dk (l:List Deed):Yard:=l.foldl (fun y d=>(doO y d).1) Fg
theorem Adx (l:List Deed) (d:Deed):Dk (l ++ [d])=(doO (Dk l) d).1:=by unfold Dk;rw [List.foldl_append];rfl
theorem Aaa:∀ (l:List Deed) (y:Yard),Cf y<=2000000->Cf (l.foldl (fun y d=>(doO y d).1) y)<=2000000
 | [],_,h=>h
 | d :: l,y,h=>Aaa l _ (Abm h)
theorem Ae4 (l:List Deed):Cf (Dk l)<=2000000:=Aaa l _ Za
noncomputable def Oo (z:Yard) (id:Int):Bool:=tf (0<=Db z id /\ ¬ (Ij z id).state=1)
noncomputable def To (l:List Deed):List Yard:=(List.range l.length).map fun k=>Dk (l.take (k+1))
noncomputable def St (l:List Deed) (id:Int):Int:=if 400<l.length then -1 else He (fun z=>Oo z id) (To l)
theorem Yc (l:List Deed):(To l).length=l.length:=by unfold To;simp
theorem Tp (l:List Deed) (k:Nat) (h:k<(To l).length):(To l)[k]=Dk (l.take (k+1)):=by simp [To]
theorem Up {l:List Deed} {id:Int} {k:Nat} (h4:¬ 400<l.length) (hk:k<l.length) (hn:∀ j,j<k->Oo (Dk (l.take (j+1))) id=false) (hy:Oo (Dk (l.take (k+1))) id=true):St l id=k:=by
 unfold St;rw [if_neg h4];exact It (by rw [Yc];exact hk) (fun j hj=>by rw [Tp];exact hn j hj) (by rw [Tp];exact hy)
theorem Yd {l:List Deed} {id:Int} (h4:¬ 400<l.length) (hn:∀ j,j<l.length->Oo (Dk (l.take (j+1))) id=false):St l id = -1:=by
 unfold St;rw [if_neg h4];exact Jd (fun j hj=>by rw [Tp];exact hn j (by rw [Yc] at hj;exact hj))
theorem Ye (l:List Deed) (s:Sl) (id:Int) (w:World) (hl:Kv Iy l<=2000000) (h:RdL Fb w w s.v l) :
  Calls An 28 #[Aa s.a s.n s.c,J Ab id] w fun e w'=>e = .returned (J Ab (St l id))/\Below w w w':=by
 obtain ⟨A,n,c⟩:=s;obtain rfl:n=l.length:=RdL.at1 (s:=⟨A,n,c⟩) h;have uQ:l.length<=2000000:=Ai (Cv Iy _) hl;have hed:=Bq (show ∀ k (hk:k<l.length),l[k].plan.edges.length<=2000000 from fun k hk=>by
  have h1:=Gw (cnt:=Iy) (Ax hk);have h2:Iy l[k]=l[k].plan.edges.length:=Hz (fun _=>rfl) _;omega)
 by_cases q:400<l.length
 ·have qI:(400:Int)<(l.length:Int):=Bl;have H:=Bq (show St l id = -1 from if_pos q);rw [H.out];go_enter func28,ntmps28;go_wp2;go_ret;exact ⟨rfl,Br _ _⟩
 have qI:¬ (400:Int)<(l.length:Int):=Bl;have h4:=Bq q;go_enter func28,ntmps28;go_wp2_with fail
 refine (U4 w).mono ?_;rintro e1 w1 ⟨⟨⟨B1,m1,e1⟩,⟨B2,m2,e2⟩⟩,F,rfl,oy,nF,b1⟩;have bG:=b1.size;have cI:=Bu.ow_lt (F:=F) (x:=Fg) (s:=(⟨B1,m1,e1⟩,⟨B2,m2,e2⟩)) oy;go_upto_region 4 with fail
 have YB:=DBox.new 31 (Ev Fg (⟨B1,m1,e1⟩,⟨B2,m2,e2⟩)) w1 (b:=w1) rfl;have b2:Below w1 w1 (w1.alloc (.cells (Ev Fg (⟨B1,m1,e1⟩,⟨B2,m2,e2⟩)).toArray 31)):=Bt;replace oy:Bu.ow _ F Fg (⟨B1,m1,e1⟩,⟨B2,m2,e2⟩):=owB oy b2;have B0:=Bv b1 b2;have uG:=YB.lt;clear b2 b1;generalize w1.alloc (.cells (Ev Fg (⟨B1,m1,e1⟩,⟨B2,m2,e2⟩)).toArray 31)=w2 at *
 generalize hyb:w1.heap.size=yb at *
 have fW:Hid (∀ x∈F,x≠yb):=fun x hx=>by have:=cI x hx;omega
 clear nF cI;go_wp2;go_loopw [15] (fun iv wr=>∃ (k:Nat) (s:Sl×Sl) (F:List Nat),k<=l.length/\iv = J Ab k/\Hid (∀ j,j<k->Oo (Dk (l.take (j+1))) id=false)/\Hid (Bu.ow wr F (Dk (l.take k)) s /\ ∀ x∈F,x≠yb)/\DBox yb (Ev (Dk (l.take k)) s) wr/\Below w w wr) (fun i _=>l.length - (intOf i).toNat);case atStart=>exact ⟨0,(⟨B1,m1,e1⟩,⟨B2,m2,e2⟩),F,Nat.zero_le _,rfl,fun j hj=>absurd hj Bl,⟨oy,fW.out⟩,YB,B0⟩
 case round =>
  clear oy fW YB B0 uG;obtain ⟨k,s,F,hk,rfl,bY,hO,YB,hb⟩:=hrel;have uG:=YB.lt;have cJ:=hb.size;by_cases aB:k<l.length
  ·have aC:(k:Int)<(l.length:Int):=Bl;have hk400:k<=400:=by have:=h4.out;omega
   have nB:=Bq (Ae4 (l.take k));have aF:=Bq (show Dk (l.take (k+1))=(doO (Dk (l.take k)) l[k]).1 by rw [Cy l k aB,Adx]);obtain ⟨db,od,sd,rfl,hdb,rX,c0,c1,c2,c3,c4,c5,c6,c7,c8,c9,c10⟩:=(h.below hb).deed aB;have hdw:db<wr:=Bl;have hedk:=hed.out k aB;have hfn:=Bq (fun (hy:Oo (Dk (l.take (k+1))) id=true)=>Up h4.out aB bY.out hy);have hrdW:=Bq (show ∀ W,Below wr wr W->Fb.rd W W l[k] sd from fun W hW=>Fb.rd_more (Fb.rd_below (Fb.rd_more rX cJ) hW) hW.size);clear rX;rw [aF.out] at hfn;have oy:=hO.out.1;have hFy:=hO.out.2;clear hO;generalize Dk (l.take k)=Z at *
   generalize l[k]=d at *
   have DB:=DBox.new 45 [J Ab d.kind,J Ab d.run,J Ab d.plan.prio,J Ab d.plan.most,J Ab d.plan.wait,J Ab d.plan.tasks,Aa sd.a sd.n sd.c,J Ab d.task,J Ab d.try_,J Ab d.worker,J Ab d.draw] wr (b:=wr) rfl;have b4:Below wr wr (wr.alloc (.cells #[J Ab d.kind,J Ab d.run,J Ab d.plan.prio,J Ab d.plan.most,J Ab d.plan.wait,J Ab d.plan.tasks,Aa sd.a sd.n sd.c,J Ab d.task,J Ab d.try_,J Ab d.worker,J Ab d.draw] 45)):=Bt;go_upto_region 7 with fail
   replace YB:=YB.below b4;replace oy:Bu.ow _ F Z s:=owB oy b4;have cL:=Bv hb b4;have kH:=b4.size;have CD:=Bq (Ae2 Z s d sd _ nB.out hedk (Bu.ow_rd (F:=F) (x:=Z) (s:=s) oy) (hrdW.out _ b4));clear b4 c0 c1 c2 c3 c4 c5 c6 c7 c8 c9 c10;generalize wr.alloc (.cells #[J Ab d.kind,J Ab d.run,J Ab d.plan.prio,J Ab d.plan.most,J Ab d.plan.wait,J Ab d.plan.tasks,Aa sd.a sd.n sd.c,J Ab d.task,J Ab d.try_,J Ab d.worker,J Ab d.draw] 45)=w4 at *
   have YB_:=YB.g4;have DB_:=DB.g11;have qE:=Bq (Abm (d:=d) nB.out);generalize doO Z d=o at *
   obtain ⟨z,rep⟩:=o;dsimp only at aF qE hfn;go_wp2_with fail
   refine CD.out.mono ?_;rintro e6 w6 ⟨s6,F6,rfl,oy6,n6,b6⟩;replace oy6:Bu.ow w6 F6 z s6:=oy6;clear YB_;clear DB_;clear DB CD;replace YB:=YB.below b6;have rF:=Bv cL b6;have mH:∀ x∈F6,w4<=x:=n6;clear n6 oy b6;have YB_:=YB.g4;have ybf:=YB.free;go_upto_region 8 with fail
   clear YB_;clear ybf;have bX:=Chg.cells4 w6 yb 0 1 2 3 (J Ab z.now) (J Ab z.seq) (Aa s6.1.a s6.1.n s6.1.c) (Aa s6.2.a s6.2.n s6.2.c);have pY:=Bq (show ∀ x,x∈[yb]->x=yb from fun x hx=>by simpa using hx);have hyn:w<=yb:=Bl;have kW:Hid (∀ x∈F6,x≠yb):=fun x hx=>by have:=mH x hx;omega
   have YB7:=DBox.row4 YB rfl (J Ab z.now) (J Ab z.seq) (Aa s6.1.a s6.1.n s6.1.c) (Aa s6.2.a s6.2.n s6.2.c);have oy7:Bu.ow _ F6 z s6:=owC oy6 bX (fun x hx hx2=>kW.out x hx (pY.out x hx2));have qM:=rF.trans (bX.below (by have:=rF.size;omega) (fun x hx=>by have:=pY.out x hx;omega));clear YB oy6 bX mH rF hFy;generalize (((w6.setCell ⟨yb,0,Ac⟩ (J Ab z.now)).setCell ⟨yb,1,Ac⟩ (J Ab z.seq)).setCell ⟨yb,2,Ac⟩ (Aa s6.1.a s6.1.n s6.1.c)).setCell ⟨yb,3,Ac⟩ (Aa s6.2.a s6.2.n s6.2.c)=w7 at *
   have CA:=Bq (Ep z s6 id w7 qE.out (Bu.ow_rd (F:=F6) (x:=z) (s:=s6) oy7));have YB:=YB7;have YB_:=YB.g4;go_wp2_with fail
   refine CA.out.mono ?_;rintro e8 w8 ⟨rfl,b8⟩;clear YB_;replace YB7:=YB7.below b8;replace oy7:Bu.ow w8 F6 z s6:=owB oy7 b8;replace qM:=Bv qM b8;clear b8 CA YB;have YB:=YB7;have YB_:=YB.g4;rcases Ek z id with eB | ⟨j,hj,eB⟩
   ·have hB:Oo z id=false:=Cm (fun hh=>Bl);have jH:=Bq (show ∀ j,j<k+1->Oo (Dk (l.take (j+1))) id=false from fun j hj=>by
     by_cases e:j=k
     ·subst e;rw [aF.out];exact hB
     ·exact bY.out j Bl)
    rw [eB];clear hB eB;go_wp2;exact ⟨⟨k+1,s6,F6,Bl,by go_num,jH.out,by rw [aF.out];exact ⟨oy7,kW.out⟩,by rw [aF.out];exact YB7,qM⟩,clM⟩
   ·obtain ⟨s61,⟨ra,rn,rc⟩⟩:=s6;have orr:=(Bu.ow_rd (F:=F6) (x:=z) (s:=(s61,⟨ra,rn,rc⟩)) oy7).2;obtain rfl:rn=z.runs.length:=RdL.at1 (s:=⟨ra,rn,rc⟩) orr;obtain ⟨gr,orr0,-,rfl,sU,-,-,-,-,-,-,-,cst,-⟩:=RdL.run (show RdL Cn w8 w8.heap.size (Aa ra z.runs.length rc) z.runs from orr) hj;have gL:(j:Int)<(z.runs.length:Int):=Bl;have bZ:(0:Int)<=(j:Int):=Bl;have bR:=Ey hj eB;by_cases bL:z.runs[j].state=1
    ·have hB:Oo z id=false:=Cm (fun hh=>hh.2 (by rw [bR];exact bL));have jH:=Bq (show ∀ j,j<k+1->Oo (Dk (l.take (j+1))) id=false from fun j hj=>by
      by_cases e:j=k
      ·subst e;rw [aF.out];exact hB
      ·exact bY.out j Bl)
     have uY:(z.runs[j].state != 1)=false:=by simp [bL]
     rw [eB];clear hB eB bR bL;go_wp2;exact ⟨⟨k+1,(s61,⟨Ad ⟨gr,orr0,Ac⟩,z.runs.length,rc⟩),F6,Bl,by go_num,jH.out,by rw [aF.out];exact ⟨oy7,kW.out⟩,by rw [aF.out];exact YB7,qM⟩,clM⟩
    ·have hB:Oo z id=true:=Ds ⟨Bl,by rw [bR];exact bL⟩;have hE:=Bq (hfn.out hB);have uY:(z.runs[j].state != 1)=true:=by simp [bL]
     rw [eB];clear hB eB bR bL hfn;go_wp2;go_ret;exact ⟨by rw [hE.out];rfl,qM⟩
  ·have aC:¬ (k:Int)<(l.length:Int):=Bl;have hE:=Bq (show St l id = -1 from Yd h4.out (fun j hj=>bY.out j Bl));go_wp2;go_ret;exact ⟨by rw [hE.out];rfl,hb⟩
noncomputable def Qf (code:List UInt8) (c:Cur):Yard×Cur :=
 ((Ew code (Bw code 26 c).2 (Bw code 26 c).1.toNat).1.2,(Ew code (Bw code 26 c).2 (Bw code 26 c).1.toNat).2)
def Ah6 (b:Nat) (v:Value) (code:List UInt8) (r:Yard×Cur) (w:World) (e:Ending) (w':World):Prop :=
 ∃ (s:Sl×Sl) (F:List Nat),e = .returned (Dh r.1 s)/\Bu.ow w' F r.1 s/\(∀ x∈F,w<=x)/\Drw b v code r.2 w'/\Chg [b] w w'
theorem Ag0 {b:Nat} {w:World} {u0 u1 u2 u3:Value} (X:DBox b [u0,u1,u2,u3] w) {v0 v1:Value} {rest:List Value} :
  (results Tryz.f76 (v0 :: v1 :: .pointer (Ad ⟨b,0,Ac⟩) :: rest).toArray).run An w = .ok (.agg #[u0,u1,u2,u3]) w:=by
 have c0:=X.cell 0 _ rfl;have c1:=X.cell 1 _ rfl;have c2:=X.cell 2 _ rfl;have c3:=X.cell 3 _ rfl;simp [results,results76,go_sem,c0,c1,c2,c3]
theorem Ag1 {b:Nat} {w:World} {u0 u1 u2 u3:Value} (X:DBox b [u0,u1,u2,u3] w) {v0 v1:Value} {rest:List Value} :
  (results Tryz.f19 (v0 :: v1 :: .pointer (Ad ⟨b,0,Ac⟩) :: rest).toArray).run An w = .ok (.agg #[u0,u1,u2,u3]) w:=by
 have c0:=X.cell 0 _ rfl;have c1:=X.cell 1 _ rfl;have c2:=X.cell 2 _ rfl;have c3:=X.cell 3 _ rfl;simp [results,results19,go_sem,c0,c1,c2,c3]
theorem Ah7 (b:Nat) (v:Value) (code:List UInt8) (c:Cur) (w:World) (h:Drw b v code c w) :
  Calls An 76 #[.pointer (Ad ⟨b,0,Ac⟩)] w (Ah6 b v code (Qf code c) w):=by
 have hb:=h.box.lt;have aV:=Bq (show ∀ x,x∈[b]->x=b from fun x hx=>by simpa using hx);obtain ⟨W,aG,RES,B0⟩:=bx1 w 31 [J Ab 0,J Ab 0,Aa Ac 0 0,Aa Ac 0 0];replace h:=h.below B0;go_enter func76,ntmps76;go_wp2_with fail
 rw [<-aG.out];clear aG;have hWl:w.heap.size<W.heap.size:=RES.lt;refine (E8 26 b v code c W Bl h).mono ?_;rintro e1 w1 ⟨rfl,h1,c1⟩;have r1:=Dz code (n:=26) c Bl;have hdef:Hid (Qf code c=((Ew code (Bw code 26 c).2 (Bw code 26 c).1.toNat).1.2,(Ew code (Bw code 26 c).2 (Bw code 26 c).1.toNat).2)):=rfl;generalize Qf code c=R at *
 generalize Bw code 26 c=a at *
 obtain ⟨a,ca⟩:=a;dsimp only at *
 obtain ⟨n,rfl⟩:=Aq r1.1;rw [Ap] at hdef;have D:=Bq (Agy b v code ca n w1 Bl h1);generalize Ew code ca n=p at *
 obtain ⟨⟨L,Y⟩,cy⟩:=p;dsimp only at hdef;subst R;clear r1 h1;go_wp2_with fail
 refine D.out.mono ?_;rintro e2 w2 ⟨l,F1,s,F2,rfl,ol,nl,oy,ny,h2,c2⟩;dsimp only at oy h2 ⊢;replace oy:Bu.ow w2 F2 Y s:=oy;replace RES:=(RES.chg c1 (fun hx=>by have:=aV.out _ hx;omega)).chg c2 (fun hx=>by have:=aV.out _ hx;omega);have bG:=c1.size;have cN:=c2.size;have CC:=(Chg.of_below [b] B0).trans (c1.trans c2);clear c1 c2 ol nl D B0;have Z:=DBox.new 31 (Ev Y s) w2 (b:=w2) rfl;have b3:Below w2 w2 (w2.alloc (.cells (Ev Y s).toArray 31)):=Bt;go_upto_region 2 with fail
 replace RES:=RES.below b3;replace oy:Bu.ow _ F2 Y s:=owB oy b3;replace h2:=h2.below b3;replace CC:=CC.trans (Chg.of_below [b] b3);have fS:=Z.lt;have hW2:w.heap.size<w2.heap.size:=Bl;clear b3;generalize w2.alloc (.cells (Ev Y s).toArray 31)=w3 at *
 have cM:w.heap.size∉F2:=fun hx=>by have:=ny _ hx;omega
 have HF:Hid (∀ W,W=(((w3.setCell ⟨w,0,Ac⟩ (J Ab Y.now)).setCell ⟨w,1,Ac⟩ (J Ab Y.seq)).setCell ⟨w,2,Ac⟩ (Aa s.1.a s.1.n s.1.c)).setCell ⟨w,3,Ac⟩ (Aa s.2.a s.2.n s.2.c) ->
   DBox w (Ev Y s) W/\Ah6 b v code (Y,cy) w (.returned (Dh Y s)) W):=by
  rintro W rfl;exact ⟨(((RES.put 0 Bn _).put 1 Bn _).put 2 Bn _).put 3 Bn _,s,F2,rfl,Dt.set4 Bu oy cM,fun x hx=>by have:=ny x hx;omega,(((h2.setNew (by show b<w;omega) _).setNew (by show b<w;omega) _).setNew (by show b<w;omega) _).setNew (by show b<w;omega) _,
   (((CC.setNew (Bs _)).setNew (Bs _)).setNew (Bs _)).setNew (Bs _)⟩
 clear CC h2 oy;obtain ⟨⟨B1,m1,e1⟩,⟨B2,m2,e2⟩⟩:=s;have rf:=RES.free;have RES_:=RES.g4;have Z_:=Z.g4;go_wp2;obtain ⟨X,hD⟩:=HF.out _ rfl;exact Ak (Ag0 X) rfl hD
noncomputable def Me (code:List UInt8):Yard:=(Qf code (Hj code)).1
def Ah8 (code:List UInt8) (w:World) (e:Ending) (w':World):Prop:=∃ (s:Sl×Sl),e = .returned (Dh (Me code) s)/\Bu.rd w' w' (Me code) s/\Below w w w'
theorem Abq (v:Value) (code:List UInt8) (w:World) (hs:code.length<=1048576) (h:Rd Jx w w v code) :
  Calls An 19 #[v] w (Ah8 code w):=by
 obtain ⟨A,cap,rfl,-⟩:=_root_.id h;obtain ⟨W,aG,RES,B0⟩:=bx1 w 31 [J Ab 0,J Ab 0,Aa Ac 0 0,Aa Ac 0 0];replace h:=(h.below B0).more B0.size;go_enter func19,ntmps19;go_wp2_with fail
 rw [<-aG.out];clear aG;refine (Afe _ code W hs h).mono ?_;rintro e1 w1 ⟨_,rfl,rfl,h1,b1⟩;have CN:=Bq (Ah7 W _ code (Hj code) w1 h1);have pU:Hid (Me code=(Qf code (Hj code)).1):=rfl;generalize Qf code (Hj code)=P at *
 obtain ⟨Y,cy⟩:=P;dsimp only at pU;have hWl:=RES.lt;go_wp2_with fail
 refine CN.out.mono ?_;rintro e2 w2 ⟨s,F2,rfl,oy,ny,h2,cc⟩;dsimp only at oy ⊢;clear CN h;have aE:∀ x,x∈[W.heap.size]->x=W.heap.size:=fun x hx=>by simpa using hx
 replace RES:=(RES.below b1).chg cc (fun hx=>by have:=aE _ hx;omega);have BB:Below w w w2:=(Bv B0 b1).trans (cc.below (by have:=B0.size;have:=b1.size;omega) (fun x hx=>by have:=aE _ hx;omega));have bG:=b1.size;have cM:w.heap.size∉F2:=fun hx=>by have:=ny _ hx;omega
 replace oy:Bu.ow w2 F2 Y s:=oy;have HF:Hid (∀ W,W=(((w2.setCell ⟨w,0,Ac⟩ (J Ab Y.now)).setCell ⟨w,1,Ac⟩ (J Ab Y.seq)).setCell ⟨w,2,Ac⟩ (Aa s.1.a s.1.n s.1.c)).setCell ⟨w,3,Ac⟩ (Aa s.2.a s.2.n s.2.c) ->
   DBox w (Ev Y s) W/\Ah8 code w (.returned (Dh Y s)) W):=by
  rintro W rfl;exact ⟨(((RES.put 0 Bn _).put 1 Bn _).put 2 Bn _).put 3 Bn _,s,by rw [pU.out],by rw [pU.out];exact Bu.ow_rd (Dt.set4 Bu oy cM),(((BB.setCell (Bs _) _).setCell (Bs _) _).setCell (Bs _) _).setCell (Bs _) _⟩
 clear oy ny BB h1 h2 cc b1 cM pU;obtain ⟨⟨B1,m1,e1⟩,⟨B2,m2,e2⟩⟩:=s;have rf:=RES.free;have RES_:=RES.g4;go_wp2;obtain ⟨X,h3⟩:=HF.out _ rfl;exact Ak (Ag1 X) rfl h3
theorem Hg {id:Int} {t:Nat} {e:Entry} : Gy id t e=true ↔ e.run=id/\e.task=(t:Int):=by
 unfold Gy;simp
theorem Rl (id:Int) (t:Nat) (e:Entry) (l:List Entry):Ec id t (e :: l)=(if Gy id t e=true then 1 else 0)+Ec id t l:=by
 unfold Ec;by_cases h:Gy id t e=true
 ·rw [if_pos h,List.filter_cons,if_pos h,List.length_cons];omega
 ·rw [if_neg h,List.filter_cons,if_neg h];omega
theorem Ag2 {id:Int} {t:Nat} {l:List Entry} (h:Ec id t l=0) {e:Entry} (he:e∈l):¬ Gy id t e=true:=by
 unfold Ec at h;rw [List.length_eq_zero_iff,List.filter_eq_nil_iff] at h;exact h e he
theorem Ady {r:Run} {t:Nat} {now:Int} (h:Ads r) (ht:t<r.tasks.length) (hs:(By r t).state=2) (hn:0<=now/\now<=999999980):Ads (De r t now)/\r.state=1:=by
 have hl:r.state=1:=Decidable.byContradiction fun hh=>(Adt h.1 hh ht).2.1 hs;have bL:=fun b hb=>Pm h.1 hl (t:=b) hb;have hw:=h.2;obtain ⟨a1,a2,a3,a4,a5,a6⟩:=h.1;have dD:=(Cs.1 a2).1;have hwait:1<=r.plan.wait/\r.plan.wait<=20:=by
  unfold Eg at dD;simp only [Bool.and_eq_true,Ct] at dD;omega
 have hat:∀ b,By (De r t now) b=if b=t then ⟨3,(By r t).need,(By r t).try_+1,now+r.plan.wait⟩ else By r b:=fun b=>by
  unfold De;rw [Ig ht,Kb,Ms ht,<-Li,Co ht]
 have hN:∀ b,Ge (De r t now) b=Ge r b:=fun b=>by
  show Gn _ _=Gn _ _;apply L8;intro x;rw [hat];by_cases e:x=t
  ·subst e;rw [if_pos rfl];simp [hs]
  ·rw [if_neg e]
 refine ⟨⟨⟨a1,a2,by simpa [De,Ic] using a3,fun b hb=>?_,?_,a6⟩,fun b hb h1=>?_⟩,hl⟩
 ·have bH:b<r.tasks.length:=by simpa [De,Ic] using hb
  have h4:=a4 b bH;unfold Gz;rw [hN,hat];show Ls _ _ r.plan.most;by_cases e:b=t
  ·subst e;rw [if_pos rfl];obtain ⟨p1,p2,p3,p4,p5,p6,p7,p8⟩:=h4;have h7:=p7 hs;refine ⟨Bn,p2,by show 0<=(By r b).try_+1/\(By r b).try_+1<=r.plan.most;omega,fun _=>by show 1<=now+r.plan.wait/\now+r.plan.wait<=1000000000;omega,Bn,Bn,Bn,fun _=>⟨h7.1,by show 1<=(By r b).try_+1;omega⟩⟩
  ·rw [if_neg e];exact h4
 ·have c:=fun s=>O9 s ⟨3,r.tasks[t].need,r.tasks[t].try_+1,now+r.plan.wait⟩ r.tasks t ht;rw [Co ht] at hs;have c1:=c 1;have c2:=c 2;have c3:=c 3;have c4:=c 4;have c5:=c 5;have c6:=c 6;simp only [hs] at c1 c2 c3 c4 c5 c6;simp at c1 c2 c3 c4 c5 c6;show r.state=stL (Hc r.tasks t fun x=>⟨3,x.need,x.try_+1,now+r.plan.wait⟩);rw [Ig ht,a5];unfold stL Km;rw [Bh,c4,c5,c6];have e:Cp (r.tasks.set t ⟨3,r.tasks[t].need,r.tasks[t].try_+1,now+r.plan.wait⟩) 1+Cp (r.tasks.set t ⟨3,r.tasks[t].need,r.tasks[t].try_+1,now+r.plan.wait⟩) 2+Cp (r.tasks.set t ⟨3,r.tasks[t].need,r.tasks[t].try_+1,now+r.plan.wait⟩) 3=Cp r.tasks 1+Cp r.tasks 2+Cp r.tasks 3:=Bl;rw [e]
 ·have bH:b<r.tasks.length:=by simpa [De,Ic] using hb
  rw [hat] at h1 ⊢;by_cases e:b=t
  ·rw [if_pos e] at h1;simp at h1
  ·rw [if_neg e] at h1 ⊢;exact hw b bH h1
theorem Core.start {now seq:Int} {es es':List Entry} {runs:List Run} {e:Entry} (h:Core now seq es runs) (hn:0<=now/\now<=999999980) (hp:es.Perm (e :: es')) {k t:Nat} (hk:k<runs.length) (he:Gy runs[k].id t e=true) (ht:t<runs[k].tasks.length)
  (hs:(By runs[k] t).state=2):Core now seq es' (runs.set k (De runs[k] t now)):=by
 replace h:=h.perm hp;have bI:=h.runs_nodup;have bR:=Ax hk;obtain ⟨hS,hl⟩:=Ady (h.run _ bR) ht hs hn;have hat:∀ b,By (De runs[k] t now) b=if b=t then ⟨3,(By runs[k] t).need,(By runs[k] t).try_+1,now+runs[k].plan.wait⟩ else By runs[k] b:=fun b=>by
  unfold De;rw [Ig ht,Kb,Ms ht,<-Li,Co ht]
 have aK:(De runs[k] t now).tasks.length=runs[k].tasks.length:=by simp [De,Ic]
 have hwait:1<=runs[k].plan.wait:=by
  have dD:=(Cs.1 (h.run _ bR).1.2.1).1;unfold Eg at dD;simp only [Bool.and_eq_true,Ct] at dD;omega
 have h1t:Ec runs[k].id t es'=0:=by
  have h1:=((h.laid _ bR t ht).1 hs).2;rw [Rl,if_pos he] at h1;omega
 have hoth:∀ id b,¬ (id=runs[k].id/\b=t)->Ec id b es'=Ec id b (e :: es'):=fun id b aE=>by
  rw [Rl,if_neg (fun hm=>aE ⟨by rw [<-(Hg.1 hm).1,(Hg.1 he).1],by have h1:=(Hg.1 hm).2;have h2:=(Hg.1 he).2;omega⟩),Nat.zero_add]
 have tB:De runs[k] t now∈runs.set k (De runs[k] t now):=by
  rw [List.mem_iff_getElem];exact ⟨k,by rw [Bh];exact hk,List.getElem_set_self _⟩
 refine ⟨by rw [Bh];exact h.le8,by rw [Afs hk (show (De runs[k] t now).id=runs[k].id from rfl)];exact h.ids,fun r hr=>?_,fun x hx=>h.seqs x (List.mem_cons_of_mem _ hx),(List.nodup_cons.1 (by simpa using h.nodup)).2,fun x hx=>?_,fun r hr b hb=>?_,?_⟩
 ·rcases Oh bI hk hr with rfl | ⟨h1,_⟩
  ·exact hS
  ·exact h.run r h1
 ·obtain ⟨r,hr,b,hb,hm⟩:=h.home x (List.mem_cons_of_mem _ hx);by_cases bP:r=runs[k]
  ·subst bP;exact ⟨_,tB,b,by rw [aK];exact hb,hm⟩
  ·refine ⟨r,?_,b,hb,hm⟩;obtain ⟨j,hj,rfl⟩:=List.getElem_of_mem hr;have fM:k≠j:=fun e=>bP (by subst e;rfl);rw [List.mem_iff_getElem];exact ⟨j,by rw [Bh];exact hj,by rw [List.getElem_set_ne fM]⟩
 ·rcases Oh bI hk hr with rfl | ⟨h1,h2⟩
  ·have bH:b<runs[k].tasks.length:=Bl;obtain ⟨a1,a2,a3⟩:=h.laid _ bR b bH;unfold Ai9;rw [hat];show _/\(_->Ec runs[k].id b es'=0)/\_;by_cases e2:b=t
   ·subst e2;rw [if_pos rfl];exact ⟨Bn,fun _=>h1t,fun _=>⟨by show now+1<=now+runs[k].plan.wait;omega,Int.le_refl _⟩⟩
   ·rw [if_neg e2];have hE:=hoth runs[k].id b (fun hh=>e2 hh.2);exact ⟨fun cN=>⟨fun x hx hm=>(a1 cN).1 x (List.mem_cons_of_mem _ hx) hm,by show Ec runs[k].id b es'=1;rw [hE];exact (a1 cN).2⟩,fun cN=>by rw [hE];exact a2 cN,a3⟩
  ·obtain ⟨a1,a2,a3⟩:=h.laid r h1 b hb;have hE:=hoth r.id b (fun hh=>h2 (h.index hk h1 hh.1));exact ⟨fun cN=>⟨fun x hx hm=>(a1 cN).1 x (List.mem_cons_of_mem _ hx) hm,by rw [hE];exact (a1 cN).2⟩,fun cN=>by rw [hE];exact a2 cN,a3⟩
 ·have e1:=Sr Ky (De runs[k] t now) runs k hk;have e2:=Sr (fun r=>Cp r.tasks 2) (De runs[k] t now) runs k hk;have e3:=h.slots;rw [Lb] at e3 ⊢;show _<=40+((runs.set k (De runs[k] t now)).map fun r=>Cp r.tasks 2).sum;unfold Lq at e3;have hL:Ky (De runs[k] t now)=Ky runs[k]:=by unfold Ky;rw [aK];rfl
  have hc:Cp (De runs[k] t now).tasks 2+1=Cp runs[k].tasks 2:=by
   have c2:=O9 2 ⟨3,runs[k].tasks[t].need,runs[k].tasks[t].try_+1,now+runs[k].plan.wait⟩ runs[k].tasks t ht;rw [Co ht] at hs;simp only [hs] at c2;simp at c2;have e3:(De runs[k] t now).tasks=runs[k].tasks.set t ⟨3,runs[k].tasks[t].need,runs[k].tasks[t].try_+1,now+runs[k].plan.wait⟩:=Ig ht (fun x=>⟨3,x.need,x.try_+1,now+runs[k].plan.wait⟩);rw [e3];exact c2
  simp only [List.length_cons] at e3
  (try dsimp only at e2)
  omega
theorem Core.drop {now seq:Int} {es es' d:List Entry} {runs:List Run} (h:Core now seq es runs) (hp:es.Perm (d ++ es')) (hd:∀ e∈d,∀ r∈runs,∀ t,t<r.tasks.length->Gy r.id t e=true->(By r t).state≠2):Core now seq es' runs:=by
 replace h:=h.perm hp;refine ⟨h.le8,h.ids,h.run,fun x hx=>h.seqs x (Be _ hx),?_,fun x hx=>h.home x (Be _ hx),fun r hr t ht=>?_,?_⟩
 ·have:=h.nodup
  rw [List.map_append] at this;exact (Ay.1 this).2.1
 ·obtain ⟨a1,a2,a3⟩:=h.laid r hr t ht;refine ⟨fun hs=>⟨fun x hx hm=>(a1 hs).1 x (Be _ hx) hm,?_⟩,fun hs=>?_,a3⟩
  ·have h1:=(a1 hs).2;rw [Jv] at h1;have h2:Ec r.id t d=0:=by
    unfold Ec;rw [List.length_eq_zero_iff,List.filter_eq_nil_iff];intro e he hm;exact hd e he r hr t ht hm hs
   omega
  ·have h1:=a2 hs;rw [Jv] at h1;omega
 ·have:=h.slots
  rw [Bd] at this;omega
theorem Core.forget {now seq:Int} {es:List Entry} {runs:List Run} (h:Core now seq es runs) {k:Nat} (hk:k<runs.length) (hs:runs[k].state≠1):Core now seq (es.filter fun e=>e.run != runs[k].id) (runs.take k ++ runs.drop (k+1)):=by
 have bR:=Ax hk;have hE:runs.take k ++ runs.drop (k+1)=runs.eraseIdx k:=(List.eraseIdx_eq_take_drop_succ ..).symm;have cV:(runs.take k ++ runs.drop (k+1)).Sublist runs:=by rw [hE];exact List.eraseIdx_sublist ..
 have fU:∀ f:Run->Nat,((runs.take k ++ runs.drop (k+1)).map f).sum+f runs[k]=(runs.map f).sum:=fun f=>by
  have e:runs=runs.take k ++ runs[k] :: runs.drop (k+1):=by rw [List.getElem_cons_drop hk,List.take_append_drop]
  conv=>rhs;rw [e]
  simp only [List.map_append,List.sum_append,List.map_cons,List.sum_cons];omega
 have aE:∀ r∈runs.take k ++ runs.drop (k+1),r.id≠runs[k].id:=fun r hr e=>by
  have h1:=h.index hk (cV.subset hr) e;subst h1;have hn:=h.runs_nodup;have e2:runs=runs.take k ++ runs[k] :: runs.drop (k+1):=by rw [List.getElem_cons_drop hk,List.take_append_drop]
  rw [e2] at hn;have h3:=Ay.1 hn;rcases Bi.1 hr with hr | hr
  ·exact h3.2.2 _ hr _ (List.mem_cons_self ..) rfl
  ·exact (List.nodup_cons.1 h3.2.1).1 hr
 have hM:∀ r∈runs.take k ++ runs.drop (k+1),∀ t,Ec r.id t (es.filter fun e=>e.run != runs[k].id)=Ec r.id t es:=fun r hr t=>by
  unfold Ec;rw [List.filter_filter];congr 1;apply List.filter_congr;intro e _;cases hm:Gy r.id t e with
  | false=>rfl
  | true =>
   have h1:=(Hg.1 hm).1;have h2:=aE r hr;rw [h1];simp [h2]
 refine ⟨Ai cV.length_le h.le8,h.ids.sublist (cV.map _),fun r hr=>h.run r (cV.subset hr),fun x hx=>h.seqs x (List.mem_filter.1 hx).1,h.nodup.sublist ((List.filter_sublist).map _),fun x hx=>?_,fun r hr t ht=>?_,?_⟩
 ·obtain ⟨h1,h2⟩:=List.mem_filter.1 hx;obtain ⟨r,hr,t,ht,hm⟩:=h.home x h1;refine ⟨r,?_,t,ht,hm⟩;have h3:=(Hg.1 hm).1;have hrk':r≠runs[k]:=fun e=>by
   subst e;simp [h3] at h2
  have e2:runs=runs.take k ++ runs[k] :: runs.drop (k+1):=by rw [List.getElem_cons_drop hk,List.take_append_drop]
  rw [e2] at hr;rcases Bi.1 hr with hr | hr
  ·exact Bf _ hr
  ·rcases List.mem_cons.1 hr with hr | hr
   ·exact absurd hr hrk'
   ·exact Be _ hr
 ·obtain ⟨a1,a2,a3⟩:=h.laid r (cV.subset hr) t ht;exact ⟨fun cN=>⟨fun x hx hm=>(a1 cN).1 x (List.mem_filter.1 hx).1 hm,by rw [hM r hr];exact (a1 cN).2⟩,fun cN=>by rw [hM r hr];exact a2 cN,a3⟩
 ·have h1:=h.slots;have h2:=fU Ky;have h3:=fU (fun r=>Cp r.tasks 2);have h4:=(Qe (h.run _ bR).1 hs).2.1;have h5:Ky runs[k]=0:=if_neg hs;have h6:=List.length_filter_le (fun e:Entry=>e.run != runs[k].id) es;rw [Lb] at h1 ⊢;unfold Lq at *
  (try dsimp only at h3)
  omega
theorem Core.later {now seq:Int} {es:List Entry} {runs:List Run} (h:Core now seq es runs) (hl:∀ r∈runs,∀ t,t<r.tasks.length->(By r t).state=3->(By r t).until_≠now+1):Core (now+1) seq es runs :=
 ⟨h.le8,h.ids,h.run,h.seqs,h.nodup,h.home,fun r hr t ht=>by
  obtain ⟨a1,a2,a3⟩:=h.laid r hr t ht;exact ⟨a1,a2,fun hs=>by have h1:=a3 hs;have h2:=hl r hr t ht hs;omega⟩,h.slots⟩
theorem M1 {id:Int} {p:Plan} {t:Nat} (ht:t<p.tasks.toNat):By (Ce id p) t=D8 p t:=by
 unfold By Ce;simp [List.getD_eq_getElem?_getD,ht]
theorem Ae5 {id:Int} {p:Plan} (hid:1<=id/\id<=9999) (hf:Cr p=0):Ads (Ce id p):=by
 have dD:=(Cs.1 hf).1;have ht:=Dx dD;have hmost:1<=p.most:=by
  unfold Eg at dD;simp only [Bool.and_eq_true,Ct] at dD;omega
 have bL:∀ t,t<p.tasks.toNat->(By (Ce id p) t).state=1\/(By (Ce id p) t).state=2:=fun t h=>by
  rw [M1 h];unfold D8;dsimp only;split<;>simp
 have qW:∀ s:Int,3<=s->Cp (Ce id p).tasks s=0:=fun s hs=>by
  unfold Cp;rw [List.length_eq_zero_iff,List.filter_eq_nil_iff];intro x hx;obtain ⟨k,hk,rfl⟩:=List.getElem_of_mem hx;have h1:=bL k (by rw [Hs] at hk;exact hk);rw [Co hk] at h1;simp;omega
 have hN:∀ t,Ge (Ce id p) t=(Dv (Dr p) p.tasks.toNat t).length:=fun t=>by
  unfold Ge Gn;rw [List.filter_eq_self.2]
  ·rfl
  ·intro b hb
   have:=bL b (Q5 hb)
   simp;omega
 refine ⟨⟨hid,hf,by rw [Hs];show _=p.tasks;omega,fun t h=>?_,?_,by show (1:Int)≠0;decide⟩,fun t h h1=>?_⟩
 ·rw [Hs] at h;unfold Gz;rw [hN,M1 h];show Ls _ _ p.most;unfold D8;dsimp only;by_cases z:(Dv (Dr p) p.tasks.toNat t).length=0
  ·rw [if_pos z];exact ⟨Bn,rfl,by simp;omega,Bn,Bn,Bn,fun _=>⟨by simp [z],by show (0:Int)<p.most;omega⟩,Bn⟩
  ·rw [if_neg z];exact ⟨Bn,rfl,by simp;omega,Bn,Bn,fun _=>by show (0:Int)<((Dv (Dr p) p.tasks.toNat t).length:Int);omega,Bn,Bn⟩
 ·show (1:Int)=stL (Ce id p).tasks;have c4:=qW 4 Bp;have c5:=qW 5 Bp;have c6:=qW 6 Bp;unfold stL;rw [if_neg (by rw [c4,Hs];omega),if_neg Bl,if_neg Bl,if_pos ⟨c5,c6⟩]
 ·rw [Hs] at h;rw [M1 h];show (D8 p t).try_<p.most;unfold D8;show (0:Int)<p.most;omega
theorem Core.submit {now seq:Int} {es:List Entry} {runs:List Run} {id:Int} {p:Plan} (h:Core now seq es runs) (hq:1<=seq) (hid:1<=id/\id<=9999) (hf:Cr p=0) (h8:runs.length<8) (eA:∀ r∈runs,r.id≠id)
  (dZ:Gk runs+es.length+p.tasks.toNat<=40+Lq runs):Core now (seq+(Gt Eh (Ce id p) (Ce id p).tasks.length).length) (Nu seq (Ce id p) (Gt Eh (Ce id p) (Ce id p).tasks.length) ++ es) (runs ++ [Ce id p]):=by
 have hN:=Ae5 hid hf;have bY:∀ t,Ec id t es=0:=fun t=>by
  unfold Ec;rw [List.length_eq_zero_iff,List.filter_eq_nil_iff];intro e he hm;obtain ⟨r,hr,b,_,dW⟩:=h.home e he;exact eA r hr (by rw [<-(Hg.1 dW).1,(Hg.1 hm).1])
 have hz:∀ t,(By Eh t).state=0:=fun t=>by unfold By Eh;simp
 refine ⟨by simp;omega,?_,fun r hr=>?_,fun e he=>?_,?_,fun e he=>?_,fun r hr t ht=>?_,?_⟩
 ·rw [List.map_append,Ay];refine ⟨h.ids,Bn,fun a ha b hb e=>?_⟩;obtain ⟨r,hr,rfl⟩:=List.mem_map.1 ha;simp only [List.map_cons,List.map_nil,Aw] at hb;exact eA r hr (e.trans hb)
 ·rcases Bi.1 hr with hr | hr
  ·exact h.run r hr
  ·rw [Aw.1 hr];exact hN
 ·rcases Bi.1 he with he | he
  ·have:=Ir he;omega
  ·have:=h.seqs e he;omega
 ·rw [List.map_append,Ay];refine ⟨Ri _ _ _,h.nodup,fun a ha b hb e=>?_⟩;obtain ⟨x,hx,rfl⟩:=List.mem_map.1 ha;obtain ⟨z,hz,rfl⟩:=List.mem_map.1 hb;have h1:=(Ir hx).2.2.1;have h2:=h.seqs z hz;omega
 ·rcases Bi.1 he with he | he
  ·obtain ⟨h1,h2,h3,h4,t,ht,h5⟩:=Ir he;exact ⟨Ce id p,Be _ (Aw.2 rfl),t,(Jw.1 ht).1,Hg.2 ⟨h2,h5⟩⟩
  ·obtain ⟨r,hr,t,ht,hm⟩:=h.home e he;exact ⟨r,Bf _ hr,t,ht,hm⟩
 ·rcases Bi.1 hr with hr | hr
  ·have aE:r.id≠(Ce id p).id:=eA r hr;obtain ⟨a,b,c⟩:=h.laid r hr t ht;have hM:Ec r.id t (Nu seq (Ce id p) (Gt Eh (Ce id p) (Ce id p).tasks.length) ++ es)=Ec r.id t es:=by
    rw [Jv,Xx aE,Nat.zero_add]
   refine ⟨fun hs=>⟨fun e he hm=>?_,by rw [hM];exact (a hs).2⟩,fun hs=>by rw [hM];exact b hs,c⟩;rcases Bi.1 he with he | he
   ·exact absurd ((Hg.1 hm).1.symm.trans (Ir he).2.1) aE
   ·exact (a hs).1 e he hm
  ·have kC:=Aw.1 hr;subst kC;have eI:t<p.tasks.toNat:=by rw [Hs] at ht;exact ht
   have hM:Ec (Ce id p).id t (Nu seq (Ce id p) (Gt Eh (Ce id p) (Ce id p).tasks.length) ++ es)=if t∈Gt Eh (Ce id p) (Ce id p).tasks.length then 1 else 0:=by
    rw [Jv,Tm _ _ _ _ (Um _ _ _),show (Ce id p).id=id from rfl,bY,Nat.add_zero]
   have fS:(By (Ce id p) t).state≠3:=by
    rw [M1 eI];unfold D8;dsimp only;split<;>decide
   refine ⟨fun hs=>⟨fun e he hm=>?_,?_⟩,fun hs=>?_,fun hs=>absurd hs fS⟩
   ·rcases Bi.1 he with he | he
    ·exact (Ir he).1
    ·exact absurd hm (Ag2 (bY t) he)
   ·rw [hM,if_pos (Jw.2 ⟨ht,hs,by rw [hz];decide⟩)]
   ·rw [hM,if_neg (fun hm=>by have:=(Jw.1 hm).2.1;rcases hs with e | e<;>rw [e] at this<;>cases this)]
 ·have hL:Ky (Ce id p)=p.tasks.toNat:=by unfold Ky;rw [show (Ce id p).state=1 from rfl,if_pos rfl,Hs]
  have hc:(Gt Eh (Ce id p) (Ce id p).tasks.length).length=Cp (Ce id p).tasks 2:=by
   rw [<-Og];unfold Gt;congr 1;apply List.filter_congr;intro t _;rw [hz];simp
  rw [Lb] at dZ ⊢;unfold Lq at *
  rw [Bd,Xw];simp only [List.map_append,List.sum_append,List.map_cons,List.map_nil,List.sum_cons,List.sum_nil];omega
theorem Core.runAt {now seq:Int} {es:List Entry} {y:Yard} (h:Core now seq es y.runs) {k:Nat} (hk:k<y.runs.length):Db y y.runs[k].id=k:=by
 rw [Jq h.le8];refine It hk (fun j hj=>?_) (by unfold Lg;simp);have mA:j<y.runs.length:=Bl;have aE:y.runs[j].id≠y.runs[k].id:=fun e=>by
  have h1:=h.index hk (Ax mA) e
  have:=(List.getElem_inj (h₀:=mA) (h₁:=hk) h.runs_nodup).1 h1
  omega
 unfold Lg;simpa using aE
theorem Core.fresh {now seq:Int} {es:List Entry} {y:Yard} (h:Core now seq es y.runs) {k t:Nat} (hk:k<y.runs.length) (ht:t<y.runs[k].tasks.length) {e:Entry} (hm:Gy y.runs[k].id t e=true):Q4 y e ↔ (By y.runs[k] t).state=2:=by
 obtain ⟨h1,h2⟩:=Hg.1 hm;have h3:=h.runAt hk;have h4:Ij y e.run=y.runs[k]:=Ey hk (by rw [h1];exact h3);unfold Q4;rw [h4,h1,h3,h2,Ap];constructor
 ·intro h;exact h.2.2
 ·intro h;exact ⟨Bl,Bl,h⟩
theorem Abr {α:Type} (f g:α->Nat):∀ l:List α,(l.map fun x=>f x+g x).sum=(l.map f).sum+(l.map g).sum
 | []=>rfl
 | x :: l=>by
  have:=Abr f g l
  simp only [List.map_cons,List.sum_cons];omega
theorem Nv {α:Type} {f g:α->Nat} : ∀ {l:List α},(∀ x∈l,f x=g x)->(l.map f).sum=(l.map g).sum
 | [],_=>rfl
 | x :: l,h=>by
  rw [List.map_cons,List.map_cons,List.sum_cons,List.sum_cons,h x (List.mem_cons_self ..),Nv (fun y hy=>h y (List.mem_cons_of_mem _ hy))]
theorem Pn {α:Type} {f:α->Nat} : ∀ {l:List α},(∀ x∈l,f x=0)->(l.map f).sum=0
 | [],_=>rfl
 | x :: l,h=>by
  rw [List.map_cons,List.sum_cons,h x (List.mem_cons_self ..),Pn (fun y hy=>h y (List.mem_cons_of_mem _ hy))]
theorem Rm {α:Type} {f:α->Nat} {a:α} : ∀ {l:List α},l.Nodup->a∈l->(∀ b∈l,b≠a->f b=0)->(l.map f).sum=f a
 | x :: l,hn,ha,h=>by
  obtain ⟨h1,h2⟩:=List.nodup_cons.1 hn;rw [List.map_cons,List.sum_cons];rcases List.mem_cons.1 ha with rfl | ha
  ·rw [Pn (fun b hb=>h b (List.mem_cons_of_mem _ hb) (fun e=>h1 (by rw [<-e];exact hb)))];rfl
  ·rw [h x (List.mem_cons_self ..) (fun e=>h1 (by rw [e];exact ha)),Rm h2 ha (fun b hb=>h b (List.mem_cons_of_mem _ hb)),Nat.zero_add]
theorem Aab {α:Type} (p:α->Bool):∀ l:List α,(l.map fun x=>if p x=true then 1 else 0).sum=(l.filter p).length
 | []=>rfl
 | x :: l=>by
  have:=Aab p l
  rw [List.map_cons,List.sum_cons,this];by_cases h:p x=true
  ·rw [if_pos h,List.filter_cons,if_pos h,List.length_cons];omega
  ·rw [if_neg h,List.filter_cons,if_neg h];omega
theorem Uq {α:Type} (p:α->Bool):∀ l:List α,(l.filter p).length+(l.filter fun x=>!p x).length=l.length
 | []=>rfl
 | x :: l=>by
  have:=Uq p l
  cases h:p x<;>simp [h]<;>omega
def Rn (runs:List Run) (l:List Entry):Nat:=(runs.map fun r=>((List.range r.tasks.length).map fun t=>if (By r t).state=2 then Ec r.id t l else 0).sum).sum
theorem Adz (runs:List Run) (e:Entry) (l:List Entry):Rn runs (e :: l)=(runs.map fun r=>((List.range r.tasks.length).map fun t=>if (By r t).state=2/\Gy r.id t e=true then 1 else 0).sum).sum+Rn runs l:=by
 unfold Rn;rw [<-Abr];apply Nv;intro r _;rw [<-Abr];apply Nv;intro t _;rw [Rl];by_cases h1:(By r t).state=2<;>by_cases h2:Gy r.id t e=true<;>simp [h1,h2]
theorem Ur {now seq:Int} {es:List Entry} {y:Yard} (h:Core now seq es y.runs):∀ l:List Entry,(∀ e∈l,e∈es)->(l.filter (Di y)).length=Rn y.runs l
 | [],_=>by
  unfold Rn;rw [Pn]
  ·rfl
  ·intro r _;apply Pn;intro t _;split<;>rfl
 | e :: l,hl=>by
  have ih:=Ur h l (fun x hx=>hl x (List.mem_cons_of_mem _ hx));rw [Adz,<-ih];obtain ⟨r,hr,t,ht,hm⟩:=h.home e (hl e (List.mem_cons_self ..));obtain ⟨k,hk,rfl⟩:=List.getElem_of_mem hr;have hf:=h.fresh hk ht hm;have hg:(y.runs.map fun r=>((List.range r.tasks.length).map fun t=>if (By r t).state=2/\Gy r.id t e=true then 1 else 0).sum).sum=if (By y.runs[k] t).state=2 then 1 else 0:=by
   rw [Rm h.runs_nodup (Ax hk) (fun b hb aE=>by
    apply Pn;intro u _;rw [if_neg];intro ⟨_,h2⟩;exact aE (h.index hk hb (by rw [<-(Hg.1 h2).1,(Hg.1 hm).1])))]
   rw [Rm List.nodup_range (List.mem_range.2 ht) (fun b hb aE=>by
    rw [if_neg];intro ⟨_,h2⟩;have h3:=(Hg.1 h2).2;have h4:=(Hg.1 hm).2;exact aE Bl)]
   by_cases q:(By y.runs[k] t).state=2
   ·rw [if_pos ⟨q,hm⟩,if_pos q]
   ·rw [if_neg (fun hh=>q hh.1),if_neg q]
  rw [hg];by_cases q:(By y.runs[k] t).state=2
  ·have hb:Di y e=true:=Ds (hf.2 q);rw [if_pos q,List.filter_cons,if_pos hb,List.length_cons];omega
  ·have hb:¬ Di y e=true:=fun hh=>q (hf.1 (Ll.1 hh));rw [if_neg q,List.filter_cons,if_neg hb];omega
theorem Core.stale {now seq:Int} {es:List Entry} {y:Yard} (h:Core now seq es y.runs):Gu y es+Lq y.runs=es.length:=by
 have h1:=Ur h es (fun e he=>he);have h2:Rn y.runs es=Lq y.runs:=by
  unfold Rn Lq;apply Nv;intro r hr;rw [<-Og,<-Aab];apply Nv;intro t ht;by_cases q:(By r t).state=2
  ·rw [if_pos q,if_pos (by simp [q])];exact ((h.laid r hr t (List.mem_range.1 ht)).1 q).2
  ·rw [if_neg q,if_neg (by simp [q])]
 have h3:=Uq (Di y) es;unfold Gu;omega
theorem Sound.slots {y:Yard} (h:Sound y):Gv y+Lq y.runs=Gk y.runs+y.shelf.flatten.length:=by
 have:=h.core.stale
 unfold Gv Ci;omega
theorem Sound.yardP {y:Yard} (h:Sound y) (hn:0<=y.now/\y.now<=999999980) (hq:1<=y.seq/\y.seq<=1000000000):Dn y:=by
 have hc:=h.core;have hfew:=hc.few;refine ⟨hn,hq,h.sh.four,fun l hl=>⟨?_,Agv (h.sh.sort l hl)⟩,fun e he=>?_,hc.nodup,hc.le8,fun k hk=>⟨(hc.run _ (Ax hk)).1,hc.runAt hk⟩,fun r hr t ht=>?_,?_⟩
 ·have:l.length<=y.shelf.flatten.length:=by
   have:=(List.sublist_flatten_of_mem hl).length_le
   exact this
  omega
 ·have:=hc.seqs e he
  omega
 ·obtain ⟨a,b,c⟩:=hc.laid r hr t ht;exact ⟨fun hs=>a hs,c⟩
 ·have h1:=h.slots;have h2:=hc.slots;omega
theorem Op:Sound ⟨0,1,[[],[],[],[]],[]⟩:=by
 refine ⟨⟨rfl,fun l hl=>?_⟩,⟨Bn,Bn,Bn,Bn,Bn,Bn,Bn,by simp [Gk]⟩⟩;have:l=[]:=by simpa using hl
 subst this;exact List.Pairwise.nil
theorem Yf {y:Yard} (h:Sound y) (hq:1<=y.seq) {k:Nat} (hk:k<y.runs.length) {r:Run} (hS:StepR y.runs[k] r):Sound (E0 y k r)/\(E0 y k r).now=y.now/\(y.seq<=(E0 y k r).seq/\(E0 y k r).seq<=y.seq+12):=by
 have e:E0 y k r=(Gt y.runs[k] r r.tasks.length).foldl (fun y t=>J4 y r t) ⟨y.now,y.seq,y.shelf,y.runs.set k r⟩:=by
  unfold E0 Ly;rw [List.getD_eq_getElem?_getD,List.getElem?_eq_getElem hk];rfl
 rw [e];obtain ⟨h1,h2,h3,h4⟩:=Ko r (Gt y.runs[k] r r.tasks.length) ⟨y.now,y.seq,y.shelf,y.runs.set k r⟩;obtain ⟨h5,h6⟩:=Xy r (Gt y.runs[k] r r.tasks.length) ⟨y.now,y.seq,y.shelf,y.runs.set k r⟩ h.sh (fun e he=>(h.core.seqs e he).2);have hC:=h.core.turn hq hk hS;have hl:=Td y.runs[k] r r.tasks.length;have eS:=(D4 hS.ok.1).2;refine ⟨⟨h5,?_⟩,h1,by rw [h4];dsimp only;omega,by rw [h4];dsimp only;omega⟩;rw [h1,h4,h2];exact hC.perm h6.symm
theorem Ae6 {r:Run} {u:Nat} (hu:u<r.tasks.length):(By (Dm r u) u).state≠3:=by
 unfold Dm;split
 ·rw [Ig hu,Kb,Ms hu,if_pos rfl];show (2:Int)≠3;decide
 ·rw [Jo (by simp [Ic];exact hu)];exact (Md _).2.2
structure FailF (z z1:Yard) (n:Nat) (p:Nat->Nat->Prop):Prop where
 sound:Sound z1
 now:z1.now=z.now
 seq:z.seq<=z1.seq/\z1.seq<=z.seq+12 * n
 len:z1.runs.length=z.runs.length
 tasks:∀ j,(Gg z1 j).tasks.length=(Gg z j).tasks.length
 runs:∀ j u,j<z.runs.length->u<(Gg z j).tasks.length->(By (Gg z1 j) u).state=3->(By (Gg z j) u).state=3/\(By (Gg z1 j) u).until_=(By (Gg z j) u).until_ /\ ¬ p j u
theorem Ae7 {z:Yard} (h:Sound z) (hq:1<=z.seq) {k t:Nat} (hk:k<z.runs.length) (ht:t<(Gg z k).tasks.length):FailF z (Gh z k t) 1 (fun j u=>j=k/\u=t):=by
 by_cases q:(By (Gg z k) t).state=3
 ·rw [Jm q];have hf:=h.core.run _ (Ax hk);rw [Ee hk] at q ht ⊢;have hS:=Un hf ht q;obtain ⟨a1,a2,a3⟩:=Yf h hq hk hS;refine ⟨a1,a2,Bl,by rw [Xs,Bh],fun j=>?_,fun j u hj hu hs=>?_⟩
  ·rw [Tk _ _ _ _ hk];split
   ·next e=>subst e;rw [Ee hk];exact Hd _ _
   ·rfl
  ·rw [Tk _ _ _ _ hk] at hs ⊢;by_cases e:k=j
   ·subst e;rw [if_pos rfl] at hs ⊢;rw [Ee hk] at hu ⊢;have h3:=(hS.task u hu).2.2.1 hs;refine ⟨h3.1,h3.2,fun hh=>?_⟩
    have:=hh.2
    subst this;exact Ae6 ht hs
   ·rw [if_neg e] at hs ⊢;exact ⟨hs,rfl,fun hh=>e hh.1.symm⟩
 ·rw [Kd q];exact ⟨h,rfl,Bl,rfl,fun _=>rfl,fun j u hj hu hs=>⟨hs,rfl,fun hh=>by obtain ⟨rfl,rfl⟩:=hh;exact q hs⟩⟩
theorem Po:∀ (l:List (Nat×Nat)) (z:Yard),Sound z->1<=z.seq->(∀ p∈l,p.1<z.runs.length/\p.2<(Gg z p.1).tasks.length)->FailF z (Ej z l) l.length (fun j u=>(j,u)∈l)
 | [],z,h,hq,_=>⟨h,rfl,by show z.seq<=z.seq/\z.seq<=z.seq+12 * ((0:Nat):Int);omega,rfl,fun _=>rfl,fun j u _ _ hs=>⟨hs,rfl,Bn⟩⟩
 | (k,t) :: l,z,h,hq,hl=>by
  have hkt:=hl (k,t) (List.mem_cons_self ..);dsimp only at hkt;obtain ⟨hk,ht⟩:=hkt;have h1:=Ae7 h hq hk ht;have h2:=Po l (Gh z k t) h1.sound (by have:=h1.seq;omega) (fun p hp=>by
   have:=hl p (List.mem_cons_of_mem _ hp)
   rw [h1.len,h1.tasks];exact this)
  have e:Ej z ((k,t) :: l)=Ej (Gh z k t) l:=rfl;rw [e];refine ⟨h2.sound,h2.now.trans h1.now,?_,h2.len.trans h1.len,fun j=>(h2.tasks j).trans (h1.tasks j),fun j u hj hu hs=>?_⟩
  ·have a:=h1.seq;have b:=h2.seq;rw [List.length_cons];push_cast;omega
  ·obtain ⟨b1,b2,b3⟩:=h2.runs j u (by rw [h1.len];exact hj) (by rw [h1.tasks];exact hu) hs;obtain ⟨a1,a2,a3⟩:=h1.runs j u hj hu b1;refine ⟨a1,b2.trans a2,fun hm=>?_⟩;rcases List.mem_cons.1 hm with hm | hm
   ·injection hm with e1 e2
    exact a3 ⟨e1,e2⟩
   ·exact b3 hm
theorem Ah9 {y:Yard} {n k t:Nat} (hk:k<n) (ht:t<(Gg y k).tasks.length) (hb:Ph y (By (Gg y k) t)=true):(k,t)∈E7 y n:=by
 unfold E7 Jl;exact List.mem_flatMap.2 ⟨k,List.mem_range.2 hk,List.mem_map.2 ⟨t,List.mem_filter.2 ⟨List.mem_range.2 ht,hb⟩,rfl⟩⟩
theorem Sound.run12 {y:Yard} (h:Sound y) (j:Nat):(Gg y j).tasks.length<=12:=by
 by_cases hj:j<y.runs.length
 ·rw [Ee hj];exact (D4 (h.core.run _ (Ax hj)).1).2
 ·unfold Gg;rw [List.getD_eq_getElem?_getD,List.getElem?_eq_none Bl];simp [Eh]
structure Kept2 (y z:Yard):Prop where
 sound:Sound z
 now:y.now<=z.now/\z.now<=y.now+1
 seq:y.seq<=z.seq/\z.seq<=y.seq+1200
theorem Kept2.refl {y:Yard} (h:Sound y):Kept2 y y:=⟨h,Bl,Bl⟩
theorem Ag3 {y:Yard} (h:Sound y) (hq:1<=y.seq):Kept2 y (Iw y):=by
 unfold Iw;split
 ·have hF:=Po (E7 y y.runs.length) y h hq (fun p hp=>Qc hp);have hl:=La h.run12 y.runs.length;have h8:=h.core.le8;have hs:=hF.seq;show Kept2 y ⟨(Ej y (E7 y y.runs.length)).now+1,(Ej y (E7 y y.runs.length)).seq,(Ej y (E7 y y.runs.length)).shelf,(Ej y (E7 y y.runs.length)).runs⟩;generalize Ej y (E7 y y.runs.length)=z at *
  refine ⟨⟨hF.sound.sh,hF.sound.core.later (fun r hr t ht fS hu=>?_)⟩,by rw [hF.now];dsimp only;omega,by dsimp only;omega⟩;obtain ⟨k,hk,rfl⟩:=List.getElem_of_mem hr;have mN:k<y.runs.length:=by rw [<-hF.len];exact hk
  have dN:=hF.tasks k;have hR:=hF.runs k t mN;rw [Ee hk] at dN hR;obtain ⟨b1,b2,b3⟩:=hR Bl fS;apply b3;refine Ah9 mN Bl ?_;unfold Ph;rw [hF.now] at hu;simp [b1];omega
 ·exact Kept2.refl h
theorem Ag4 {y:Yard} (h:Sound y) (hq:1<=y.seq):Kept2 y (Kx y):=by
 unfold Kx;split
 ·have hF:=Po (Ik y y.runs.length) y h hq (fun p hp=>Xz hp);have hl:=Rj h.run12 y.runs.length;have h8:=h.core.le8;have hs:=hF.seq;exact ⟨hF.sound,by rw [hF.now];omega,Bl⟩
 ·exact Kept2.refl h
theorem Tq {y:Yard} (h:Sound y) (hq:1<=y.seq) {k:Nat} (hk:k<y.runs.length) {r:Run} (hS:StepR y.runs[k] r):Kept2 y (E0 y k r):=by
 obtain ⟨a,b,c⟩:=Yf h hq hk hS;exact ⟨a,by rw [b];omega,Bl⟩
theorem Ad0 {y:Yard} {id tk tr:Int} (q:G6 y id tk tr=0):∃ k,∃ hk:k<y.runs.length,Db y id=(k:Int)/\Ij y id=y.runs[k]/\tk.toNat<y.runs[k].tasks.length/\(By y.runs[k] tk.toNat).state=3:=by
 obtain ⟨_,k,hk,h1,h2⟩:=Ae1 q;have hH:Gq y id tk tr:=by
  unfold G6 at q;split at q
  ·cases q
  ·split at q
   ·cases q
   ·split at q
    ·cases q
    ·next hh=>exact Classical.byContradiction fun hn=>hh hn
 unfold Gq at hH;rw [h2] at hH;exact ⟨k,hk,h1,h2,Bl,hH.2.2.1⟩
theorem Ag5 {y:Yard} (h:Sound y) (hq:1<=y.seq) (id tk tr:Int):Kept2 y (Kc y id tk tr):=by
 unfold Kc;split
 ·next q =>
  obtain ⟨k,hk,h1,h2,h3,h4⟩:=Ad0 q;rw [h1,h2,Ap];exact Tq h hq hk (Ae3 (h.core.run _ (Ax hk)) h3 h4)
 ·exact Kept2.refl h
theorem Ag6 {y:Yard} (h:Sound y) (hq:1<=y.seq) (id tk tr:Int):Kept2 y (Ka y id tk tr):=by
 unfold Ka;split
 ·next q =>
  obtain ⟨k,hk,h1,h2,h3,h4⟩:=Ad0 q;rw [h1,h2,Ap];exact Tq h hq hk (Un (h.core.run _ (Ax hk)) h3 h4)
 ·exact Kept2.refl h
theorem Ag7 {y:Yard} (h:Sound y) (hq:1<=y.seq) (id:Int):Kept2 y (Hy y id):=by
 unfold Hy;split
 ·next q =>
  unfold Il at q;split at q
  ·cases q
  ·split at q
   ·cases q
   ·next hr =>
    split at q
    ·cases q
    ·next hl =>
     have hl':(Ij y id).state=1:=Decidable.byContradiction hl;rcases Ek y id with hh | ⟨k,hk,h1⟩
     ·exact absurd hh Bl
     have h2:Ij y id=y.runs[k]:=Ey hk h1;rw [h2] at hl' ⊢;rw [h1,Ap];have hf:=h.core.run _ (Ax hk);have hS:=Adw hf hl';have hK:=Tq h hq hk hS;have e:E0 y k (C8 y.runs[k] 4)=⟨y.now,y.seq,y.shelf,y.runs.set k (C8 y.runs[k] 4)⟩:=by
      unfold E0 Ly;rw [List.getD_eq_getElem?_getD,List.getElem?_eq_getElem hk];have hz:Gt y.runs[k] (C8 y.runs[k] 4) (C8 y.runs[k] 4).tasks.length=[]:=by
       rw [List.eq_nil_iff_forall_not_mem];intro t ht;obtain ⟨h1,h2,_⟩:=Jw.1 ht;rw [Jo (by simpa [C8] using h1)] at h2;exact (Md _).2.1 h2
      show (Gt y.runs[k] _ _).foldl _ _=_;rw [hz];rfl
     rw [e] at hK;exact hK
 ·exact Kept2.refl h
end Go.Proofs.YtecnbnbopcblgaaGreat
