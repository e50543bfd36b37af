/-
  RunDone of the reference. What a worker is handed out: the plain facts of Poll. leave of the program: what a run's tasks are when it is given up. Complete of th
-/
import Derived.Test.YtecnbnbopcblgaaGreatZVw0
import Derived.Test.YtecnbnbopcblgaaGreatZVw2
import Derived.Test.YtecnbnbopcblgaaGreatZVw3
import Derived.Test.YtecnbnbopcblgaaGreatZVw8
import Derived.Test.YtecnbnbopcblgaaGreatZVw9
namespace Go.Proofs.YtecnbnbopcblgaaGreat
open Go.RowKit
set_option maxRecDepth 100000
set_option maxHeartbeats 4000000
set_option linter.unusedVariables false
set_option linter.unusedSimpArgs false
open Value renaming int->J,slice->Aa
open IntKind renaming i64->Ab
open Option renaming none->Ac,some->Ad
open Below renaming setCell->Ae
open Nat renaming zero_le->Ah,le_trans->Ai,lt_of_lt_of_le->Aj
open Go renaming bodyPost_ret->Ak,wpQuiet_nil->Al,wpAnyH_done->Am
open Go.Proofs.Tryz renaming prog->An
open Int renaming toNat_natCast->Ap
open IntWalk renaming i64_in->Ar
open List renaming mem_singleton->Aw,getElem_mem->Ax,nodup_append->Ay,length_take->A0,mem_append_right->Be,mem_append_left->Bf,take_of_length_le->Bg,length_set->Bh,mem_append->Bi
open Go.Proofs.Tryz
theorem Ac4 {b:Nat} {w:World} {u0 u1 u2 u3 u4 u5 u6 u7:Value} (X:DBox b [u0,u1,u2,u3,u4,u5,u6,u7] w) {v0 v1 v2 v3:Value} {rest:List Value} :
  (results Tryz.f249 (v0 :: v1 :: v2 :: v3 :: .pointer (Ad ⟨b,0,Ac⟩) :: rest).toArray).run An w = .ok (.agg #[u0,u1,u2,u3,u4,u5,u6,u7]) w:=by
 have c0:=X.cell 0 _ rfl;have c1:=X.cell 1 _ rfl;have c2:=X.cell 2 _ rfl;have c3:=X.cell 3 _ rfl;have c4:=X.cell 4 _ rfl;have c5:=X.cell 5 _ rfl;have c6:=X.cell 6 _ rfl;have c7:=X.cell 7 _ rfl;simp [results,results249,go_sem,c0,c1,c2,c3,c4,c5,c6,c7]
theorem Hw.taskUn' {w:World} {F:List Nat} {b o n c:Nat} {l:List Task} {j:Nat} {y:Task} (h:Hw Fz w F (Aa (Ad ⟨b,o,Ac⟩) n c) (l.set j y)) (hj:j<l.length) (st:Int) :
  Hw Fz (w.setCell ⟨b,o+j * 4+3,Ac⟩ (J Ab st)) F (Aa (Ad ⟨b,o,Ac⟩) n c) (l.set j ⟨y.state,y.need,y.try_,st⟩):=by
 have:=h.taskUntil (j:=j) (by rw [Bh];exact hj) st
 rw [List.getElem_set_self,List.set_set] at this;exact this
theorem Aa7 (r:Run) (s:Sl×Sl) (u:Nat) (w:World) (hl:Dc r<=2000000) (hR:Iu r u) (h:Cn.rd w w r s) :
  Calls An 249 #[Hx r s,J Ab u] w (Fa Cn Hx (Gs r u) w):=by
 have CP:=Bq (fun W (hW:Below w w W)=>I4 r s W hl (Cn.rd_more (Cn.rd_below h hW) hW.size));have CR:=Bq (fun W (hW:Below w w W)=>Sh r s u W hl (Cn.rd_more (Cn.rd_below h hW) hW.size));rw [Ds hR] at CR;have ht:u<r.tasks.length:=by have:=hR.2.1.2;omega
 have aK:r.tasks.length<=2000000:=Ai (Cv Ix _) (by unfold Dc at hl;omega);have cU:=Bq (Co ht);obtain ⟨⟨A1,n1,c1⟩,⟨A2,n2,c2⟩⟩:=s;obtain rfl:n2=r.tasks.length:=RdL.at1 (s:=⟨A2,n2,c2⟩) h.2;obtain rfl:n1=r.plan.edges.length:=RdL.at1 (s:=⟨A1,n1,c1⟩) h.1;have uB:=Bq hR.1;have rP:=Bq (fun W (hW:Below w w W)=>(Ja h.1).below hW);clear h hl hR;have jX:(u:Int)<(r.tasks.length:Int):=Bl;have gK:(0:Int)<=(u:Int):=Bl;have X:=(DBox.new 67 [J Ab r.id,J Ab r.plan.prio,J Ab r.plan.most,J Ab r.plan.wait,J Ab r.plan.tasks,Aa A1 r.plan.edges.length c1,J Ab r.state,Aa A2 r.tasks.length c2] w (b:=w) rfl).below ((Br _ _).alloc (Bs _) (.cells #[J Ab 0,J Ab 0,J Ab 0,J Ab 0,J Ab 0,Aa Ac 0 0,J Ab 0,Aa Ac 0 0] 67));have RES:=DBox.new 67 [J Ab 0,J Ab 0,J Ab 0,J Ab 0,J Ab 0,Aa Ac 0 0,J Ab 0,Aa Ac 0 0] (w.alloc (.cells #[J Ab r.id,J Ab r.plan.prio,J Ab r.plan.most,J Ab r.plan.wait,J Ab r.plan.tasks,Aa A1 r.plan.edges.length c1,J Ab r.state,Aa A2 r.tasks.length c2] 67)) (b:=w+1) Bn;have B0:Below w w ((w.alloc (.cells #[J Ab r.id,J Ab r.plan.prio,J Ab r.plan.most,J Ab r.plan.wait,J Ab r.plan.tasks,Aa A1 r.plan.edges.length c1,J Ab r.state,Aa A2 r.tasks.length c2] 67)).alloc (.cells #[J Ab 0,J Ab 0,J Ab 0,J Ab 0,J Ab 0,Aa Ac 0 0,J Ab 0,Aa Ac 0 0] 67)):=by repeat (first | exact Br _ _ | refine Below.alloc ?_ Bo _)
 go_enter func249,ntmps249;go_wp2_with fail
 refine (CP.out _ B0).mono ?_;rintro e w1 ⟨⟨⟨A3,n3,c3⟩,⟨A4,n4,c4⟩⟩,F,rfl,o1,nF,b1⟩;obtain ⟨F1,F2,rfl,bI,op,ot⟩:=o1;replace ot:OwL Eu w1 F2 (Aa A4 n4 c4) r.tasks:=ot;have bM:=Bq (Ck.ow_lt op);obtain rfl:n4=r.tasks.length:=RdL.at1 (s:=⟨A4,n4,c4⟩) ot.rd;have oh:=N2 ot;clear ot CP;obtain ⟨b,o,rfl,aH,d0,d1,d2,d3⟩:=oh.rd.tsk ht;clear d0 d1 d2 d3;have hBw:=B0.size;obtain ⟨rfl,bN,pJ⟩:=oh.block Bl;have dP:=nF b Bn;have jY:=X.lt;have dL:=RES.lt;replace B0:=Bv B0 b1;replace X:=X.below b1;replace RES:=RES.below b1;clear b1;go_upto_region 2 with fail
 have OB:=DBox.new 67 [J Ab r.id,J Ab r.plan.prio,J Ab r.plan.most,J Ab r.plan.wait,J Ab r.plan.tasks,Aa A3 n3 c3,J Ab r.state,Aa (Ad ⟨b,o,Ac⟩) r.tasks.length c4] w1 (b:=w1) rfl;have b2:Below w1 w1 (w1.alloc (.cells #[J Ab r.id,J Ab r.plan.prio,J Ab r.plan.most,J Ab r.plan.wait,J Ab r.plan.tasks,Aa A3 n3 c3,J Ab r.state,Aa (Ad ⟨b,o,Ac⟩) r.tasks.length c4] 67)):=Bt;have B2:=Bv B0 b2;replace X:=X.below b2;replace RES:=RES.below b2;replace oh:=oh.below b2;have op2:=Ck.ow_below op b2;have cN:=b2.size;have ow1:=OB.lt;clear op;generalize w1.alloc (.cells #[J Ab r.id,J Ab r.plan.prio,J Ab r.plan.most,J Ab r.plan.wait,J Ab r.plan.tasks,Aa A3 n3 c3,J Ab r.state,Aa (Ad ⟨b,o,Ac⟩) r.tasks.length c4] 67)=w2 at *
 have X_:=X.g8;go_wp2_with fail
 refine (CR.out _ B2).mono ?_;rintro e w3 ⟨rfl,b3⟩;have B3:=Bv B2 b3;clear X_;replace X:=X.below b3;replace RES:=RES.below b3;replace OB:=OB.below b3;replace oh:=oh.below b3;have op3:=Ck.ow_below op2 b3;have fS:=b3.size;clear op2 CR b3;have X_:=X.g8;have OB_:=OB.g8;obtain ⟨b',o',bW,bS,d0,d1,d2,d3⟩:=oh.rd.tsk ht;simp only [Option.some.injEq,Addr.mk.injEq,and_true] at bW;obtain ⟨rfl,rfl⟩:=bW;have jJ:=(oh.block Bl).2.2;have eV:b∉F1:=fun hx=>(Ay.1 bI).2.2 b hx b Bn rfl;go_upto_region 6 with fail
 have oh4:Hw Fz ((w3.setCell ⟨b,o+u * 4,Ac⟩ (J Ab 4)).setCell ⟨b,o+u * 4+3,Ac⟩ (J Ab 0)) [b] (Aa (Ad ⟨b,o,Ac⟩) r.tasks.length c4) (r.tasks.set u ⟨4,r.tasks[u].need,r.tasks[u].try_,0⟩):=(oh.taskState ht 4).taskUn' ht 0;have hC:Chg [b] w3 ((w3.setCell ⟨b,o+u * 4,Ac⟩ (J Ab 4)).setCell ⟨b,o+u * 4+3,Ac⟩ (J Ab 0)):=(Chg.setCell w3 b _ _).trans (Chg.setCell _ b _ _);have op4:=Ck.ow_chg op3 hC (fun x hx h=>by simp only [Aw] at h;subst h;exact eV hx);have B4:Below w w ((w3.setCell ⟨b,o+u * 4,Ac⟩ (J Ab 4)).setCell ⟨b,o+u * 4+3,Ac⟩ (J Ab 0)):=by
  repeat (first | (with_reducible exact B3) | refine Ae ?_ Bo _)
 clear OB_;clear X_;clear d0 d1 d2 d3 bS jJ;replace OB:=OB.chg hC (by simp only [Aw];omega);replace X:=X.chg hC (by simp only [Aw];omega);replace RES:=RES.chg hC (by simp only [Aw];omega);have kH:=hC.size;clear hC oh op3;generalize ((w3.setCell ⟨b,o+u * 4,Ac⟩ (J Ab 4)).setCell ⟨b,o+u * 4+3,Ac⟩ (J Ab 0))=w4 at *
 have X_:=X.g8;have fW:=Cs.1 uB.out.2.1;have CB:=Bq (V4 r.plan (Aa A1 r.plan.edges.length c1) u w4 fW.1 fW.2.1 fW.2.2.1 ((rP.out w4 B4).more B4.size));have hBL:=Bq (N4 (Dr r.plan) r.plan.tasks.toNat u);have gC:=Bq (Mu (Dr r.plan) r.plan.tasks.toNat u);have hD0:Hid (Gs r u=⟨r.id,r.plan,stL (Ahv r u (D9 (Dr r.plan) r.plan.tasks.toNat u)),Ahv r u (D9 (Dr r.plan) r.plan.tasks.toNat u)⟩):=rfl;clear fW;generalize D9 (Dr r.plan) r.plan.tasks.toNat u=BL at *
 go_wp2_with fail
 refine CB.out.mono ?_;rintro e w5 ⟨vb,rfl,ob,b5⟩;obtain ⟨A9,c9,rfl,-⟩:=id (Rd.of_own ob);have B5:=Bv B4 b5;have mK:=b5.size;have oh5:=oh4.below b5;have op5:=Ck.ow_below op4 b5;clear X_;replace OB:=OB.below b5;replace RES:=RES.below b5;have cL:b<w4:=Bl;obtain ⟨cR,hobB⟩:=Hw.of_ow ob;have HB:=Bq (fun W (hW:Chg [b] w5 W)=>(cR.chg hW (fun x hx h=>by simp only [Aw] at h;subst h;have:=hobB _ hx;omega)).rd);have cG:Hid (∀ g o,A9=Ad ⟨g,o,Ac⟩->0<BL.length->w4.heap.size<=g):=fun g o h hp=>hobB g (by
  subst h;unfold Ei;rw [if_neg Bl];exact Aw.2 rfl)
 have tD:Hid (Hc r.tasks u (fun x=>⟨4,x.need,x.try_,0⟩)=r.tasks.set u ⟨4,r.tasks[u].need,r.tasks[u].try_,0⟩):=Sg ht _;have cW:∀ x∈r.tasks,0<=x.need/\x.need<=1000/\1<=x.state/\x.state<=6:=by
  intro x hx;obtain ⟨j,hj,rfl⟩:=List.getElem_of_mem hx;have h1:=uB.out.2.2.2.1 j hj;unfold Gz Ls at h1;rw [Co hj] at h1;have h2:=Pv r (Dv (Dr r.plan) r.plan.tasks.toNat j);have h3:=Jh (Dr r.plan) r.plan.tasks.toNat j;have h4:=(D4 uB.out).2;have h5:=uB.out.2.2.1;have h6:Ge r j<=12:=by unfold Ge;omega
  omega
 have hbnd:Hid (∀ x∈r.tasks.set u ⟨4,r.tasks[u].need,r.tasks[u].try_,0⟩,-0<=x.need/\x.need<=1000/\1<=x.state/\x.state<=6):=by
  intro x hx;rcases List.mem_or_eq_of_mem_set hx with h | h
  ·have:=cW x h;omega
  ·subst h
   have:=cW _ (Ax ht)
   refine ⟨?_,?_,?_,?_⟩<;>dsimp only<;>omega
 clear cW;have mJ:=Bq (show r.plan.tasks.toNat=r.tasks.length by have:=uB.out.2.2.1;omega);generalize hL:r.tasks.set u ⟨4,r.tasks[u].need,r.tasks[u].try_,0⟩=L0 at *
 have nM:=Bq (show L0.length=r.tasks.length by rw [<-hL,Bh]);clear hL ob cR hobB X CB rP;go_wp2;generalize Hx r (⟨A1,r.plan.edges.length,c1⟩,⟨A2,r.tasks.length,c2⟩)=rv;go_loopw [7] (fun i wr=>∃ k:Nat,k<=BL.length/\i = J Ab k/\Hid (Hw Fz wr [b] (Aa (Ad ⟨b,o,Ac⟩) r.tasks.length c4) ((BL.take k).foldl (fun l b=>Hc l b Da) L0))/\DBox w1 [J Ab r.id,J Ab r.plan.prio,J Ab r.plan.most,J Ab r.plan.wait,J Ab r.plan.tasks,Aa A3 n3 c3,J Ab r.state,Aa (Ad ⟨b,o,Ac⟩) r.tasks.length c4] wr/\DBox (w+1) [J Ab 0,J Ab 0,J Ab 0,J Ab 0,J Ab 0,Aa Ac 0 0,J Ab 0,Aa Ac 0 0] wr/\Chg [b] w5 wr) (fun i _=>BL.length - (intOf i).toNat);case atStart=>exact ⟨0,Ah _,rfl,oh5,OB,RES,Chg.refl _ _⟩
 case round =>
  clear OB RES oh5;obtain ⟨k,hk,rfl,hO,OB,RES,hb⟩:=hrel;by_cases aB:k<BL.length
  ·have aC:(k:Int)<(BL.length:Int):=Bl;have hx:=Bq (hBL.out _ (Ax aB));have sF:=Bq (show ((BL.take k).foldl (fun l b=>Hc l b Da) L0).length=r.tasks.length by rw [Mc r u,nM.out]);have qJ:=Bq (Tf (BL.take k) L0 0 hbnd.out (Int.le_refl 0));have aF:=Bq (show (BL.take (k+1)).foldl (fun l b=>Hc l b Da) L0=Hc ((BL.take k).foldl (fun l b=>Hc l b Da) L0) BL[k] Da from K5 (fun l b=>Hc l b Da) L0 BL k aB);have kP:(BL.take k).length<=r.tasks.length:=by have:=gC.out;have:=mJ.out;rw [A0];omega
   obtain ⟨b9,o9,rfl,mZ,e0⟩:=(HB.out wr hb).nat aB;generalize BL[k]=x at *
   generalize (BL.take k).foldl (fun l b=>Hc l b Da) L0=Lk at *
   have gH:x<Lk.length:=by have:=hx.out;have:=mJ.out;have:=sF.out;omega
   have hxI:(x:Int)<(r.tasks.length:Int):=by have:=hx.out;have:=mJ.out;omega
   have qV:(0:Int)<=(x:Int):=Bl;have hBs:BL.length<=2000000:=by have:=gC.out;have:=mJ.out;omega
   have hb9w:=cG.out b9 o9 rfl Bl;have dF:(0:Int)<=(k:Int):=Bl;have hyb:=qJ.out _ (Ax gH);have dK:=Bq (aF.out.trans (Sg gH Da));clear aF;have OB_:=OB.g8;have RES_:=RES.g8;obtain ⟨b',o',bW,bS,d0,d1,d2,d3⟩:=hO.out.rd.tsk gH;simp only [Option.some.injEq,Addr.mk.injEq,and_true] at bW;obtain ⟨rfl,rfl⟩:=bW;generalize Lk[x]=tx at *
   go_wp2;have vE:b9<wr:=by have:=hb.size;omega
   have hs0:b<wr:=by have:=hb.size;omega
   have hSS:=Bq (show ∀ W',Below wr wr W'->(fun w'=>DBox w1 [J Ab r.id,J Ab r.plan.prio,J Ab r.plan.most,J Ab r.plan.wait,J Ab r.plan.tasks,Aa A3 n3 c3,J Ab r.state,Aa (Ad ⟨b,o,Ac⟩) r.tasks.length c4] w'/\w'.cell? ⟨b9,o9+k,Ac⟩=Ad (J Ab (x:Int))/\w'.cell? ⟨b,o+x * 4,Ac⟩=Ad (J Ab tx.state)/\w'.cell? ⟨b,o+x * 4+1,Ac⟩=Ad (J Ab tx.need)/\w'.cell? ⟨b,o+x * 4+2,Ac⟩=Ad (J Ab tx.try_)/\w'.cell? ⟨b,o+x * 4+3,Ac⟩=Ad (J Ab tx.until_)) W' from fun W' kY=>⟨OB.below kY,(kY.cell (p:=⟨b9,_,Ac⟩) vE).trans e0,(kY.cell (p:=⟨b,_,Ac⟩) hs0).trans d0,(kY.cell (p:=⟨b,_,Ac⟩) hs0).trans d1,(kY.cell (p:=⟨b,_,Ac⟩) hs0).trans d2,(kY.cell (p:=⟨b,_,Ac⟩) hs0).trans d3⟩);refine Go.wp_region_noPanic ?_;refine wp_region_held_drew (S:=(fun w'=>DBox w1 [J Ab r.id,J Ab r.plan.prio,J Ab r.plan.most,J Ab r.plan.wait,J Ab r.plan.tasks,Aa A3 n3 c3,J Ab r.state,Aa (Ad ⟨b,o,Ac⟩) r.tasks.length c4] w'/\w'.cell? ⟨b9,o9+k,Ac⟩=Ad (J Ab (x:Int))/\w'.cell? ⟨b,o+x * 4,Ac⟩=Ad (J Ab tx.state)/\w'.cell? ⟨b,o+x * 4+1,Ac⟩=Ad (J Ab tx.need)/\w'.cell? ⟨b,o+x * 4+2,Ac⟩=Ad (J Ab tx.try_)/\w'.cell? ⟨b,o+x * 4+3,Ac⟩=Ad (J Ab tx.until_))) Bm (hSS.out _ (Br _ _).drew) (fun aA=>?_);refine tV 0 ?_
   (try simp only [pS])
   refine tV 1 ?_
   (try simp only [pS])
   refine tV 2 ?_
   (try simp only [pS])
   refine tV 3 ?_
   (try simp only [pS])
   refine tV 4 ?_
   (try simp only [pS])
   refine tV 5 ?_
   (try simp only [pS])
   refine tV 6 ?_
   (try simp only [pS])
   refine tV 7 ?_
   (try simp only [pS])
   refine rC 8 (fun K_ hK=>?_);go_simp;have bA:Below wr wr ((wr.alloc (.cells #[J Ab 0,J Ab 0,J Ab 0,J Ab 0] 203)).drew):=(Bt).drew;have XB:=DBox.drew4 (DBox.new 203 [J Ab 0,J Ab 0,J Ab 0,J Ab 0] wr (b:=wr) rfl);generalize (wr.alloc (.cells #[J Ab 0,J Ab 0,J Ab 0,J Ab 0] 203)).drew=W1 at *
   refine hK.out _ _ (hSS.out _ bA) (fun aA=>?_);clear hK K_
   (try simp only [pS])
   have y0:=XB.cell 0 _ rfl;have y1:=XB.cell 1 _ rfl;have y2:=XB.cell 2 _ rfl;have y3:=XB.cell 3 _ rfl;have yf:=XB.free;have yl:=XB.lt;refine rC 9 (fun K_ hK=>?_);go_simp;have bB:Below wr wr ((((W1.setCell ⟨wr,0,Ac⟩ (J Ab tx.state)).setCell ⟨wr,1,Ac⟩ (J Ab tx.need)).setCell ⟨wr,2,Ac⟩ (J Ab tx.try_)).setCell ⟨wr,3,Ac⟩ (J Ab tx.until_)):=by
    repeat (first | (with_reducible exact bA) | refine Ae ?_ Bo _)
   have XB2:=DBox.row4 XB rfl (J Ab tx.state) (J Ab tx.need) (J Ab tx.try_) (J Ab tx.until_);generalize ((((W1.setCell ⟨wr,0,Ac⟩ (J Ab tx.state)).setCell ⟨wr,1,Ac⟩ (J Ab tx.need)).setCell ⟨wr,2,Ac⟩ (J Ab tx.try_)).setCell ⟨wr,3,Ac⟩ (J Ab tx.until_))=W2 at *
   clear y0 y1 y2 y3 yf yl XB;refine hK.out _ _ (hSS.out _ bB) (fun aA=>?_);clear hK K_
   (try simp only [pS])
   refine Am Bm ?_ _;refine NoPanic.normal ?_;clear aA;have OB2:=OB.below bB;have RES2:=RES.below bB;have hO2:=hO.out.below bB;have e2:=(bB.cell (p:=⟨b9,o9+k,Ac⟩) vE).trans e0;have aJ:=hb.trans (Chg.of_below [b] bB);have hs22:=bB.size;have hsr:=hb.size;clear d0 d1 d2 d3;clear OB_;clear RES_;have y0:=XB2.cell 0 _ rfl;have y1:=XB2.cell 1 _ rfl;have y2:=XB2.cell 2 _ rfl;have y3:=XB2.cell 3 _ rfl;have yf:=XB2.free;have yl:=XB2.lt;have vA:wr≠b:=Bl;by_cases q:tx.need - 1=0
   ·have q2:(tx.need - 1 == 0)=true:=by simp [q]
    have mQ:=Bq (show Da tx=⟨2,tx.need - 1,tx.try_,tx.until_⟩ by unfold Da;rw [if_pos q]);clear q;go_wp2;have bC:Below wr wr ((W2.setCell ⟨wr,1,Ac⟩ (J Ab (tx.need - 1))).setCell ⟨wr,0,Ac⟩ (J Ab 2)):=by
     repeat (first | (with_reducible exact bB) | refine Ae ?_ Bo _)
    have XB3:DBox wr [J Ab 2,J Ab (tx.need - 1),J Ab tx.try_,J Ab tx.until_] ((W2.setCell ⟨wr,1,Ac⟩ (J Ab (tx.need - 1))).setCell ⟨wr,0,Ac⟩ (J Ab 2)):=((XB2.set 1 Bn (J Ab (tx.need - 1))).set 0 Bn (J Ab 2))
    have OB3:=OB.below bC;have RES3:=RES.below bC;have eD:=hO.out.below bC;have e3:=(bC.cell (p:=⟨b9,o9+k,Ac⟩) vE).trans e0;have bU:=hb.trans (Chg.of_below [b] bC);have nQ:=bC.size;clear y0 y1 y2 y3 yf yl XB2 OB2 RES2 hO2 e2 aJ;generalize ((W2.setCell ⟨wr,1,Ac⟩ (J Ab (tx.need - 1))).setCell ⟨wr,0,Ac⟩ (J Ab 2))=W3 at *
    refine Go.wp_region_noPanic ?_;refine wp_region_held_drew (S:=(fun w'=>DBox w1 [J Ab r.id,J Ab r.plan.prio,J Ab r.plan.most,J Ab r.plan.wait,J Ab r.plan.tasks,Aa A3 n3 c3,J Ab r.state,Aa (Ad ⟨b,o,Ac⟩) r.tasks.length c4] w'/\w'.cell? ⟨b9,o9+k,Ac⟩=Ad (J Ab (x:Int))/\DBox wr [J Ab 2,J Ab (tx.need - 1),J Ab tx.try_,J Ab tx.until_] w')) Bm ⟨DBox.drew4 OB3,e3,DBox.drew4 XB3⟩ (fun aA=>?_);have bD:Below W3 W3 W3.drew:=(Br _ _).drew;replace OB3:=OB3.below bD;replace RES3:=RES3.below bD;replace XB3:=XB3.below bD;replace eD:=eD.below bD;replace bU:=bU.drew;replace nQ:=Ai nQ bD.size;clear bD;generalize W3.drew=W4 at *
    refine tV 0 ?_
    (try simp only [pS])
    refine tV 1 ?_
    (try simp only [pS])
    refine tV 2 ?_
    (try simp only [pS])
    refine tV 3 ?_
    (try simp only [pS])
    refine tV 4 ?_
    (try simp only [pS])
    refine tV 5 ?_
    (try simp only [pS])
    refine tV 6 ?_
    (try simp only [pS])
    refine tV 7 ?_
    (try simp only [pS])
    obtain ⟨b',o',bW,bS,d0,d1,d2,d3⟩:=eD.rd.tsk gH;simp only [Option.some.injEq,Addr.mk.injEq,and_true] at bW;obtain ⟨rfl,rfl⟩:=bW;have jJ:=(eD.block Bl).2.2;have hO5:Hw Fz ((((W4.setCell ⟨b,o+x * 4,Ac⟩ (J Ab 2)).setCell ⟨b,o+x * 4+1,Ac⟩ (J Ab (tx.need - 1))).setCell ⟨b,o+x * 4+2,Ac⟩ (J Ab tx.try_)).setCell ⟨b,o+x * 4+3,Ac⟩ (J Ab tx.until_)) [b] (Aa (Ad ⟨b,o,Ac⟩) r.tasks.length c4) _:=eD.task4 gH ⟨2,tx.need - 1,tx.try_,tx.until_⟩;have cX:Chg [b] W4 ((((W4.setCell ⟨b,o+x * 4,Ac⟩ (J Ab 2)).setCell ⟨b,o+x * 4+1,Ac⟩ (J Ab (tx.need - 1))).setCell ⟨b,o+x * 4+2,Ac⟩ (J Ab tx.try_)).setCell ⟨b,o+x * 4+3,Ac⟩ (J Ab tx.until_)):=(((Chg.setCell W4 b _ _).trans (Chg.setCell _ b _ _)).trans (Chg.setCell _ b _ _)).trans (Chg.setCell _ b _ _);refine rC 8 (fun K_ hK=>?_);go_simp;clear d0 d1 d2 d3 jJ bS;have cR:w1.heap.size∉[b]:=by simp only [Aw];omega
    have pM:w.heap.size+1∉[b]:=by simp only [Aw];omega
    have fA:wr.heap.size∉[b]:=by simp only [Aw];omega
    have OB5:=OB3.chg cX cR;have RES5:=RES3.chg cX pM;have XB5:=XB3.chg cX fA;have e5:=(cX.cell (p:=⟨b9,o9+k,Ac⟩) (by show b9<W4;omega) (by simp only [Aw];omega)).trans aA.2.1;have dM:=bU.trans cX;generalize ((((W4.setCell ⟨b,o+x * 4,Ac⟩ (J Ab 2)).setCell ⟨b,o+x * 4+1,Ac⟩ (J Ab (tx.need - 1))).setCell ⟨b,o+x * 4+2,Ac⟩ (J Ab tx.try_)).setCell ⟨b,o+x * 4+3,Ac⟩ (J Ab tx.until_))=W5 at *
    refine hK.out _ _ ⟨OB5,e5,XB5⟩ (fun aA=>?_);clear hK K_
    (try simp only [pS])
    refine Am Bm ?_ _;refine NoPanic.normal ?_;clear aA;go_wp2;exact ⟨⟨k+1,Bl,by go_num,by rw [dK.out,mQ.out];exact hO5,OB5,RES5,dM⟩,clM⟩
   ·have q2:(tx.need - 1 == 0)=false:=by simp [q]
    have mQ:=Bq (show Da tx=⟨tx.state,tx.need - 1,tx.try_,tx.until_⟩ by unfold Da;rw [if_neg q]);clear q;go_wp2;have bC:Below wr wr (W2.setCell ⟨wr,1,Ac⟩ (J Ab (tx.need - 1))):=by
     repeat (first | (with_reducible exact bB) | refine Ae ?_ Bo _)
    have XB3:DBox wr [J Ab tx.state,J Ab (tx.need - 1),J Ab tx.try_,J Ab tx.until_] (W2.setCell ⟨wr,1,Ac⟩ (J Ab (tx.need - 1))):=(XB2.set 1 Bn (J Ab (tx.need - 1)))
    have OB3:=OB.below bC;have RES3:=RES.below bC;have eD:=hO.out.below bC;have e3:=(bC.cell (p:=⟨b9,o9+k,Ac⟩) vE).trans e0;have bU:=hb.trans (Chg.of_below [b] bC);have nQ:=bC.size;clear y0 y1 y2 y3 yf yl XB2 OB2 RES2 hO2 e2 aJ;generalize (W2.setCell ⟨wr,1,Ac⟩ (J Ab (tx.need - 1)))=W3 at *
    refine Go.wp_region_noPanic ?_;refine wp_region_held_drew (S:=(fun w'=>DBox w1 [J Ab r.id,J Ab r.plan.prio,J Ab r.plan.most,J Ab r.plan.wait,J Ab r.plan.tasks,Aa A3 n3 c3,J Ab r.state,Aa (Ad ⟨b,o,Ac⟩) r.tasks.length c4] w'/\w'.cell? ⟨b9,o9+k,Ac⟩=Ad (J Ab (x:Int))/\DBox wr [J Ab tx.state,J Ab (tx.need - 1),J Ab tx.try_,J Ab tx.until_] w')) Bm ⟨DBox.drew4 OB3,e3,DBox.drew4 XB3⟩ (fun aA=>?_);have bD:Below W3 W3 W3.drew:=(Br _ _).drew;replace OB3:=OB3.below bD;replace RES3:=RES3.below bD;replace XB3:=XB3.below bD;replace eD:=eD.below bD;replace bU:=bU.drew;replace nQ:=Ai nQ bD.size;clear bD;generalize W3.drew=W4 at *
    refine tV 0 ?_
    (try simp only [pS])
    refine tV 1 ?_
    (try simp only [pS])
    refine tV 2 ?_
    (try simp only [pS])
    refine tV 3 ?_
    (try simp only [pS])
    refine tV 4 ?_
    (try simp only [pS])
    refine tV 5 ?_
    (try simp only [pS])
    refine tV 6 ?_
    (try simp only [pS])
    refine tV 7 ?_
    (try simp only [pS])
    obtain ⟨b',o',bW,bS,d0,d1,d2,d3⟩:=eD.rd.tsk gH;simp only [Option.some.injEq,Addr.mk.injEq,and_true] at bW;obtain ⟨rfl,rfl⟩:=bW;have jJ:=(eD.block Bl).2.2;have hO5:Hw Fz ((((W4.setCell ⟨b,o+x * 4,Ac⟩ (J Ab tx.state)).setCell ⟨b,o+x * 4+1,Ac⟩ (J Ab (tx.need - 1))).setCell ⟨b,o+x * 4+2,Ac⟩ (J Ab tx.try_)).setCell ⟨b,o+x * 4+3,Ac⟩ (J Ab tx.until_)) [b] (Aa (Ad ⟨b,o,Ac⟩) r.tasks.length c4) _:=eD.task4 gH ⟨tx.state,tx.need - 1,tx.try_,tx.until_⟩;have cX:Chg [b] W4 ((((W4.setCell ⟨b,o+x * 4,Ac⟩ (J Ab tx.state)).setCell ⟨b,o+x * 4+1,Ac⟩ (J Ab (tx.need - 1))).setCell ⟨b,o+x * 4+2,Ac⟩ (J Ab tx.try_)).setCell ⟨b,o+x * 4+3,Ac⟩ (J Ab tx.until_)):=(((Chg.setCell W4 b _ _).trans (Chg.setCell _ b _ _)).trans (Chg.setCell _ b _ _)).trans (Chg.setCell _ b _ _);refine rC 8 (fun K_ hK=>?_);go_simp;clear d0 d1 d2 d3 jJ bS;have cR:w1.heap.size∉[b]:=by simp only [Aw];omega
    have pM:w.heap.size+1∉[b]:=by simp only [Aw];omega
    have fA:wr.heap.size∉[b]:=by simp only [Aw];omega
    have OB5:=OB3.chg cX cR;have RES5:=RES3.chg cX pM;have XB5:=XB3.chg cX fA;have e5:=(cX.cell (p:=⟨b9,o9+k,Ac⟩) (by show b9<W4;omega) (by simp only [Aw];omega)).trans aA.2.1;have dM:=bU.trans cX;generalize ((((W4.setCell ⟨b,o+x * 4,Ac⟩ (J Ab tx.state)).setCell ⟨b,o+x * 4+1,Ac⟩ (J Ab (tx.need - 1))).setCell ⟨b,o+x * 4+2,Ac⟩ (J Ab tx.try_)).setCell ⟨b,o+x * 4+3,Ac⟩ (J Ab tx.until_))=W5 at *
    refine hK.out _ _ ⟨OB5,e5,XB5⟩ (fun aA=>?_);clear hK K_
    (try simp only [pS])
    refine Am Bm ?_ _;refine NoPanic.normal ?_;clear aA;go_wp2;exact ⟨⟨k+1,Bl,by go_num,by rw [dK.out,mQ.out];exact hO5,OB5,RES5,dM⟩,clM⟩
  ·have aC:¬ (k:Int)<(BL.length:Int):=Bl;have cE:=hO.out;rw [Bg Bl] at cE;have hD:=Bq (show Gs r u=⟨r.id,r.plan,stL (BL.foldl (fun l b=>Hc l b Da) L0),BL.foldl (fun l b=>Hc l b Da) L0⟩ by rw [hD0.out];unfold Ahv;rw [tD.out]);have bL:=Bq (Tf BL L0 0 hbnd.out (Int.le_refl 0));have uQ:=Bq (show (BL.foldl (fun l b=>Hc l b Da) L0).length=r.tasks.length by rw [Mc r u,nM.out]);generalize BL.foldl (fun l b=>Hc l b Da) L0=DL at *
   clear hO;have opr:=Ck.ow_chg op5 hb (fun x hx h=>by simp only [Aw] at h;subst h;exact eV hx);have CS:=Bq (Qn ⟨r.id,r.plan,r.state,DL⟩ (⟨A3,n3,c3⟩,⟨Ad ⟨b,o,Ac⟩,r.tasks.length,c4⟩) wr (by show DL.length<=2000000;rw [uQ.out];omega) (fun x hx=>(bL.out x hx).2.2) ⟨Ck.ow_rd opr,(Hf cE).rd⟩);have OB_:=OB.g8;have hsr:=hb.size;go_wp2_with fail
   refine CS.out.mono ?_;rintro e w6 ⟨rfl,b6⟩;have hO2:=cE.below b6;have op6:=Ck.ow_below opr b6;have B6:Below w w w6:=Bv (B5.trans (hb.below Bl (fun x hx=>by simp only [Aw] at hx;omega))) b6;have hs66:=b6.size;clear OB_;replace OB:=OB.below b6;replace RES:=RES.below b6;have OB_:=OB.g8;have RES_:=RES.g8;have obf:=OB.free;have rf:=RES.free;go_wp2;have hor:w.heap.size+1≠w1.heap.size:=Bl;refine Ak (Ac4 (DBox.row8 (RES.setOther (a:=⟨w1,6,Ac⟩) hor (J Ab (stL DL))) rfl _ _ _ _ _ _ _ _)) rfl ⟨(⟨A3,n3,c3⟩,⟨Ad ⟨b,o,Ac⟩,r.tasks.length,c4⟩),F1 ++ [b],by rw [hD.out],⟨F1,[b],rfl,bI,?_,?_⟩,?_,?_⟩
   ·have e2:w.heap.size+1∉F1:=fun hx=>by have:=nF _ (Bf _ hx);omega
    have e3:w1.heap.size∉F1:=fun hx=>by have:=bM.out _ hx;omega
    rw [hD.out];show Ck.ow _ F1 r.plan _;exact (by (repeat (refine Dt.ow_set Ck ?_ (by first | exact e3 | exact e2) _));exact op6)
   ·have e1:w.heap.size+1∉[b]:=by simp only [Aw];omega
    have e0:w1.heap.size∉[b]:=by simp only [Aw];omega
    rw [hD.out];show OwL Eu _ [b] _ DL;exact Hf (((((((((hO2.set (a:=⟨w1,_,Ac⟩) e0 _).set (a:=⟨w+1,_,Ac⟩) e1 _).set (a:=⟨w+1,_,Ac⟩) e1 _).set (a:=⟨w+1,_,Ac⟩) e1 _).set (a:=⟨w+1,_,Ac⟩) e1 _).set (a:=⟨w+1,_,Ac⟩) e1 _).set (a:=⟨w+1,_,Ac⟩) e1 _).set (a:=⟨w+1,_,Ac⟩) e1 _).set (a:=⟨w+1,_,Ac⟩) e1 _)
   ·intro x hx
    have:=nF x hx
    omega
   ·repeat (first | (with_reducible exact B6) | refine Ae ?_ Bo _)
section
theorem Ahw {l:List Entry} {e x:Entry} (h:x∈Ip l e):x∈l\/x=e:=by
 unfold Ip at h;rcases Bi.1 h with h | h
 ·exact .inl ((List.takeWhile_prefix _).sublist.subset h)
 ·rcases List.mem_cons.1 h with h | h
  ·exact .inr h
  ·exact .inl ((List.dropWhile_suffix _).sublist.subset h)
theorem Xb (b:List Entry):∀ (a:List Entry) {x:Entry},x∈b.foldl Ip a->x∈a\/x∈b:=by
 induction b with
 | nil=>intro a x h;exact .inl h
 | cons e b ih =>
  intro a x h;rw [List.foldl_cons] at h;rcases ih _ h with h | h
  ·rcases Ahw h with h | h
   ·exact .inl h
   ·exact .inr (by rw [h];exact List.mem_cons_self ..)
  ·exact .inr (List.mem_cons_of_mem _ h)
theorem Ac5 {a b:List Entry} {x:Entry} (h:x∈Gp a b):x∈a\/x∈b:=by
 unfold Gp at h;split at h
 ·exact .inl h
 ·exact Xb b a h
theorem N5 {y z:Yard} (h:z.runs=y.runs) (id:Int):Db z id=Db y id:=by unfold Db;rw [h]
theorem Mw {y z:Yard} (h:z.runs=y.runs) (e:Entry):Di z e=Di y e:=by
 unfold Di;apply Ahm;have hk:Ij z e.run=Ij y e.run:=by unfold Ij;rw [h,N5 h]
 unfold Q4;rw [hk,N5 h]
theorem Gf {y:Yard} {i:Nat} (h:i<y.shelf.length):y.shelf.getD i []=y.shelf[i]:=by
 rw [List.getD_eq_getElem?_getD,List.getElem?_eq_getElem h];rfl
structure Pol (y:Yard) (home:Nat) (z:Yard):Prop where
 now:z.now=y.now
 seq:z.seq=y.seq
 runs:z.runs=y.runs
 four:z.shelf.length=4
 all:∀ s∈z.shelf,s.length<=80
 fresh:∀ e∈z.shelf.getD home [],Di y e=true
theorem Nq (y:Yard) (i:Nat):(Cg y i).shelf.length=y.shelf.length:=by unfold Cg;simp
theorem Qa {y:Yard} {i M:Nat} (h:∀ s∈y.shelf,s.length<=M):∀ s∈(Cg y i).shelf,s.length<=M:=by
 intro s hs;unfold Cg at hs;rcases List.mem_or_eq_of_mem_set hs with h1 | h1
 ·exact h s h1
 ·subst h1;refine Ai (List.length_filter_le _ _) ?_;rw [List.getD_eq_getElem?_getD];cases q:y.shelf[i]? with
  | none=>simp
  | some s=>exact h s (List.mem_of_getElem? q)
theorem Ac6 {y:Yard} {i:Nat} (h:i<y.shelf.length):(Cg y i).shelf.getD i []=(y.shelf[i]).filter fun e=>Di y e:=by
 rw [Gf (by rw [Nq];exact h)];unfold Cg;simp only [List.getElem_set_self];rw [Gf h]
theorem Tg {y:Yard} {i j:Nat} (h:i≠j):(Cg y i).shelf.getD j []=y.shelf.getD j []:=by
 unfold Cg;simp only [List.getD_eq_getElem?_getD,List.getElem?_set_ne h]
theorem Pol.start {y:Yard} (h:Dn y) {home:Nat} (hh:home<4):Pol y home (Cg y home):=by
 have h4:=h.2.2.1;refine ⟨rfl,rfl,rfl,by rw [Nq];exact h4,Qa (fun s hs=>(h.2.2.2.1 s hs).1),fun e he=>?_⟩;rw [Ac6 Bl] at he;exact (List.mem_filter.1 he).2
theorem M8 (l:List Entry) (h:l.length<=80):(l.take (C9 l)).length<=80:=by rw [A0];omega
noncomputable def K8 (home:Nat) (y:Yard) (v:Nat):Yard :=
 ⟨y.now,y.seq,((Cg y v).shelf.set v (((Cg y v).shelf.getD v []).drop (C9 ((Cg y v).shelf.getD v [])))).set home (Gp [] (((Cg y v).shelf.getD v []).take (C9 ((Cg y v).shelf.getD v [])))),y.runs⟩
theorem Ac7 {home:Nat} {y:Yard} {v:Nat} (h:¬ (y.shelf.getD home []).length=0):Ed home y v=y:=by unfold Ed;rw [if_neg h]
theorem Nr {home:Nat} {y:Yard} {v:Nat} (h:(y.shelf.getD home []).length=0) (hv:v≠home):Ed home y v=K8 home y v:=by
 unfold Ed;rw [if_pos h];unfold K8;have e:((Cg y v).shelf.set v (((Cg y v).shelf.getD v []).drop (C9 ((Cg y v).shelf.getD v [])))).getD home []=[]:=by
  rw [List.getD_eq_getElem?_getD,List.getElem?_set_ne hv,<-List.getD_eq_getElem?_getD,Tg hv];exact List.eq_nil_of_length_eq_zero h
 simp only [e];rfl
theorem Aa8 {home:Nat} {y:Yard} {v:Nat} (h4:y.shelf.length=4) (hh:home<4):(K8 home y v).shelf.getD home []=Gp [] (((Cg y v).shelf.getD v []).take (C9 ((Cg y v).shelf.getD v []))):=by
 rw [Gf (by unfold K8;simp [Cg];omega)];unfold K8;simp only [List.getElem_set_self]
theorem Pol.step {y z:Yard} {home v:Nat} (h:Pol y home z) (hh:home<4) (hv:v<4) (aE:v≠home):Pol y home (Ed home z v):=by
 by_cases q:(z.shelf.getD home []).length=0
 ·rw [Nr q aE];have jW:∀ e∈(Cg z v).shelf.getD v [],Di y e=true:=by
   intro e he;rw [Ac6 (by rw [h.four];exact hv)] at he;rw [<-Mw h.runs];exact (List.mem_filter.1 he).2
  have tH:=Qa (i:=v) h.all;have hlv:((Cg z v).shelf.getD v []).length<=80:=by
   rw [Gf (by rw [Nq,h.four];exact hv)];exact tH _ (Ax _)
  refine ⟨h.now,h.seq,h.runs,by unfold K8;simp [Cg];exact h.four,fun s hs=>?_,fun e he=>?_⟩
  ·unfold K8 at hs;rcases List.mem_or_eq_of_mem_set hs with h1 | h1
   ·rcases List.mem_or_eq_of_mem_set h1 with h2 | h2
    ·exact tH s h2
    ·subst h2;rw [List.length_drop];omega
   ·subst h1;refine Ai (Aci _ _) ?_
    have:=M8 _ hlv
    simp only [List.length_nil,Nat.zero_add];exact this
  ·rw [Aa8 h.four hh] at he;rcases Ac5 he with h1 | h1
   ·cases h1
   ·exact jW e (List.mem_of_mem_take h1)
 ·rw [Ac7 q];exact h
theorem Pol.cnt {y z:Yard} {home:Nat} (h:Pol y home z) (hy:Dn y):Cf z<=2000000:=by
 have:=P9 h.four h.all (by rw [h.runs];exact hy.2.2.2.2.2.2.1) (fun k hk=>by
  have bE:k<y.runs.length:=by rw [<-h.runs];exact hk
  have e:z.runs[k]=y.runs[k]:=by simp only [h.runs]
  rw [e];exact Er hy bE)
 omega
theorem N6 {home draw:Int} : ∀ v∈Em home draw,v<4:=by
 intro v hv;unfold Em at hv;obtain ⟨i,_,rfl⟩:=List.mem_map.1 hv;exact Nat.mod_lt _ Bp
theorem N7 {home draw:Int} (h0:0<=home) (h:home<4):∀ v∈Em home draw,v≠home.toNat:=by
 intro v hv;unfold Em at hv;obtain ⟨i,_,rfl⟩:=List.mem_map.1 hv
 have:=Nat.mod_lt ((max draw 0 % 3).toNat+i) (show 0<3 by decide)
 omega
theorem Uf (home draw:Int):(Em home draw).length=3:=by unfold Em;simp
noncomputable def J5 (y:Yard) (home draw:Int):Yard:=(Em home draw).foldl (Ed home.toNat) (Cg y home.toNat)
theorem Pol.fold {y:Yard} {home:Nat} (hh:home<4):∀ (l:List Nat) (z:Yard),Pol y home z->(∀ v∈l,v<4/\v≠home)->Pol y home (l.foldl (Ed home) z)
 | [],_,h,_=>h
 | v :: l,z,h,hl=>Pol.fold hh l _ (h.step hh (hl v (List.mem_cons_self ..)).1 (hl v (List.mem_cons_self ..)).2) (fun x hx=>hl x (List.mem_cons_of_mem _ hx))
theorem M9 {home:Nat} : ∀ (l:List Nat) (z:Yard),¬ (z.shelf.getD home []).length=0->l.foldl (Ed home) z=z
 | [],_,_=>rfl
 | v :: l,z,h=>by rw [List.foldl_cons,Ac7 h];exact M9 l z h
noncomputable def Ug (z:Yard) (home:Nat):List Entry->Yard×Reply
 | []=>(z,⟨9,0,0,0⟩)
 | e :: rest=>(⟨z.now,z.seq,z.shelf.set home rest,z.runs.set (Db z e.run).toNat (De (Ij z e.run) e.task.toNat z.now)⟩,⟨0,e.run,e.task,(By (Ij z e.run) e.task.toNat).try_+1⟩)
noncomputable def Mx (z:Yard) (home:Nat):Yard×Reply:=Ug z home (z.shelf.getD home [])
open Classical in
noncomputable def Ih (y:Yard) (worker draw:Int):Yard×Reply :=
 if ¬ Dn y then (y,⟨8,0,0,0⟩) else if inB worker 0 99=false then (y,⟨5,0,0,0⟩) else Mx (J5 y (worker % 4) draw) (worker % 4).toNat
end
theorem Ac8 {α:Type} {l:List α} {k:Nat} (h:k<l.length) {x:α} (hx:l[k]=x):l.set k x=l:=by subst hx;exact List.set_getElem_self h
def Zx (l:List Task) (b o c n:Nat) (w:World) (e:Ending) (w':World):Prop :=
 e = .returned (.tuple #[])/\Hw Fz w' [b] (Aa (Ad ⟨b,o,Ac⟩) n c) l/\Chg [b] w w'
theorem Qu (gr off b o c:Nat) (l:List Task) (but:Int) (w:World) (h7:w.cell? ⟨gr,off+7,Ac⟩=Ad (Aa (Ad ⟨b,o,Ac⟩) l.length c)) (sU:gr<w) (aE:gr≠b) (hl:l.length<=1000) (hp:0<l.length)
  (hw:Hw Fz w [b] (Aa (Ad ⟨b,o,Ac⟩) l.length c) l) (dM:∀ k (h:k<l.length),l[k].state=5 ↔ (k:Int)=but) :
  Calls An 278 #[.pointer (Ad ⟨gr,off,Ac⟩),J Ab but] w (Zx (l.map Dj) b o c l.length w):=by
 have dJ:=(hw.block hp).2.1;have H5:=Bq dM;clear dM;go_enter func278,ntmps278;go_wp2;go_loopw [4,11] (fun v i wr=>∃ k:Nat,k<=l.length/\i = J Ab k/\Hid (Hw Fz wr [b] (Aa (Ad ⟨b,o,Ac⟩) l.length c) ((l.take k).map Dj ++ l.drop k))/\Chg [b] w wr) (fun _ i _=>l.length - (intOf i).toNat);case atStart=>exact ⟨0,Ah _,rfl,by simpa using Bq hw,Chg.refl _ _⟩
 case round =>
  obtain ⟨k,hk,rfl,hO,hC⟩:=hrel;have g7:wr.cell? ⟨gr,off+7,Ac⟩=Ad (Aa (Ad ⟨b,o,Ac⟩) l.length c):=(hC.cell (p:=⟨gr,off+7,Ac⟩) sU (by simpa using aE)).trans h7;have fZ:gr<wr:=Aj sU hC.size;by_cases aB:k<l.length;case neg =>
   have aC:¬ (k:Int)<(l.length:Int):=Bl;have HO:=hO.out;rw [Bg Bl,List.drop_eq_nil_of_le Bl,List.append_nil] at HO;have HF:=Bq (show Zx (l.map Dj) b o c l.length w (.returned (.tuple #[])) wr from ⟨rfl,HO,hC⟩);clear HO hO;go_wp2;exact Ak (v:=.tuple #[]) (by simp [results,results278,go_sem]) rfl HF.out
  have aC:(k:Int)<(l.length:Int):=Bl;have dF:(0:Int)<=(k:Int):=Bl;have jG:k<((l.take k).map Dj ++ l.drop k).length:=by simp;omega
  have tA:((l.take k).map Dj ++ l.drop k)[k]=l[k]:=by
   rw [List.getElem_append_right (by simp;omega)];simp [A0,Nat.min_eq_left (Nat.le_of_lt aB)]
  obtain ⟨_,_,hA,aH,d0,d1,d2,d3⟩:=hO.out.rd.tsk jG;simp only [Option.some.injEq,Addr.mk.injEq,and_true] at hA;obtain ⟨rfl,rfl⟩:=hA;rw [tA] at d0 d1 d2 d3;have bL:=Bq (N3 aB Dj);have h5:=H5.out k aB;have jJ:=(hO.out.block Bl).2.2;by_cases qJ:(k:Int)=but
  ·subst qJ;have hx:Dj l[k]=l[k]:=by unfold Dj;rw [if_neg (by have:=h5.2 rfl;omega)]
   have HN:=Bq (show Hw Fz wr [b] (Aa (Ad ⟨b,o,Ac⟩) l.length c) ((l.take (k+1)).map Dj ++ l.drop (k+1)) from by
    rw [<-bL.out,hx];rw [Ac8 jG tA];exact hO.out)
   clear hx h5;go_wp2;exact ⟨⟨k+1,Bl,by go_num,HN,hC⟩,clM⟩
  have hbq:((k:Int) != but)=true:=by simp [qJ]
  by_cases h4:l[k].state=4
  ·have hx:Dj l[k]=l[k]:=by unfold Dj;rw [if_neg Bl]
   have HN:=Bq (show Hw Fz wr [b] (Aa (Ad ⟨b,o,Ac⟩) l.length c) ((l.take (k+1)).map Dj ++ l.drop (k+1)) from by
    rw [<-bL.out,hx];rw [Ac8 jG tA];exact hO.out)
   rw [h4] at d0;clear hx h5 h4;go_wp2;exact ⟨⟨k+1,Bl,by go_num,HN,hC⟩,clM⟩
  have hq4:(l[k].state != 4)=true:=by simp [h4]
  have hx:Dj l[k]=⟨6,l[k].need,l[k].try_,0⟩:=by unfold Dj;rw [if_pos ⟨h4,fun h=>qJ (h5.1 h)⟩]
  have h1:=hO.out.taskState jG 6;have h2:=h1.taskUntil (j:=k) (by rw [Bh];exact jG) 0;simp only [List.getElem_set_self,List.set_set,tA] at h2;have jD:Chg [b] w ((wr.setCell ⟨b,o+k * 4,Ac⟩ (J Ab 6)).setCell ⟨b,o+k * 4+3,Ac⟩ (J Ab 0)):=(hC.trans (Chg.setCell wr b _ _)).trans (Chg.setCell _ b _ _);have HN:=Bq (show Hw Fz ((wr.setCell ⟨b,o+k * 4,Ac⟩ (J Ab 6)).setCell ⟨b,o+k * 4+3,Ac⟩ (J Ab 0)) [b] (Aa (Ad ⟨b,o,Ac⟩) l.length c) ((l.take (k+1)).map Dj ++ l.drop (k+1)) from by
   rw [<-bL.out,hx];exact h2)
  clear hx h5 h4 h1 h2 qJ;go_wp2;exact ⟨⟨k+1,Bl,by go_num,HN,jD⟩,clM⟩
section
theorem Sm {b:Nat} {w:World} {u0 u1 u2 u3:Value} (X:DBox b [u0,u1,u2,u3] w) {v0 v1 v2 v3 v4 v5 v6 v7 v9:Value} {rest:List Value} :
  (results Tryz.f166 (v0 :: v1 :: v2 :: v3 :: v4 :: v5 :: v6 :: v7 :: .pointer (Ad ⟨b,0,Ac⟩) :: v9 :: rest).toArray).run An w = .ok (.tuple #[.agg #[u0,u1,u2,u3],v9]) w:=by
 have c0:=X.cell 0 _ rfl;have c1:=X.cell 1 _ rfl;have c2:=X.cell 2 _ rfl;have c3:=X.cell 3 _ rfl;simp [results,results166,go_sem,c0,c1,c2,c3]
theorem Ns (r:Run) (t:Nat):(Gs r t).tasks.length=r.tasks.length:=by
 show (I5 r t).length=_;unfold I5;rw [Mc r t,Ic]
open Classical in
noncomputable def Kc (y:Yard) (id tk tr:Int):Yard:=if G6 y id tk tr=0 then E0 y (Db y id).toNat (Gs (Ij y id) tk.toNat) else y
theorem Th (y:Yard) (s:Sl×Sl) (id tk tr:Int) (w:World) (hl:Cf y<=2000000) (h:Bu.rd w w y s) :
  Calls An 166 #[Dh y s,J Ab id,J Ab tk,J Ab tr] w (I7 (Kc y id tk tr) (G6 y id tk tr) w):=by
 have HR:=Bq (show ∀ W,Below w w W->Bu.rd W W y s from fun W hW=>Bu.rd_more (Bu.rd_below h hW) hW.size);obtain ⟨⟨A1,n1,c1⟩,⟨A2,n2,c2⟩⟩:=s;have CC:=Bq (fun W hW=>Fh y (⟨A1,n1,c1⟩,⟨A2,n2,c2⟩) W hl (HR.out W hW));have CK:=Bq (fun W hW=>Ud y (⟨A1,n1,c1⟩,⟨A2,n2,c2⟩) id tk tr W hl (HR.out W hW));have CA:=Bq (fun W hW=>Fo y (⟨A1,n1,c1⟩,⟨A2,n2,c2⟩) id W hl (HR.out W hW));clear h;obtain ⟨W,aG,X,RES,B0⟩:=bx2 w 31 [J Ab y.now,J Ab y.seq,Aa A1 n1 c1,Aa A2 n2 c2] 31 [J Ab 0,J Ab 0,Aa Ac 0 0,Aa Ac 0 0];go_enter func166,ntmps166;go_wp2_with fail
 rw [<-aG.out];clear aG;refine (CC.out _ B0).mono ?_;rintro e1 w1 ⟨⟨⟨B1,m1,e1⟩,⟨B2,m2,e2⟩⟩,F,rfl,oy,nF,b1⟩;have jY:=X.lt;have dL:=RES.lt;replace X:=X.below b1;replace RES:=RES.below b1;replace B0:=Bv B0 b1;have bM:=Bu.ow_lt (F:=F) (x:=y) (s:=(⟨B1,m1,e1⟩,⟨B2,m2,e2⟩)) oy;have bG:=b1.size;clear b1;go_upto_region 2 with fail
 have OB:=DBox.new 31 [J Ab y.now,J Ab y.seq,Aa B1 m1 e1,Aa B2 m2 e2] w1 (b:=w1) rfl;have b2:Below w1 w1 (w1.alloc (.cells #[J Ab y.now,J Ab y.seq,Aa B1 m1 e1,Aa B2 m2 e2] 31)):=Bt;replace B0:=Bv B0 b2;replace X:=X.below b2;replace RES:=RES.below b2;replace oy:=Bu.ow_below (F:=F) (x:=y) (s:=(⟨B1,m1,e1⟩,⟨B2,m2,e2⟩)) oy b2;have cN:=b2.size;have ow1:=OB.lt;generalize w1.alloc (.cells #[J Ab y.now,J Ab y.seq,Aa B1 m1 e1,Aa B2 m2 e2] 31)=w2 at *
 have X_:=X.g4;go_wp2_with fail
 refine (CK.out _ B0).mono ?_;rintro e1 w3 ⟨rfl,b3⟩;replace B0:=Bv B0 b3;clear X_;replace X:=X.below b3;replace RES:=RES.below b3;replace OB:=OB.below b3;replace oy:=Bu.ow_below (F:=F) (x:=y) (s:=(⟨B1,m1,e1⟩,⟨B2,m2,e2⟩)) oy b3;have fS:=b3.size;clear b3 b2 CC CK;have X_:=X.g4;have OB_:=OB.g4;by_cases q:G6 y id tk tr=0;case neg =>
  have q2:(G6 y id tk tr != 0)=true:=by simp [q]
  have H:=Bq (show Kc y id tk tr=y from if_neg q);clear q;have RES_:=RES.g4;have rf:=RES.free;go_wp2;have en1:w.heap.size+1∉F:=fun hx=>by have:=nF _ hx;omega
  refine Ak (Sm (DBox.row4 RES rfl _ _ _ _)) rfl ⟨(⟨B1,m1,e1⟩,⟨B2,m2,e2⟩),F,by rw [H.out],by rw [H.out];exact (Bu.set4 (F:=F) (x:=y) (s:=(⟨B1,m1,e1⟩,⟨B2,m2,e2⟩)) oy en1),fun x hx=>by have:=nF x hx;omega,?_⟩;repeat (first | (with_reducible exact B0) | refine Ae ?_ Bo _)
 have q2:(G6 y id tk tr != 0)=false:=by simp [q]
 have H:=Bq (show Kc y id tk tr=E0 y (Db y id).toNat (Gs (Ij y id) tk.toNat) from if_pos q);have HP:Hid (Dn y/\0<=Db y id/\Gq y id tk tr):=by
  unfold G6 at q;by_cases p0:Dn y
  ·by_cases p1:Db y id<0
   ·rw [if_neg (fun h=>h p0),if_pos p1] at q;cases q
   ·by_cases p2:Gq y id tk tr
    ·exact ⟨p0,Bl,p2⟩
    ·rw [if_neg (fun h=>h p0),if_neg p1,if_pos p2] at q;cases q
  ·rw [if_pos p0] at q;cases q
 have Hq:=Bq q;clear q;rcases Ek y id with hr | ⟨k,hk,hr⟩
 ·exact absurd HP.out.2.1 Bl
 have HK:=Bq (Ey hk hr);have HR2:=Bq hr;clear hr;have bK:=Bq (Er HP.out.1 hk);have hth:=Bq HP.out.2.2;have cU:Hid ((0<=tk/\tk<(y.runs[k].tasks.length:Int))/\(By y.runs[k] tk.toNat).state=3):=by
  have:=hth.out
  unfold Gq at this;rw [HK.out] at this;exact ⟨this.2.1,this.2.2.1⟩
 obtain ⟨u,rfl⟩:=Int.eq_ofNat_of_zero_le cU.out.1.1;have hu:u<y.runs[k].tasks.length:=by have:=cU.out.1.2;omega
 have aL:Hid (Iu y.runs[k] u):=⟨bK.out,⟨Bl,Bl⟩,cU.out.2⟩
 go_wp2_with fail
 refine (CA.out _ B0).mono ?_;rintro e2' w4 ⟨rfl,b4⟩;rw [HR2.out];replace B0:=Bv B0 b4;clear X_;clear OB_;clear X;replace RES:=RES.below b4;replace OB:=OB.below b4;replace oy:Bu.ow w4 F y (⟨B1,m1,e1⟩,⟨B2,m2,e2⟩):=owB oy b4;have kH:=b4.size;clear b4 CA;have oy2:=oy;obtain ⟨F1,F2,rfl,bI,os,orr⟩:=oy2;replace orr:OwL Cn w4 F2 (Aa B2 m2 e2) y.runs:=orr;obtain rfl:m2=y.runs.length:=RdL.at1 (s:=⟨B2,m2,e2⟩) orr.rd;obtain ⟨gr,o2,sk,rfl,cQ,bR,c0,c1_,c2_,c3,c4,c5,c6,c7⟩:=orr.rd.run hk;have gJ:(k:Int)<(y.runs.length:Int):=Bl;have dF:(0:Int)<=(k:Int):=Bl;go_wp2;refine Go.wp_region_noPanic ?_;refine wp_region_held_drew (S:=(fun w'=>DBox w1 [J Ab y.now,J Ab y.seq,Aa B1 m1 e1,Aa (Ad ⟨gr,o2,Ac⟩) y.runs.length e2] w')) Bm (DBox.drew4 OB) (fun aA=>?_);refine tY 0 ?_
 (try simp only [pS])
 refine tY 1 ?_
 (try simp only [pS])
 refine tY 2 ?_
 (try simp only [pS])
 refine tY 3 ?_
 (try simp only [pS])
 refine tY 4 ?_
 (try simp only [pS])
 refine tY 5 ?_
 (try simp only [pS])
 refine tY 7 ?_
 (try simp only [pS])
 have bd:Below w4 w4 w4.drew:=(Br _ _).drew;replace B0:=Bv B0 bd;replace RES:=RES.below bd;replace OB:=OB.below bd;replace oy:Bu.ow w4.drew (F1 ++ F2) y (⟨B1,m1,e1⟩,⟨Ad ⟨gr,o2,Ac⟩,y.runs.length,e2⟩):=Bu.ow_below (F:=F1 ++ F2) (x:=y) (s:=(⟨B1,m1,e1⟩,⟨Ad ⟨gr,o2,Ac⟩,y.runs.length,e2⟩)) oy bd;refine rC 6 (fun K_ hK=>?_);go_simp;refine hK.out _ _ OB (fun aA=>?_);clear hK K_
 (try simp only [pS])
 have kQ:=Fc hl hk;have hrk2:Cn.rd w4.drew w4.drew y.runs[k] sk:=Cn.rd_below bR bd;have hcrun:Dc y.runs[k]<=2000000:=by
  have h1:=Gw (cnt:=Dc) (Ax hk);unfold Cf at hl;omega
 have CF:=Bq (Aa7 y.runs[k] sk u w4.drew hcrun aL.out hrk2);clear c0 c1_ c2_ c3 c4 c5 c6 c7;refine rC 8 (fun K_ hK=>?_);go_simp;refine CF.out.mono ?_;rintro e3 w5 ⟨sr,Fr,rfl,orn,nFr,b5⟩;refine hK.out _ _ (OB.below b5) (fun aA=>?_);clear hK K_
 (try simp only [pS])
 have mU:w4.drew.heap.size=w4.heap.size:=rfl;have mK:=b5.size;have qA:=D4 bK.out;have CT:=Bq (L7 y (⟨B1,m1,e1⟩,⟨Ad ⟨gr,o2,Ac⟩,y.runs.length,e2⟩) k (Gs y.runs[k] u) sr w5 (F1 ++ F2) Fr HP.out.1.2.2.1 (fun s hs=>by have:=(HP.out.1.2.2.2.1 s hs).1;omega) (by have:=HP.out.1.2.1;omega) hk (by rw [Ns];omega) Bl (Bu.ow_below (F:=F1 ++ F2) (x:=y) (s:=(⟨B1,m1,e1⟩,⟨Ad ⟨gr,o2,Ac⟩,y.runs.length,e2⟩)) oy b5) orn (fun x hx bF=>by have h1:=nFr x hx;have h2:=bM x bF;omega));have HF:=Bq (show Kc y id u tr=E0 y k (Gs y.runs[k] u) by rw [H.out,HR2.out,HK.out,Ap,Ap]);clear H;refine rC 9 (fun K_ hK=>?_);go_simp;refine CT.out.mono ?_;rintro e4 w6 ⟨s5,F5,rfl,oy7,n5,c6⟩;have aE:w1.heap.size∉F1 ++ F2:=fun h=>by have:=bM _ h;omega
 have kD:w.heap.size+1∉F1 ++ F2:=fun h=>by have:=nF _ h;omega
 have OB6:=(OB.below b5).chg c6 aE;have RES6:=(RES.below b5).chg c6 kD;have B6:Below w w w6:=(Bv B0 b5).trans (c6.below (by have:=(Bv B0 b5).size;omega) (fun x hx=>by have:=nF _ hx;omega));generalize E0 y k (Gs y.runs[k] u)=Z at *
 refine hK.out _ _ OB6 (fun aA=>?_);clear hK K_
 (try simp only [pS])
 have r0:=RES6.cell 0 _ rfl;have r1:=RES6.cell 1 _ rfl;have r2:=RES6.cell 2 _ rfl;have r3:=RES6.cell 3 _ rfl;have rl:=RES6.lt;have rf:=RES6.free;refine rC 10 (fun K_ hK=>?_);go_simp;have cR:w1.heap.size≠w.heap.size+1:=Bl;refine hK.out _ _ ((((OB6.setOther (a:=⟨w+1,_,Ac⟩) cR _).setOther (a:=⟨w+1,_,Ac⟩) cR _).setOther (a:=⟨w+1,_,Ac⟩) cR _).setOther (a:=⟨w+1,_,Ac⟩) cR _) (fun aA=>?_);clear hK K_
 (try simp only [pS])
 refine rC 11 (fun K_ hK=>?_);go_simp;refine hK.out _ _ aA (fun aA=>?_);clear hK K_
 (try simp only [pS])
 refine Am Bm ?_ _;refine NoPanic.normal ?_;clear aA r0 r1 r2 r3 rf;have en5:w.heap.size+1∉F5:=fun hx=>by
  rcases n5 _ hx with h | h | h
  ·exact kD h
  ·have:=nFr _ h;omega
  ·omega
 have hZ:Kc y id u tr=Z:=HF.out;have H2:=Bq hZ;clear hZ;have Hq2:=Bq (show G6 y id u tr=0 from Hq.out);go_wp2;refine Ak (Sm (DBox.row4 RES6 rfl _ _ _ _)) rfl ⟨s5,F5,by rw [H2.out,Hq2.out],by rw [H2.out];exact (Bu.set4 (F:=F5) (x:=Z) (s:=s5) oy7 en5),fun x hx=>?_,?_⟩
 ·rcases n5 x hx with h | h | h
  ·have:=nF x h;omega
  ·have:=nFr x h;omega
  ·omega
 ·repeat (first | (with_reducible exact B6) | refine Ae ?_ Bo _)
end
theorem G7 {y:Yard} {w:World} {F Fy:List Nat} {g o n c:Nat} {R:Sl} (h:Bu.ow w F y (⟨Ad ⟨g,o,Ac⟩,n,c⟩,R)) {i:Nat} (hi:i<y.shelf.length) {l:List Entry} {t:Sl} (hl:OwL Ch w Fy t.v l) (hd:∀ x∈Fy,x∉F) :
  ∃ F',Bu.ow (w.setCell ⟨g,o+i,Ac⟩ (Aa t.a t.n t.c)) F' ⟨y.now,y.seq,y.shelf.set i l,y.runs⟩ (⟨Ad ⟨g,o,Ac⟩,n,c⟩,R)/\(∀ x∈F',x∈F\/x∈Fy)/\g∈F:=by
 obtain ⟨F1,F2,rfl,bI,os,orr⟩:=h;replace os:OwL (Dt.list Ch) w F1 (Aa (Ad ⟨g,o,Ac⟩) n c) y.shelf:=os;replace orr:OwL Cn w F2 R.v y.runs:=orr;obtain ⟨F',p1,p2,p3,p4⟩:=OwL.swap os hi (y:=l) (s:=t) (Fy:=Fy) hl (fun x hx bF=>hd x hx (Bf _ bF));have fD:Is w g (o+i * (Dt.list Ch).enc.sz) ((Dt.list Ch).enc.cells (l,t))=w.setCell ⟨g,o+i,Ac⟩ (Aa t.a t.n t.c):=by
  rw [show (Dt.list Ch).enc.sz=1 from rfl,Nat.mul_one];rfl
 rw [fD] at p1;have dX:=(Ay.1 bI).2.2;refine ⟨F' ++ F2,⟨F',F2,rfl,?_,p1,?_⟩,fun x hx=>?_,Bf _ p3⟩
 ·rw [Ay];refine ⟨p1.nodup,(Ay.1 bI).2.1,fun a ha b hb e=>?_⟩;subst e;rcases p2 a ha with h1 | h1
  ·exact dX a h1 a hb rfl
  ·exact hd a h1 (Be _ hb)
 ·exact orr.chg (Chg.setCell w g _ _) (fun x hx hg=>by simp only [Aw] at hg;subst hg;exact dX x p3 x hx rfl)
 ·rcases Bi.1 hx with h1 | h1
  ·rcases p2 x h1 with h2 | h2
   ·exact .inl (Bf _ h2)
   ·exact .inr h2
  ·exact .inl (Be _ h1)
theorem Pe {y:Yard} {w:World} {F Fy:List Nat} {g o n c:Nat} {R:Sl} (h:Bu.ow w F y (R,⟨Ad ⟨g,o,Ac⟩,n,c⟩)) {k:Nat} (hk:k<y.runs.length) {r:Run} {sr:Sl×Sl} (hr:Cn.ow w Fy r sr) (hd:∀ x∈Fy,x∉F) :
  ∃ F',Bu.ow ((((((((w.setCell ⟨g,o+k * 8,Ac⟩ (J Ab r.id)).setCell ⟨g,o+k * 8+1,Ac⟩ (J Ab r.plan.prio)).setCell ⟨g,o+k * 8+2,Ac⟩ (J Ab r.plan.most)).setCell ⟨g,o+k * 8+3,Ac⟩ (J Ab r.plan.wait)).setCell ⟨g,o+k * 8+4,Ac⟩ (J Ab r.plan.tasks)).setCell ⟨g,o+k * 8+5,Ac⟩ (Aa sr.1.a sr.1.n sr.1.c)).setCell ⟨g,o+k * 8+6,Ac⟩ (J Ab r.state)).setCell ⟨g,o+k * 8+7,Ac⟩ (Aa sr.2.a sr.2.n sr.2.c)) F' ⟨y.now,y.seq,y.shelf,y.runs.set k r⟩ (R,⟨Ad ⟨g,o,Ac⟩,n,c⟩)/\(∀ x∈F',x∈F\/x∈Fy)/\g∈F:=by
 obtain ⟨F1,F2,rfl,bI,os,orr⟩:=h;replace os:OwL (Dt.list Ch) w F1 R.v y.shelf:=os;replace orr:OwL Cn w F2 (Aa (Ad ⟨g,o,Ac⟩) n c) y.runs:=orr;obtain ⟨F',p1,p2,p3,p4⟩:=OwL.swap orr hk (y:=r) (s:=sr) (Fy:=Fy) hr (fun x hx bF=>hd x hx (Be _ bF));have hC:=Fn (Cn.enc.cells (r,sr)) w g (o+k * Cn.enc.sz);have fD:Is w g (o+k * Cn.enc.sz) (Cn.enc.cells (r,sr))=((((((((w.setCell ⟨g,o+k * 8,Ac⟩ (J Ab r.id)).setCell ⟨g,o+k * 8+1,Ac⟩ (J Ab r.plan.prio)).setCell ⟨g,o+k * 8+2,Ac⟩ (J Ab r.plan.most)).setCell ⟨g,o+k * 8+3,Ac⟩ (J Ab r.plan.wait)).setCell ⟨g,o+k * 8+4,Ac⟩ (J Ab r.plan.tasks)).setCell ⟨g,o+k * 8+5,Ac⟩ (Aa sr.1.a sr.1.n sr.1.c)).setCell ⟨g,o+k * 8+6,Ac⟩ (J Ab r.state)).setCell ⟨g,o+k * 8+7,Ac⟩ (Aa sr.2.a sr.2.n sr.2.c)):=rfl;rw [fD] at p1 hC;have dX:=(Ay.1 bI).2.2;refine ⟨F1 ++ F',⟨F1,F',rfl,?_,?_,p1⟩,fun x hx=>?_,Be _ p3⟩
 ·rw [Ay];refine ⟨(Ay.1 bI).1,p1.nodup,fun a ha b hb e=>?_⟩;subst e;rcases p2 a hb with h1 | h1
  ·exact dX a ha a h1 rfl
  ·exact hd a h1 (Bf _ ha)
 ·exact os.chg hC (fun x hx hg=>by simp only [Aw] at hg;subst hg;exact dX x hx x p3 rfl)
 ·rcases Bi.1 hx with h1 | h1
  ·exact .inl (Bf _ h1)
  ·rcases p2 x h1 with h2 | h2
   ·exact .inl (Be _ h2)
   ·exact .inr h2
theorem H7 {α:Type} {p:α->Bool} {l:List α} {k:Nat} (hk:k<l.length) (h:p l[k]=true):(l.take (k+1)).filter p=(l.take k).filter p ++ [l[k]]:=by
 rw [Cy l k hk,List.filter_append];simp [h]
theorem Iq {α:Type} {p:α->Bool} {l:List α} {k:Nat} (hk:k<l.length) (h:p l[k]=false):(l.take (k+1)).filter p=(l.take k).filter p:=by
 rw [Cy l k hk,List.filter_append];simp [h]
theorem Agp {b:Nat} {w:World} {u0 u1 u2 u3:Value} (X:DBox b [u0,u1,u2,u3] w) {v0 v1 v2 v3:Value} {rest:List Value} :
  (results Tryz.f241 (v0 :: v1 :: v2 :: v3 :: .pointer (Ad ⟨b,0,Ac⟩) :: rest).toArray).run An w = .ok (.agg #[u0,u1,u2,u3]) w:=by
 have c0:=X.cell 0 _ rfl;have c1:=X.cell 1 _ rfl;have c2:=X.cell 2 _ rfl;have c3:=X.cell 3 _ rfl;simp [results,results241,go_sem,c0,c1,c2,c3]
theorem Qv (y:Yard) (s:Sl×Sl) (i:Nat) (w:World) (hi:i<y.shelf.length) (hl:Cf y<=2000000) (h:Bu.rd w w y s) :
  Calls An 241 #[Dh y s,J Ab i] w (Fa Bu Dh (Cg y i) w):=by
 have HR:=Bq (show ∀ W,Below w w W->Bu.rd W W y s from fun W hW=>Bu.rd_more (Bu.rd_below h hW) hW.size);obtain ⟨⟨A1,n1,c1⟩,⟨A2,n2,c2⟩⟩:=s;obtain rfl:n1=y.shelf.length:=RdL.at1 (s:=⟨A1,n1,c1⟩) h.1;have CC:=Bq (fun W hW=>Fh y (⟨A1,y.shelf.length,c1⟩,⟨A2,n2,c2⟩) W hl (HR.out W hW));have CF:=Bq (fun W hW e=>M4 y (⟨A1,y.shelf.length,c1⟩,⟨A2,n2,c2⟩) e W hl (HR.out W hW));have hS:=Bq (show ∀ W,Below w w W->RdL (Dt.list Ch) W W (Aa A1 y.shelf.length c1) y.shelf from fun W hW=>(HR.out W hW).1);have nR:y.shelf[i].length<=2000000:=by
  have h1:=Gw (cnt:=Dp) (Ax hi);have h2:y.shelf[i].length<=Dp y.shelf[i]:=Cv _ _;unfold Cf at hl;omega
 have hshl:y.shelf.length<=2000000:=Ai (Cv Dp _) (by unfold Cf at hl;omega);obtain ⟨i0,aQ,aW,aU,aR⟩:=info_parts Gi;clear h hl HR;have hiI:(i:Int)<(y.shelf.length:Int):=Bl;have hi00:(0:Int)<=(i:Int):=Bl;obtain ⟨W,aG,X,RES,B0⟩:=bx2 w 31 [J Ab y.now,J Ab y.seq,Aa A1 y.shelf.length c1,Aa A2 n2 c2] 31 [J Ab 0,J Ab 0,Aa Ac 0 0,Aa Ac 0 0];go_enter func241,ntmps241;go_wp2_with fail
 rw [<-aG.out];clear aG;refine (CC.out _ B0).mono ?_;rintro e1 w1 ⟨⟨⟨B1,m1,e1⟩,⟨B2,m2,e2⟩⟩,F,rfl,oy,nF,b1⟩;have jY:=X.lt;have dL:=RES.lt;replace X:=X.below b1;replace RES:=RES.below b1;replace B0:=Bv B0 b1;have bM:=Bu.ow_lt (F:=F) (x:=y) (s:=(⟨B1,m1,e1⟩,⟨B2,m2,e2⟩)) oy;have bG:=b1.size;clear b1;go_upto_region 2 with fail
 have OB:=DBox.new 31 [J Ab y.now,J Ab y.seq,Aa B1 m1 e1,Aa B2 m2 e2] w1 (b:=w1) rfl;have b2:Below w1 w1 (w1.alloc (.cells #[J Ab y.now,J Ab y.seq,Aa B1 m1 e1,Aa B2 m2 e2] 31)):=Bt;replace B0:=Bv B0 b2;replace X:=X.below b2;replace RES:=RES.below b2;replace oy:=Bu.ow_below (F:=F) (x:=y) (s:=(⟨B1,m1,e1⟩,⟨B2,m2,e2⟩)) oy b2;have cN:=b2.size;have ow1:=OB.lt;generalize w1.alloc (.cells #[J Ab y.now,J Ab y.seq,Aa B1 m1 e1,Aa B2 m2 e2] 31)=w2 at *
 have X_:=X.g4;have wr1:Ab.wrap ((y.shelf.length:Int) - 1)=(y.shelf.length:Int) - 1:=Ar _ Bl;have q:inB (i:Int) 0 ((y.shelf.length:Int) - 1)=true:=Ct.2 Bl;clear b2 CC;have q0:Below w2 w2 (w2.alloc (.cells #[] 71)):=Bt;go_wp2_with (go_at_call 90;refine (Cl _ _ _ _).mono ?_;rintro e w9 ⟨rfl,rfl⟩;rw [q])
 clear X_;have jH:=B0.size;have o0:=Ow.empty Cw 71 w2 rfl;go_loopw [6,7] (fun v j wr=>∃ k:Nat,k<=y.shelf[i].length/\j = J Ab k/\Hid (Ow Cw 71 wr w2 v ((y.shelf[i].take k).filter fun e=>Di y e))/\Below w2 w2 wr) (fun _ j _=>y.shelf[i].length - (intOf j).toNat);case atStart=>exact ⟨0,Ah _,rfl,o0,q0⟩
 case round =>
  clear o0 q0;obtain ⟨k,hk,rfl,hO,hb⟩:=hrel;replace X:=X.below hb;have hB:=Bv B0 hb;have cJ:=hb.size;obtain ⟨g,o,⟨a9,n9,c9⟩,rfl,gX,hr9,ck⟩:=(hS.out w2 B0).entryS hi;replace hr9:RdL Ch w2 w2 (Aa a9 n9 c9) y.shelf[i]:=hr9;obtain rfl:n9=y.shelf[i].length:=RdL.at1 (s:=⟨a9,n9,c9⟩) hr9;replace ck:=(hb.cell (p:=⟨g,_,Ac⟩) gX).trans ck;have fZ:g<wr:=Bl;have X_:=X.g4;by_cases aB:k<y.shelf[i].length
  ·have aC:(k:Int)<(y.shelf[i].length:Int):=Bl;have dF:(0:Int)<=(k:Int):=Bl;obtain ⟨g2,o2,_,rfl,kI,_,d0,d1,d2,d3⟩:=hr9.entry aB;replace d0:=(hb.cell (p:=⟨g2,_,Ac⟩) kI).trans d0;replace d1:=(hb.cell (p:=⟨g2,_,Ac⟩) kI).trans d1;replace d2:=(hb.cell (p:=⟨g2,_,Ac⟩) kI).trans d2;replace d3:=(hb.cell (p:=⟨g2,_,Ac⟩) kI).trans d3;have kZ:g2<wr:=Bl;have aN:=Df wr;have Hl:=Bq (show ((y.shelf[i].take k).filter fun e=>Di y e).length<=3000000 by have h1:=List.length_filter_le (fun e=>Di y e) (y.shelf[i].take k);rw [A0] at h1;omega);cases qf:Di y y.shelf[i][k]
   ·have S:=Bq (Iq (p:=fun e=>Di y e) aB qf);have qF:=Bq qf;clear qf;go_wp2;refine Bz Bm Bm ?_;repeat (go_big_quiet_step ((go_at_call 82;rename_i x;have h1:=CF.out x.1 (Bv hB x.2) y.shelf[i][k];rw [qF.out] at h1;exact Fk h1)))
    refine Al ?_;rintro w3 ⟨⟨_,b3⟩,rfl⟩;clear aN;go_wp2;exact ⟨⟨k+1,Bl,by go_num,by rw [S.out];exact hO.out.below b3,Bv hb b3⟩,clM⟩
   ·have S:=Bq (H7 (p:=fun e=>Di y e) aB qf);have qF:=Bq qf;clear qf;go_wp2;refine Bz Bm Bm ?_;repeat (go_big_quiet_step ((go_at_call 82;rename_i x;have h1:=CF.out x.1 (Bv hB x.2) y.shelf[i][k];rw [qF.out] at h1;exact Fk h1)))
    refine Al ?_;rintro w3 ⟨⟨_,b3⟩,rfl⟩;clear aN;have bU:=Bv hb b3;have eD:=hO.out.below b3;clear X_;replace X:=X.below b3;have X_:=X.g4;replace ck:=(b3.cell (p:=⟨g,_,Ac⟩) fZ).trans ck;replace d0:=(b3.cell (p:=⟨g2,_,Ac⟩) kZ).trans d0;replace d1:=(b3.cell (p:=⟨g2,_,Ac⟩) kZ).trans d1;replace d2:=(b3.cell (p:=⟨g2,_,Ac⟩) kZ).trans d2;replace d3:=(b3.cell (p:=⟨g2,_,Ac⟩) kZ).trans d3;have fS:=b3.size;have hgw3:g<w3:=Bl;have hg2w3:g2<w3:=Bl;generalize y.shelf[i][k]=e9 at *
    have ha:Hid (∀ w:World,Below w w (w.alloc (.cells #[J Ab e9.prio,J Ab e9.seq,J Ab e9.run,J Ab e9.task] 71))):=fun w=>Bt;go_wp2_with (at_builtin;go_loud (refine Cj _ Cw Bp rfl (.tmp 39) (.tmp 48) rfl underlying74 aQ aW aU aR rfl (base:=w2) (l:=(y.shelf[i].take k).filter fun e=>Di y e) rfl (eD.below (ha.out w3)) rfl (Rd.one Cw _ _ e9 rfl rfl 1 (Bs _) (Nat.lt_succ_self _)) Hl.out Bn Bp (by simp;omega) ?_);intro v5 w5 o5 g5 _)
    have dM:Below w2 w2 w5:=(Bv bU (ha.out w3)).grown g5 (Bv bU (ha.out w3)).size (fun g hg=>by have:=eD.within _ hg;omega);exact ⟨⟨k+1,Bl,by go_num,by rw [S.out];exact o5,dM⟩,clM⟩
  ·have aC:¬ (k:Int)<(y.shelf[i].length:Int):=Bl;have cE:=hO.out;rw [Bg Bl] at cE;obtain ⟨⟨a8,n8,c8⟩,F9,rfl,o9,nF9⟩:=Ib cE;have oy3:=Bu.ow_below (F:=F) (x:=y) (s:=(⟨B1,m1,e1⟩,⟨B2,m2,e2⟩)) oy hb;replace OB:=OB.below hb;replace RES:=RES.below hb;have H:Hid (Cg y i=⟨y.now,y.seq,y.shelf.set i (y.shelf[i].filter fun e=>Di y e),y.runs⟩):=by
    show Cg y i=_;unfold Cg;rw [Gf hi]
   generalize (y.shelf[i].filter fun e=>Di y e)=L at *
   clear hO cE;obtain ⟨g1,o1,s1,rfl,hg1,_,_⟩:=(RdL.entryS (show RdL (Dt.list Ch) wr wr.heap.size (Aa B1 m1 e1) y.shelf from (Bu.ow_rd oy3).1) hi)
   obtain rfl:m1=y.shelf.length:=RdL.at1 (s:=⟨Ad ⟨g1,o1,Ac⟩,m1,e1⟩) (Bu.ow_rd oy3).1;obtain ⟨F',p1,p2,p3⟩:=G7 oy3 hi (l:=L) (t:=⟨a8,n8,c8⟩) o9 (fun x hx bF=>by have h1:=nF9 x hx;have h2:=bM x bF;omega);obtain ⟨F1,F2,fY,_,os,_⟩:=oy3;have pL:=OwL.free0 (show OwL (Dt.list Ch) wr F1 (Aa (Ad ⟨g1,o1,Ac⟩) y.shelf.length e1) y.shelf from os) Bl;have hg1F:=bM g1 p3;have hg1n:=nF g1 p3;have OB_:=OB.g4;have RES_:=RES.g4;have rf:=RES.free;obtain ⟨_,_,_,cG,_,_,ckk⟩:=(RdL.entryS (show RdL (Dt.list Ch) wr wr.heap.size (Aa (Ad ⟨g1,o1,Ac⟩) y.shelf.length e1) y.shelf from os.rd) hi)
   simp only [Option.some.injEq,Addr.mk.injEq,and_true] at cG;obtain ⟨rfl,rfl⟩:=cG;have B8:Below w w (wr.setCell ⟨g1,o1+i,Ac⟩ (Aa a8 n8 c8)):=by
    repeat (first | (with_reducible exact hB) | refine Ae ?_ Bo _)
   go_upto_region 11 with fail
   clear X_;clear OB_;clear RES_;clear X ck;replace OB:=OB.setOther (a:=⟨g1,o1+i,Ac⟩) (by show w1.heap.size≠g1;omega) (Aa a8 n8 c8);replace RES:=RES.setOther (a:=⟨g1,o1+i,Ac⟩) (by show w.heap.size+1≠g1;omega) (Aa a8 n8 c8);generalize wr.setCell ⟨g1,o1+i,Ac⟩ (Aa a8 n8 c8)=w8 at *
   have OB_:=OB.g4;have RES_:=RES.g4;have rf:=RES.free;go_wp2;have en1:w.heap.size+1∉F':=fun hx=>by
    rcases p2 _ hx with h | h
    ·have:=nF _ h;omega
    ·have:=nF9 _ h;omega
   refine Ak (Agp (DBox.row4 RES rfl _ _ _ _)) rfl ⟨(⟨Ad ⟨g1,o1,Ac⟩,y.shelf.length,e1⟩,⟨B2,m2,e2⟩),F',by rw [H.out],by rw [H.out];exact (by (repeat (refine Dt.ow_set Bu ?_ en1 _));exact p1),fun x hx=>?_,?_⟩
   ·rcases p2 x hx with h | h
    ·have:=nF x h;omega
    ·have:=nF9 x h;omega
   ·repeat (first | (with_reducible exact B8) | refine Ae ?_ Bo _)
def I1 (gr o n c:Nat) (rs:List (Run×Cn.S)) (k:Nat) (G1 Fx G2:List Nat) (r:Run) (s:Sl×Sl) (w:World) (e:Ending) (w':World):Prop :=
 e = .returned (.tuple #[])/\Foc Cn w' gr o n c rs k G1 Fx G2 r s/\Chg (gr :: Fx) w w'
theorem Foc.atRun {w:World} {gr o n c k:Nat} {rs:List (Run×Cn.S)} {G1 Fx G2:List Nat} {r:Run} {s:Sl×Sl} (h:Foc Cn w gr o n c rs k G1 Fx G2 r s) (hp:0<r.tasks.length) :
  ∃ F1 b o2 c2,Fx=F1 ++ [b]/\Fx.Nodup/\s.2=⟨Ad ⟨b,o2,Ac⟩,r.tasks.length,c2⟩/\Ck.ow w F1 r.plan s.1/\Hw Fz w [b] (Aa (Ad ⟨b,o2,Ac⟩) r.tasks.length c2) r.tasks/\gr≠b/\b∉F1:=by
 obtain ⟨F1,F2,pQ,bI,op,ot⟩:=h.here;obtain ⟨s1,⟨A,m,c2⟩⟩:=s;have ot:OwL Eu w F2 (Aa A m c2) r.tasks:=ot;obtain rfl:m=r.tasks.length:=RdL.at1 (s:=⟨A,m,c2⟩) ot.rd;have oh:=N2 ot;obtain ⟨b,o2,rfl,_⟩:=oh.rd.tsk hp;obtain ⟨rfl,_,_⟩:=oh.block hp;refine ⟨F1,b,o2,c2,pQ,bI,rfl,op,oh,fun e=>h.apart.1.2.1 (by rw [pQ,e];simp),fun hx=>?_⟩;rw [pQ] at bI;exact (Ay.1 bI).2.2 b hx b Bn rfl
theorem Chg.blk {g:Nat} {F:List Nat} {w w':World} (h:Chg [g] w w') (hg:g∈F):Chg F w w':=h.mono (fun x hx=>by rw [Aw.1 hx];exact hg)
theorem Na (gr o n c:Nat) (rs:List (Run×Cn.S)) (k:Nat) (G1 Fx G2:List Nat) (r:Run) (s:Sl×Sl) (u:Nat) (w:World) (hl:r.tasks.length<=1000) (hR:Iu r u) (hF:Foc Cn w gr o n c rs k G1 Fx G2 r s) :
  Calls An 214 #[.pointer (Ad ⟨gr,o+k * 8,Ac⟩),J Ab u] w (I1 gr o n c rs k G1 Fx G2 (Dm r u) s w):=by
 have hu:u<r.tasks.length:=by have:=hR.2.1.2;omega
 obtain ⟨l5,l6,l4,ls⟩:=Mo hR;obtain ⟨F1,b,o2,c2,rfl,bI,cN,op,oh,rB,bT⟩:=hF.atRun Bl;obtain ⟨s1,s2⟩:=s;obtain rfl:s2=_:=cN;have sU:=hF.blk;have kG:=(oh.block Bl).2.1;have pJ:=(oh.block Bl).2.2;have g2:w.cell? ⟨gr,o+k * 8+2,Ac⟩=Ad (J Ab r.plan.most):=hF.cells 2 _ rfl;have g6:w.cell? ⟨gr,o+k * 8+6,Ac⟩=Ad (J Ab r.state):=hF.cells 6 _ rfl;have g7:w.cell? ⟨gr,o+k * 8+7,Ac⟩=Ad (Aa (Ad ⟨b,o2,Ac⟩) r.tasks.length c2):=hF.cells 7 _ rfl;have gf:=hF.free;obtain ⟨_,_,hA,_,d0,d1,d2,d3⟩:=oh.rd.tsk hu;simp only [Option.some.injEq,Addr.mk.injEq,and_true] at hA;obtain ⟨rfl,rfl⟩:=hA;have jX:(u:Int)<(r.tasks.length:Int):=Bl;have gK:(0:Int)<=(u:Int):=Bl;have cU:=Bq (Co hu);have fS:=Bq (show r.tasks[u].state=3 by have:=hR.2.2;rw [Ap,Co hu] at this;exact this);have h1:=oh.taskUntil hu 0;have eC:=Chg.setCell w b (o2+u * 4+3) (J Ab 0);have op1:=Ck.ow_chg op eC (fun x hx h=>by rw [Aw.1 h] at hx;exact bT hx);have F1_:Foc Cn (w.setCell ⟨b,o2+u * 4+3,Ac⟩ (J Ab 0)) gr o n c rs k G1 (F1 ++ [b]) G2 ⟨r.id,r.plan,r.state,r.tasks.set u ⟨r.tasks[u].state,r.tasks[u].need,r.tasks[u].try_,0⟩⟩ (s1,⟨Ad ⟨b,o2,Ac⟩,r.tasks.length,c2⟩) :=
  hF.sub (eC.blk Bn) ⟨F1,[b],rfl,bI,op1,Hf h1⟩ rfl
 have hC1':Chg (gr :: (F1 ++ [b])) w (w.setCell ⟨b,o2+u * 4+3,Ac⟩ (J Ab 0)):=eC.blk Bn;have aU:=eC.size;go_enter func214,ntmps214;go_upto_region 2 with fail
 generalize w.setCell ⟨b,o2+u * 4+3,Ac⟩ (J Ab 0)=w1 at *
 clear d0 d1 d2 d3 g2 g6 g7 gf hF op oh pJ eC;have nK:=F1_.blk;have hbl1:=(h1.block (by rw [Bh];omega)).2.1;have g2:w1.cell? ⟨gr,o+k * 8+2,Ac⟩=Ad (J Ab r.plan.most):=F1_.cells 2 _ rfl;have uJ:u<(r.tasks.set u ⟨r.tasks[u].state,r.tasks[u].need,r.tasks[u].try_,0⟩).length:=by rw [Bh];exact hu
 obtain ⟨_,_,hA,_,d0,d1,d2,d3⟩:=h1.rd.tsk uJ;simp only [Option.some.injEq,Addr.mk.injEq,and_true] at hA;obtain ⟨rfl,rfl⟩:=hA;rw [List.getElem_set_self] at d0 d1 d2 d3;have aN:=Df w1;refine Bz Bm Bm ?_;repeat (go_big_quiet_step (fail))
 refine Al ?_;rintro w2 ⟨⟨_,b2⟩,rfl⟩;clear aN d0 d1 d2 d3 g2;have jD:=hC1'.trans (Chg.of_below (gr :: (F1 ++ [b])) b2);have h2:=h1.below b2;have op2:=Ck.ow_below op1 b2;have F2_:=F1_.sub (w':=w2) (y:=⟨r.id,r.plan,r.state,r.tasks.set u ⟨r.tasks[u].state,r.tasks[u].need,r.tasks[u].try_,0⟩⟩) (Chg.of_below _ b2) ⟨F1,[b],rfl,bI,op2,Hf h2⟩ rfl;have aR:=b2.size;clear h1 op1 F1_ hC1' b2;have gS:=F2_.blk;have hbl2:=(h2.block (by rw [Bh];omega)).2;have g6:w2.cell? ⟨gr,o+k * 8+6,Ac⟩=Ad (J Ab r.state):=F2_.cells 6 _ rfl;have g7:w2.cell? ⟨gr,o+k * 8+7,Ac⟩=Ad (Aa (Ad ⟨b,o2,Ac⟩) r.tasks.length c2):=F2_.cells 7 _ rfl;have gf:=F2_.free;obtain ⟨_,_,hA,_,d0,d1,d2,d3⟩:=h2.rd.tsk uJ;simp only [Option.some.injEq,Addr.mk.injEq,and_true] at hA;obtain ⟨rfl,rfl⟩:=hA;rw [List.getElem_set_self] at d0 d1 d2 d3;by_cases q:r.tasks[u].try_<r.plan.most
 ·have H:=Bq (show Dm r u=⟨r.id,r.plan,r.state,r.tasks.set u ⟨2,r.tasks[u].need,r.tasks[u].try_,0⟩⟩ by unfold Dm;rw [if_pos (by rw [cU.out];exact q),Ig hu]);have h3:=h2.taskSt' hu 2;have dU:=Chg.setCell w2 b (o2+u * 4) (J Ab 2);have op3:=Ck.ow_chg op2 dU (fun x hx h=>by rw [Aw.1 h] at hx;exact bT hx);have HF:=Bq (show I1 gr o n c rs k G1 (F1 ++ [b]) G2 (Dm r u) (s1,⟨Ad ⟨b,o2,Ac⟩,r.tasks.length,c2⟩) w (.returned (.tuple #[])) (w2.setCell ⟨b,o2+u * 4,Ac⟩ (J Ab 2)) from
   ⟨rfl,by rw [H.out];exact F2_.sub (dU.blk Bn) ⟨F1,[b],rfl,bI,op3,Hf h3⟩ rfl,jD.trans (dU.blk Bn)⟩)
  go_wp2;exact Ak (v:=.tuple #[]) (by simp [results,results214,go_sem]) rfl HF.out
 ·have H:=Bq (show Dm r u=C8 ⟨r.id,r.plan,r.state,r.tasks.set u ⟨5,r.tasks[u].need,r.tasks[u].try_,0⟩⟩ 3 by unfold Dm;rw [if_neg (by rw [cU.out];exact q),Ig hu]);have h3:=h2.taskSt' hu 5;have dU:=Chg.setCell w2 b (o2+u * 4) (J Ab 5);have op3:=Ck.ow_chg op2 dU (fun x hx h=>by rw [Aw.1 h] at hx;exact bT hx);have F3_:=F2_.sub (w':=w2.setCell ⟨b,o2+u * 4,Ac⟩ (J Ab 5)) (y:=⟨r.id,r.plan,r.state,r.tasks.set u ⟨5,r.tasks[u].need,r.tasks[u].try_,0⟩⟩) (dU.blk Bn) ⟨F1,[b],rfl,bI,op3,Hf h3⟩ rfl;have hC3':=jD.trans (dU.blk (F:=gr :: (F1 ++ [b])) Bn);have g73:=(dU.cell (p:=⟨gr,o+k * 8+7,Ac⟩) gS (by simpa using rB)).trans g7;go_upto_region 5 with fail
  generalize w2.setCell ⟨b,o2+u * 4,Ac⟩ (J Ab 5)=w3 at *
  clear d0 d1 d2 d3 g6 g7 gf hbl2 h2 op2 F2_ dU;have hgr3:=F3_.blk;have hL5:(r.tasks.set u ⟨5,r.tasks[u].need,r.tasks[u].try_,0⟩).length=r.tasks.length:=Bh;have CL:=Bq (Qu gr (o+k * 8) b o2 c2 (r.tasks.set u ⟨5,r.tasks[u].need,r.tasks[u].try_,0⟩) u w3 (by rw [hL5];exact g73) hgr3 rB Bl Bl (by rw [hL5];exact h3) (fun j hj=>by
   rw [List.getElem_set];by_cases e:u=j
   ·simp [e]
   ·rw [if_neg e];constructor
    ·intro h
     have:=J0 (s:=5) (by rw [hL5] at hj;exact hj) h
     omega
    ·intro h;omega))
  rw [hL5] at CL;go_wp2_with fail
  refine CL.out.mono ?_;rintro e w4 ⟨rfl,h4,eK⟩;have op4:=Ck.ow_chg op3 eK (fun x hx h=>by rw [Aw.1 h] at hx;exact bT hx);have F4_:=F3_.sub (w':=w4) (y:=⟨r.id,r.plan,r.state,(r.tasks.set u ⟨5,r.tasks[u].need,r.tasks[u].try_,0⟩).map Dj⟩) (eK.blk Bn) ⟨F1,[b],rfl,bI,op4,Hf h4⟩ rfl;have hC4':=hC3'.trans (eK.blk (F:=gr :: (F1 ++ [b])) Bn);have g6:w4.cell? ⟨gr,o+k * 8+6,Ac⟩=Ad (J Ab r.state):=F4_.cells 6 _ rfl;have gf:=F4_.free;have hgr4:=F4_.blk;obtain ⟨F5_,cX⟩:=F4_.put (y:=C8 ⟨r.id,r.plan,r.state,r.tasks.set u ⟨5,r.tasks[u].need,r.tasks[u].try_,0⟩⟩ 3) 6 [J Ab 3] (show 6+1<=8 by omega) (fun i hi=>by simp at hi;subst hi;rfl) (fun i hi ho=>by
   have:i<8:=hi;rcases (show i=0\/i=1\/i=2\/i=3\/i=4\/i=5\/i=7 by simp at ho;omega) with rfl | rfl | rfl | rfl | rfl | rfl | rfl<;>rfl) (fun W h=>h)
  have HF:=Bq (show I1 gr o n c rs k G1 (F1 ++ [b]) G2 (Dm r u) (s1,⟨Ad ⟨b,o2,Ac⟩,r.tasks.length,c2⟩) w (.returned (.tuple #[])) (w4.setCell ⟨gr,o+k * 8+6,Ac⟩ (J Ab 3)) from
   ⟨rfl,by rw [H.out];exact F5_,hC4'.trans (cX.blk Bn)⟩)
  clear F5_ cX F4_ eK h4;go_wp2;exact Ak (v:=.tuple #[]) (by simp [results,results214,go_sem]) rfl HF.out
theorem Qb:(An.info? 3).map (fun i=>(i.zero,i.size,i.bytes))=Ad (Ad (J Ab 0),1,8):=Bm
def E6 (n lo hi:Int):Int:=if n<lo then lo else if n > hi then hi else n
theorem Lp (n lo hi:Int) (w:World) (h:lo<=hi):Calls An 231 #[J Ab n,J Ab lo,J Ab hi] w fun e w'=>e = .returned (J Ab (E6 n lo hi))/\w=w':=by
 by_cases h1:n<lo
 ·have H:=Bq (show E6 n lo hi=lo from if_pos h1);go_enter func231,ntmps231;go_wp2;go_ret;exact ⟨D6 H.out.symm,rfl⟩
 ·by_cases h2:n > hi
  ·have H:=Bq (show E6 n lo hi=hi by unfold E6;rw [if_neg h1,if_pos h2]);have h2':hi<n:=h2;go_enter func231,ntmps231;go_wp2;go_ret;exact ⟨D6 H.out.symm,rfl⟩
  ·have H:=Bq (show E6 n lo hi=n by unfold E6;rw [if_neg h1,if_neg h2]);have h2':¬ hi<n:=h2;go_enter func231,ntmps231;go_wp2;go_ret;exact ⟨D6 H.out.symm,rfl⟩
def Ks (home:Nat):List Nat:=(List.range 3).map fun i=>(home+(i+1)) % 4
theorem Aa9 {home k:Nat} (h:k<3):(Ks home).take (k+1)=(Ks home).take k ++ [(home+(k+1)) % 4]:=by
 rcases (show k=0\/k=1\/k=2 by omega) with rfl | rfl | rfl<;>rfl
theorem Aer {home d:Nat} : Em home d=(Ks home).drop (d % 3) ++ (Ks home).take (d % 3):=by
 have h1:(max (d:Int) 0 % 3).toNat=d % 3:=Bl;unfold Em;rw [h1,Ap];have h2:=Nat.mod_lt d (show 0<3 by decide);generalize d % 3=k at *
 rcases (show k=0\/k=1\/k=2 by omega) with rfl | rfl | rfl<;>rfl
theorem Vd (home d:Nat) (w:World) (hh:home<4) (hd:d<=1000000000) :
  Calls An 242 #[J Ab (home:Int),J Ab (d:Int)] w fun e w'=>∃ v,e = .returned v/\Ow En 3 w' w v (Em home d)/\Below w w w':=by
 obtain ⟨j0,bZ,jz0,jz1,jz2⟩:=info_parts Qb;have CB:=Bq (fun W=>Lp (home:Int) 0 3 W Bp);have hI:¬ (d:Int)<0:=Bl;have hbr:E6 (home:Int) 0 3=(home:Int):=by unfold E6;split<;>(try split)<;>omega
 rw [hbr] at CB;have q0:Below w w (w.alloc (.cells #[] 3)):=Bt;go_enter func242,ntmps242;go_wp2_with (go_at_call 231;refine (CB.out _).mono ?_;rintro e w1 ⟨rfl,rfl⟩)
 have o0:=Ow.empty En 3 w rfl;go_loopw [5,6] (fun v j wr=>∃ k:Nat,k<=3/\j = J Ab ((k:Int)+1)/\Hid (Ow En 3 wr w v ((Ks home).take k))/\Below w w wr) (fun _ j _=>4 - (intOf j).toNat);case atStart=>exact ⟨0,Ah _,rfl,o0,q0⟩
 case round =>
  clear o0 q0;obtain ⟨k,hk,rfl,hO,hb⟩:=hrel;by_cases aB:k<3
  ·have aC:(k:Int)+1<4:=Bl;have S:=Bq (Aa9 (home:=home) aB);have wA:Ab.wrap ((home:Int)+((k:Int)+1))=(home:Int)+((k:Int)+1):=Ar _ Bl;have rA:((home:Int)+((k:Int)+1)).tmod 4=(((home+(k+1)) % 4:Nat):Int):=by
    rw [Int.tmod_eq_emod_of_nonneg Bl];omega
   have wB:Ab.wrap (((home+(k+1)) % 4:Nat):Int)=(((home+(k+1)) % 4:Nat):Int):=Ar _ Bl;have Hl:=Bq (show ((Ks home).take k).length<=3000000 by rw [A0];omega);generalize (home+(k+1)) % 4=x at *
   have ha:Hid (∀ w:World,Below w w (w.alloc (.cells #[J Ab (x:Int)] 3))):=fun w=>Bt;have cE:=hO.out;have cJ:=hb.size;go_wp2_with (at_builtin;refine Cj _ En Bp rfl (.tmp 17) (.tmp 22) rfl underlying26 bZ jz0 jz1 jz2 rfl (base:=w) (l:=(Ks home).take k) rfl (cE.below (ha.out wr)) rfl (Rd.one En _ _ x rfl rfl 1 (Bs _) (Nat.lt_succ_self _)) Hl.out Bn Bp (by simp;omega) ?_;intro v5 w5 o5 g5 _)
   have dM:Below w w w5:=(Bv hb (ha.out wr)).grown g5 (Bv hb (ha.out wr)).size (fun g hg=>by have:=cE.within _ hg;omega);exact ⟨⟨k+1,Bl,by go_num,by rw [S.out];exact o5,dM⟩,clM⟩
  ·have aC:¬ (k:Int)+1<4:=Bl;have hk3:k=3:=Bl;subst hk3;have cE:=hO.out;rw [show (Ks home).take 3=Ks home from rfl] at cE;clear hO;have HV:=Bq (Aer (home:=home) (d:=d));obtain ⟨-,h2⟩ | ⟨g,cap,rfl,h1,h2,h3,h4,h5,h6⟩:=cE.form
   ·cases h2
   have qQ:=Rd.of_own cE;replace h3:=qQ.cap;have h3':3<=cap:=h3;have hm3:=Nat.mod_lt d (show 0<3 by decide);have rA:(d:Int).tmod 3=((d % 3:Nat):Int):=by
    rw [Int.tmod_eq_emod_of_nonneg Bl];omega
   have wB:Ab.wrap ((d % 3:Nat):Int)=((d % 3:Nat):Int):=Ar _ Bl;have qS:(Ks home).length=3:=rfl;generalize d % 3=m at *
   generalize Ks home=L at *
   rw [qS] at qQ;have a0:=Bq (show ∀ W,Below wr wr W->Rd En W wr (Aa (Ad ⟨g,m,Ac⟩) (3 - m) (cap - m)) (L.drop m) from fun W hW=>by have:=(qQ.fromL m Bl).below hW;rw [qS,show 0+m * En.sz=m from by show 0+m * 1=m;omega] at this;exact this);have a1:=Bq (show ∀ W,Below wr wr W->Rd En W wr (Aa (Ad ⟨g,0,Ac⟩) m cap) (L.take m) from fun W hW=>(qQ.take Bl cap Bl).below hW);have mL:(m:Int)<=3:=Bl;have sV:(0:Int)<=(m:Int):=Bl;have hmc:m<cap:=Bl;have hmc2:¬ cap=m:=Bl;have hmc3:m<=cap:=Bl;have hmcI:(m:Int)<=(cap:Int):=Bl;have dB:=Bq (show (L.drop m).length<=3000000 by simp;omega);have aX:=Bq (show (L.take m).length<=3000000 by simp;omega);rw [qS];have cJ:=hb.size;go_wp2;refine Go.wp_region_noPanic ?_;refine wp_region_held_drew (S:=fun _=>True) Bm trivial (fun aA=>?_);have B1:Below wr wr wr.drew:=(Br _ _).drew;generalize wr.drew=w1 at *
   refine tY 1 ?_
   (try simp only [pS])
   refine tY 2 ?_
   (try simp only [pS])
   refine tY 3 ?_
   (try simp only [pS])
   refine tY 5 ?_
   (try simp only [pS])
   refine tY 6 ?_
   (try simp only [pS])
   refine tY 7 ?_
   (try simp only [pS])
   refine rC 0 (fun K_ hK=>?_);go_simp;have bb:Below w1 w1 (w1.alloc (.cells #[] 3)):=Bt;have o9:Ow En 3 (w1.alloc (.cells #[] 3)) w (Aa (Ad ⟨w1,0,Ac⟩) 0 0) []:=(Ow.empty En 3 w1 rfl).more (by have:=B1.size;omega);have Ba:=Bv B1 bb;have y9:=B1.size;generalize w1.heap.size=g9 at *
   generalize w1.alloc (.cells #[] 3)=w1a at *
   refine hK.out _ _ trivial (fun aA=>?_);clear hK K_
   (try simp only [pS])
   refine rC 4 (fun K_ hK=>?_);refine Fe _ En Bp (.tmp 28) (.tmp 31) 26 rfl w.heap.size 3 _ _ _ underlying26 bZ jz0 jz1 jz2 rfl _ [] rfl o9 _ _ _ _ (L.drop m) rfl (a0.out _ Ba) Bn dB.out Bp (by have:=Ba.size;omega) ?_;intro v13 w1b o13 gg e13;rw [List.nil_append] at o13;have Bb:Below wr wr w1b:=Ba.grown gg Ba.size (fun g hg=>by have:=Option.some.inj (show Ad g9=Ad g from hg);omega);clear gg;refine hK.out _ _ trivial (fun aA=>?_);clear hK K_
   (try simp only [pS])
   refine rC 8 (fun K_ hK=>?_);refine Fe _ En Bp (.tmp 32) (.tmp 35) 26 rfl w.heap.size 3 _ _ _ underlying26 bZ jz0 jz1 jz2 rfl _ (L.drop m) rfl o13 _ _ _ _ (L.take m) rfl (a1.out _ Bb) dB.out aX.out Bp (by have:=Bb.size;omega) ?_;intro v14 w1c o14 gg e14;have Bc:Below w w w1c:=(Bv hb Bb).grown gg (Bv hb Bb).size (fun g hg=>(o13.within g hg).1);clear gg;refine hK.out _ _ trivial (fun aA=>?_);clear hK K_
   (try simp only [pS])
   refine rC 9 (fun K_ hK=>?_);go_simp;refine hK.out _ _ trivial (fun aA=>?_);clear hK K_
   (try simp only [pS])
   refine Am Bm ?_ _;refine NoPanic.normal ?_;go_wp2;go_ret;exact ⟨_,rfl,by rw [HV.out];exact o14,Bc⟩
theorem Zy {l:List Task} {s:Int} : Cp l s=0 ↔ ∀ x∈l,x.state≠s:=by
 unfold Cp;rw [List.length_eq_zero_iff,List.filter_eq_nil_iff];constructor
 ·intro h x hx;simpa using h x hx
 ·intro h x hx;simpa using h x hx
theorem Aiw (s:Int) (hs:s≠2) (L:List Nat):∀ (l:List Task),(∀ x∈l,x.state≠s) -> ∀ x∈L.foldl (fun l b=>Hc l b Da) l,x.state≠s:=by
 induction L with
 | nil=>intro l h;exact h
 | cons b L ih =>
  intro l h;rw [List.foldl_cons];refine ih _ (fun x hx=>?_);unfold Hc at hx;rcases List.mem_or_eq_of_mem_set hx with h2 | h2
  ·exact h x h2
  ·subst h2;by_cases hb:b<l.length
   ·rw [List.getD_eq_getElem?_getD,List.getElem?_eq_getElem hb]
    have:=h _ (Ax hb)
    simp only [Option.getD_some,Da];split
    ·exact fun e=>hs e.symm
    ·exact this
   ·rw [List.set_eq_of_length_le Bl] at hx;exact h _ hx
theorem Ac9 {r:Run} {u:Nat} (h:Iu r u):stL (I5 r u)=if Cp (I5 r u) 4=r.tasks.length then 2 else r.state:=by
 obtain ⟨l5,l6,l4,ls⟩:=Mo h;have aK:(I5 r u).length=r.tasks.length:=by
  unfold I5;rw [Mc r u,Ic]
 have hu:u<r.tasks.length:=by have:=h.2.1.2;omega
 have h0:∀ s:Int,s≠4->s≠2->Cp r.tasks s=0->Cp (I5 r u) s=0:=fun s h4 h2 hc=>by
  rw [Zy] at hc ⊢;refine Aiw s h2 _ _ (fun x hx=>?_);rw [Ig hu] at hx;rcases List.mem_or_eq_of_mem_set hx with h | h
  ·exact hc x h
  ·subst h;exact fun e=>h4 e.symm
 have z5:=h0 5 Bp Bp l5;have z6:=h0 6 Bp Bp l6;unfold stL;rw [aK,ls];split
 ·rfl
 ·rw [if_neg Bl,if_neg Bl,if_pos ⟨z5,z6⟩]
theorem Y0 (f:Task->Task) (l:List Task) (L:List Nat) (k:Nat) (h:k<L.length):(L.take (k+1)).foldl (fun l b=>Hc l b f) l=Hc ((L.take k).foldl (fun l b=>Hc l b f) l) L[k] f:=by
 rw [List.take_succ_eq_append_getElem h,List.foldl_append];rfl
theorem Aba (gr o n c:Nat) (rs:List (Run×Cn.S)) (k:Nat) (G1 Fx G2:List Nat) (r:Run) (s:Sl×Sl) (u:Nat) (w:World) (hR:Iu r u) (hF:Foc Cn w gr o n c rs k G1 Fx G2 r s) :
  Calls An 212 #[.pointer (Ad ⟨gr,o+k * 8,Ac⟩),J Ab u] w (I1 gr o n c rs k G1 Fx G2 (Gs r u) s w):=by
 have hu:u<r.tasks.length:=by have:=hR.2.1.2;omega
 have fK:=D4 hR.1;have HST:=Bq (Ac9 hR);have hpf:=hR.1.2.1;obtain ⟨F1,b,o2,c2,rfl,bI,cN,op,oh,rB,bT⟩:=hF.atRun Bl;obtain ⟨s1,s2⟩:=s;obtain rfl:s2=_:=cN;have sU:=hF.blk;have kG:=(oh.block Bl).2.1;have pJ:=(oh.block Bl).2.2;have g7:w.cell? ⟨gr,o+k * 8+7,Ac⟩=Ad (Aa (Ad ⟨b,o2,Ac⟩) r.tasks.length c2):=hF.cells 7 _ rfl;obtain ⟨_,_,hA,_,d0,d1,d2,d3⟩:=oh.rd.tsk hu;simp only [Option.some.injEq,Addr.mk.injEq,and_true] at hA;obtain ⟨rfl,rfl⟩:=hA;have jX:(u:Int)<(r.tasks.length:Int):=Bl;have gK:(0:Int)<=(u:Int):=Bl;have h1:=oh.taskState hu 4;have h2:=h1.taskUntil (j:=u) (by rw [Bh];exact hu) 0;simp only [List.getElem_set_self,List.set_set] at h2;have eC:Chg [b] w ((w.setCell ⟨b,o2+u * 4,Ac⟩ (J Ab 4)).setCell ⟨b,o2+u * 4+3,Ac⟩ (J Ab 0)):=(Chg.setCell w b _ _).trans (Chg.setCell _ b _ _);have op1:=Ck.ow_chg op eC (fun x hx h=>by rw [Aw.1 h] at hx;exact bT hx);have F1_:=hF.sub (w':=(w.setCell ⟨b,o2+u * 4,Ac⟩ (J Ab 4)).setCell ⟨b,o2+u * 4+3,Ac⟩ (J Ab 0)) (y:=⟨r.id,r.plan,r.state,r.tasks.set u ⟨4,r.tasks[u].need,r.tasks[u].try_,0⟩⟩) (eC.blk Bn) ⟨F1,[b],rfl,bI,op1,Hf h2⟩ rfl;have hC1':Chg (gr :: (F1 ++ [b])) w ((w.setCell ⟨b,o2+u * 4,Ac⟩ (J Ab 4)).setCell ⟨b,o2+u * 4+3,Ac⟩ (J Ab 0)):=eC.blk Bn;have hM0:=Bq (show Hc r.tasks u (fun x=>⟨4,x.need,x.try_,0⟩)=r.tasks.set u ⟨4,r.tasks[u].need,r.tasks[u].try_,0⟩ from Ig hu _);go_enter func212,ntmps212;go_upto_region 2 with fail
 generalize (w.setCell ⟨b,o2+u * 4,Ac⟩ (J Ab 4)).setCell ⟨b,o2+u * 4+3,Ac⟩ (J Ab 0)=w1 at *
 have cW:∀ x∈r.tasks,0<=x.need/\x.need<=1000/\1<=x.state/\x.state<=6:=by
  intro x hx;obtain ⟨j,hj,rfl⟩:=List.getElem_of_mem hx;have h1:=hR.1.2.2.2.1 j hj;unfold Gz Ls at h1;rw [Co hj] at h1;have h2:=Pv r (Dv (Dr r.plan) r.plan.tasks.toNat j);have h3:=Jh (Dr r.plan) r.plan.tasks.toNat j;have h5:=hR.1.2.2.1;have h6:Ge r j<=12:=by unfold Ge;omega
  omega
 have hbnd:Hid (∀ x∈r.tasks.set u ⟨4,r.tasks[u].need,r.tasks[u].try_,0⟩,-0<=x.need/\x.need<=1000/\1<=x.state/\x.state<=6):=by
  intro x hx;rcases List.mem_or_eq_of_mem_set hx with h | h
  ·have:=cW x h;omega
  ·subst h
   have:=cW _ (Ax hu)
   refine ⟨?_,?_,?_,?_⟩<;>dsimp only<;>omega
 have mV:r.plan.tasks.toNat=r.tasks.length:=by have:=hR.1.2.2.1;omega
 have CB:=Bq (V9 r.plan (Aa s1.a s1.n s1.c) u w1 hpf (Ja (Ck.ow_rd op1)));rw [mV] at CB;have hBL:=Bq (N4 (Dr r.plan) r.tasks.length u);have gC:=Bq (Mu (Dr r.plan) r.tasks.length u);have hDT:=Bq (show I5 r u=(D9 (Dr r.plan) r.tasks.length u).foldl (fun l b=>Hc l b Da) (r.tasks.set u ⟨4,r.tasks[u].need,r.tasks[u].try_,0⟩) by unfold I5;rw [mV,hM0.out]);generalize tD:r.tasks.set u ⟨4,r.tasks[u].need,r.tasks[u].try_,0⟩=L0 at *
 have nM:=Bq (show L0.length=r.tasks.length by rw [<-tD,Bh]);generalize D9 (Dr r.plan) r.tasks.length u=BL at *
 clear tD cW hM0 d0 d1 d2 d3 g7 pJ hF op oh h1 eC mV hpf;obtain ⟨p0,p1,p2,p3,p4,p5,p6,p7⟩:=F1_.run;have nK:=F1_.blk;go_wp2_with fail
 refine CB.out.mono ?_;rintro e w2 ⟨v,rfl,o5,b2⟩;obtain ⟨Av,cv,rfl,-⟩:=_root_.id (Rd.of_own o5);have F2_:=F1_.sub (w':=w2) (y:=⟨r.id,r.plan,r.state,L0⟩) (Chg.of_below _ b2) ⟨F1,[b],rfl,bI,Ck.ow_below op1 b2,Hf (h2.below b2)⟩ rfl;have h3:=h2.below b2;have op2:=Ck.ow_below op1 b2;have jD:=hC1'.trans (Chg.of_below (gr :: (F1 ++ [b])) b2);have jK:=o5.within;have hbl1:=(h2.block (by have:=nM.out;omega)).2.1;have vB:=Bq (show ∀ W,Chg [b] w2 W->Rd En W W (Aa Av BL.length cv) BL from fun W hW=>Rd.of_own (o5.grown hW.toGrown (.inr (fun e=>by have:=(jK _ e).1;omega))));clear p0 p1 p2 p3 p4 p5 p6 p7 F1_ h2 op1 hC1' CB o5 jK nK;have gS:=F2_.blk;have p7:w2.cell? ⟨gr,o+k * 8+7,Ac⟩=Ad (Aa (Ad ⟨b,o2,Ac⟩) r.tasks.length c2):=F2_.cells 7 _ rfl;have aR:=b2.size;go_wp2;go_loopw [5,28] (fun x i wr=>∃ j:Nat,j<=BL.length/\i = J Ab j/\Hid (Hw Fz wr [b] (Aa (Ad ⟨b,o2,Ac⟩) r.tasks.length c2) ((BL.take j).foldl (fun l b=>Hc l b Da) L0))/\Chg [b] w2 wr) (fun _ i _=>BL.length - (intOf i).toNat);case atStart=>exact ⟨0,Ah _,rfl,h3,Chg.refl _ _⟩
 case round =>
  obtain ⟨j,hj,rfl,hO,hC⟩:=hrel;have hlenj:((BL.take j).foldl (fun l b=>Hc l b Da) L0).length=r.tasks.length:=by rw [Mc r u,nM.out]
  have g7:wr.cell? ⟨gr,o+k * 8+7,Ac⟩=Ad (Aa (Ad ⟨b,o2,Ac⟩) r.tasks.length c2):=(hC.cell (p:=⟨gr,o+k * 8+7,Ac⟩) gS (by simpa using rB)).trans p7;have fZ:gr<wr:=Aj gS hC.size;by_cases aB:j<BL.length
  ·have aC:(j:Int)<(BL.length:Int):=Bl;have hB12:BL.length<=12:=by have:=gC.out;omega
   have hj12:(j:Int)<12:=Bl;obtain ⟨b9,o9,rfl,mZ,e0⟩:=(vB.out wr hC).nat aB;have gH:BL[j]<r.tasks.length:=hBL.out _ (Ax aB);have qJ:=Tf (BL.take j) L0 0 hbnd.out (Int.le_refl 0);have hstp:=Bq (Y0 Da L0 BL j aB);generalize BL[j]=x at *
   generalize (BL.take j).foldl (fun l b=>Hc l b Da) L0=M at *
   have uK:x<M.length:=Bl;have hnd1:=qJ _ (Ax uK);have hjb:(BL.take j).length<=12:=by have:=gC.out;rw [A0];omega
   have hstp2:=Bq (hstp.out.trans (Ig uK Da));obtain ⟨_,_,hA,aH,d0,d1,d2,d3⟩:=hO.out.rd.tsk uK;simp only [Option.some.injEq,Addr.mk.injEq,and_true] at hA;obtain ⟨rfl,rfl⟩:=hA;have jJ:=(hO.out.block Bl).2.2;have hxI:(x:Int)<(r.tasks.length:Int):=Bl;have qV:(0:Int)<=(x:Int):=Bl;have wr1:Ab.wrap (M[x].need - 1)=M[x].need - 1:=Ar _ Bl;have h4:=hO.out.part uK ⟨M[x].state,M[x].need - 1,M[x].try_,M[x].until_⟩ 1 [J Ab (M[x].need - 1)] (show 1+1<=4 by omega) (fun i hi=>by simp at hi;subst hi;rfl) (fun i hi ho=>by
    have:i<4:=hi;rcases (show i=0\/i=2\/i=3 by simp at ho;omega) with rfl | rfl | rfl<;>rfl)
   have h4:Hw Fz (wr.setCell ⟨b,o2+x * 4+1,Ac⟩ (J Ab (M[x].need - 1))) [b] (Aa (Ad ⟨b,o2,Ac⟩) r.tasks.length c2) (M.set x ⟨M[x].state,M[x].need - 1,M[x].try_,M[x].until_⟩):=h4;have eK:=hC.trans (Chg.setCell wr b (o2+x * 4+1) (J Ab (M[x].need - 1)));clear qJ hstp hnd1;by_cases q:M[x].need - 1=0
   ·have hN:=Bq (show Da M[x]=⟨2,M[x].need - 1,M[x].try_,M[x].until_⟩ by unfold Da;rw [if_pos q]);have h5:=h4.taskState (j:=x) (by rw [Bh];exact uK) 2;simp only [List.getElem_set_self,List.set_set] at h5;have cX:=eK.trans (Chg.setCell _ b (o2+x * 4) (J Ab 2));have HN:=Bq (show Hw Fz ((wr.setCell ⟨b,o2+x * 4+1,Ac⟩ (J Ab (M[x].need - 1))).setCell ⟨b,o2+x * 4,Ac⟩ (J Ab 2)) [b] (Aa (Ad ⟨b,o2,Ac⟩) r.tasks.length c2) ((BL.take (j+1)).foldl (fun l b=>Hc l b Da) L0) by rw [hstp2.out,hN.out];exact h5);rw [q] at HN cX;clear h4 h5 hO;go_wp2;exact ⟨⟨j+1,Bl,by go_num,HN,cX⟩,clM⟩
   ·have hN:=Bq (show Da M[x]=⟨M[x].state,M[x].need - 1,M[x].try_,M[x].until_⟩ by unfold Da;rw [if_neg q]);have qb:(M[x].need - 1 == 0)=false:=beq_eq_false_iff_ne.2 q;have HN:=Bq (show Hw Fz (wr.setCell ⟨b,o2+x * 4+1,Ac⟩ (J Ab (M[x].need - 1))) [b] (Aa (Ad ⟨b,o2,Ac⟩) r.tasks.length c2) ((BL.take (j+1)).foldl (fun l b=>Hc l b Da) L0) by rw [hstp2.out,hN.out];exact h4);clear h4 hO q;go_wp2;exact ⟨⟨j+1,Bl,by go_num,HN,eK⟩,clM⟩
  ·have aC:¬ (j:Int)<(BL.length:Int):=Bl;have cE:=hO.out;rw [Bg Bl,<-hDT.out] at cE hlenj;have opr:=Ck.ow_chg op2 hC (fun x hx h=>by rw [Aw.1 h] at hx;exact bT hx);have F3_:=F2_.sub (w':=wr) (y:=⟨r.id,r.plan,r.state,I5 r u⟩) (hC.blk Bn) ⟨F1,[b],rfl,bI,opr,Hf cE⟩ rfl;have dU:=jD.trans (hC.blk (F:=gr :: (F1 ++ [b])) Bn);clear hO hC vB;go_upto_region 10 with fail
   have HS:=Bq (show ∀ W,Below wr wr W->(fun w'=>w'.cell? ⟨gr,o+k * 8,Ac⟩=Ad (J Ab r.id)/\w'.cell? ⟨gr,o+k * 8+1,Ac⟩=Ad (J Ab r.plan.prio)/\w'.cell? ⟨gr,o+k * 8+2,Ac⟩=Ad (J Ab r.plan.most)/\w'.cell? ⟨gr,o+k * 8+3,Ac⟩=Ad (J Ab r.plan.wait)/\w'.cell? ⟨gr,o+k * 8+4,Ac⟩=Ad (J Ab r.plan.tasks)/\w'.cell? ⟨gr,o+k * 8+5,Ac⟩=Ad (Aa s1.a s1.n s1.c)/\w'.cell? ⟨gr,o+k * 8+6,Ac⟩=Ad (J Ab r.state)/\w'.cell? ⟨gr,o+k * 8+7,Ac⟩=Ad (Aa (Ad ⟨b,o2,Ac⟩) r.tasks.length c2)) W from fun W hW=>by
    have bP:Foc Cn W gr o n c rs k G1 (F1 ++ [b]) G2 ⟨r.id,r.plan,r.state,I5 r u⟩ (s1,⟨Ad ⟨b,o2,Ac⟩,r.tasks.length,c2⟩):=F3_.sub (Chg.of_below _ hW) (Cn.ow_below F3_.here hW) rfl;exact bP.run)
   have eK:=dU.trans (Chg.of_below (gr :: (F1 ++ [b])) ((Br _ _).drew));have F4_:Foc Cn wr.drew gr o n c rs k G1 (F1 ++ [b]) G2 ⟨r.id,r.plan,r.state,I5 r u⟩ (s1,⟨Ad ⟨b,o2,Ac⟩,r.tasks.length,c2⟩):=F3_.sub (Chg.of_below _ (Br _ _).drew) (Cn.ow_below F3_.here (Br _ _).drew) rfl;refine Go.wp_region_noPanic ?_;refine wp_region_held_drew (S:=(fun w'=>w'.cell? ⟨gr,o+k * 8,Ac⟩=Ad (J Ab r.id)/\w'.cell? ⟨gr,o+k * 8+1,Ac⟩=Ad (J Ab r.plan.prio)/\w'.cell? ⟨gr,o+k * 8+2,Ac⟩=Ad (J Ab r.plan.most)/\w'.cell? ⟨gr,o+k * 8+3,Ac⟩=Ad (J Ab r.plan.wait)/\w'.cell? ⟨gr,o+k * 8+4,Ac⟩=Ad (J Ab r.plan.tasks)/\w'.cell? ⟨gr,o+k * 8+5,Ac⟩=Ad (Aa s1.a s1.n s1.c)/\w'.cell? ⟨gr,o+k * 8+6,Ac⟩=Ad (J Ab r.state)/\w'.cell? ⟨gr,o+k * 8+7,Ac⟩=Ad (Aa (Ad ⟨b,o2,Ac⟩) r.tasks.length c2))) Bm (HS.out _ (Br _ _).drew) (fun aA=>?_);clear F3_ dU HS;generalize wr.drew=w5 at *
   refine tY 0 ?_
   (try simp only [pS])
   refine tY 1 ?_
   (try simp only [pS])
   refine tV 2 ?_
   (try simp only [pS])
   refine tY 5 ?_
   (try simp only [pS])
   refine tY 6 ?_
   (try simp only [pS])
   refine tY 7 ?_
   (try simp only [pS])
   refine tV 8 ?_
   (try simp only [pS])
   refine tY 9 ?_
   (try simp only [pS])
   have CT:=Bq (I2 ⟨r.id,r.plan,r.state,I5 r u⟩ (s1,⟨Ad ⟨b,o2,Ac⟩,r.tasks.length,c2⟩) 4 w5 (by show (I5 r u).length<=_;omega) (Cn.ow_rd F4_.here));refine rC 3 (fun K_ hK=>?_);go_simp;refine CT.out.mono ?_;rintro e w6 ⟨v6,rfl,o6,b6⟩;obtain ⟨A6,c6,rfl,-⟩:=_root_.id (Rd.of_own o6);rw [T0];have tC:=eK.trans (Chg.of_below (gr :: (F1 ++ [b])) b6);have F6_:Foc Cn w6 gr o n c rs k G1 (F1 ++ [b]) G2 ⟨r.id,r.plan,r.state,I5 r u⟩ (s1,⟨Ad ⟨b,o2,Ac⟩,r.tasks.length,c2⟩):=F4_.sub (Chg.of_below _ b6) (Cn.ow_below F4_.here b6) rfl;refine hK.out _ _ F6_.run (fun aA=>?_);clear hK K_ eK F4_ CT o6 b6
   (try simp only [pS])
   refine rC 4 (fun K_ hK=>?_);go_simp;refine hK.out _ _ aA (fun aA=>?_);clear hK K_
   (try simp only [pS])
   refine rC 10 (fun K_ hK=>?_);go_simp;refine hK.out _ _ aA (fun aA=>?_);clear hK K_
   (try simp only [pS])
   refine Am Bm ?_ _;refine NoPanic.normal ?_;clear aA;by_cases hq:Cp (I5 r u) 4=r.tasks.length
   ·have hqI:((Cp (I5 r u) 4:Int) == (r.tasks.length:Int))=true:=by simp [hq]
    have H:=Bq (show Gs r u=⟨r.id,r.plan,2,I5 r u⟩ by unfold Gs;rw [HST.out,if_pos hq]);have g6:w6.cell? ⟨gr,o+k * 8+6,Ac⟩=Ad (J Ab r.state):=F6_.cells 6 _ rfl;have gf:=F6_.free;have hgr6:=F6_.blk;obtain ⟨F7_,fL⟩:=F6_.put (y:=⟨r.id,r.plan,2,I5 r u⟩) 6 [J Ab 2] (show 6+1<=8 by omega) (fun i hi=>by simp at hi;subst hi;rfl) (fun i hi ho=>by
     have:i<8:=hi;rcases (show i=0\/i=1\/i=2\/i=3\/i=4\/i=5\/i=7 by simp at ho;omega) with rfl | rfl | rfl | rfl | rfl | rfl | rfl<;>rfl) (fun W h=>h)
    have HF:=Bq (show I1 gr o n c rs k G1 (F1 ++ [b]) G2 (Gs r u) (s1,⟨Ad ⟨b,o2,Ac⟩,r.tasks.length,c2⟩) w (.returned (.tuple #[])) (w6.setCell ⟨gr,o+k * 8+6,Ac⟩ (J Ab 2)) from
     ⟨rfl,by rw [H.out];exact F7_,tC.trans (fL.blk Bn)⟩)
    clear F7_ fL F6_ hq;go_wp2;exact Ak (v:=.tuple #[]) (by simp [results,results212,go_sem]) rfl HF.out
   ·have hqI:((Cp (I5 r u) 4:Int) == (r.tasks.length:Int))=false:=beq_eq_false_iff_ne.2 Bl;have H:=Bq (show Gs r u=⟨r.id,r.plan,r.state,I5 r u⟩ by unfold Gs;rw [HST.out,if_neg hq]);have HF:=Bq (show I1 gr o n c rs k G1 (F1 ++ [b]) G2 (Gs r u) (s1,⟨Ad ⟨b,o2,Ac⟩,r.tasks.length,c2⟩) w (.returned (.tuple #[])) w6 from ⟨rfl,by rw [H.out];exact F6_,tC⟩);clear F6_ hq;go_wp2;exact Ak (v:=.tuple #[]) (by simp [results,results212,go_sem]) rfl HF.out
end Go.Proofs.YtecnbnbopcblgaaGreat
