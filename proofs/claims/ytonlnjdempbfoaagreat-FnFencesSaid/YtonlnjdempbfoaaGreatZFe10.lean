/-
  RunDone of the reference. What a worker is handed out: the plain facts of Poll. Complete of the reference. A shelf or a run of one's own yard is laid anew. Swep
-/
import Derived.Test.YtonlnjdempbfoaaGreatZFe0
import Derived.Test.YtonlnjdempbfoaaGreatZFe2
import Derived.Test.YtonlnjdempbfoaaGreatZFe3
import Derived.Test.YtonlnjdempbfoaaGreatZFe4
import Derived.Test.YtonlnjdempbfoaaGreatZFe8
import Derived.Test.YtonlnjdempbfoaaGreatZFe9
namespace Go.Proofs.YtonlnjdempbfoaaGreat
open Go.RowKit
set_option maxRecDepth 100000
set_option maxHeartbeats 4000000
set_option linter.unusedVariables false
set_option linter.unusedSimpArgs false
open Value renaming int->J,slice->Aa
open IntKind renaming i64->U
open Option renaming none->Ab,some->Ac
open Below renaming setCell->Ad
open Nat renaming zero_le->Ag,le_trans->Ah
open Go renaming bodyPost_ret->Aj,wpAnyH_done->Al
open Go.Proofs.Tryz renaming prog->An
open Int renaming toNat_natCast->Ap
open IntWalk renaming i64_in->Ar
open List renaming mem_singleton->Av,getElem_mem->Aw,nodup_append->Ax,length_take->Az,mem_append_right->Bd,mem_append_left->Be,take_of_length_le->Bf,length_set->Bg,mem_append->Bh
theorem Aaf {b:Nat} {w:World} {u0 u1 u2 u3 u4 u5 u6 u7:Value} (X:DBox b [u0,u1,u2,u3,u4,u5,u6,u7] w) {v0 v1 v2 v3:Value} {rest:List Value} :
  (results Tryz.f211 (v0 :: v1 :: v2 :: v3 :: .pointer (Ac ⟨b,0,Ab⟩) :: rest).toArray).run An w = .ok (.agg #[u0,u1,u2,u3,u4,u5,u6,u7]) w:=by
 have c0:=X.cell 0 _ rfl;have c1:=X.cell 1 _ rfl;have c2:=X.cell 2 _ rfl;have c3:=X.cell 3 _ rfl;have c4:=X.cell 4 _ rfl;have c5:=X.cell 5 _ rfl;have c6:=X.cell 6 _ rfl;have c7:=X.cell 7 _ rfl;simp [results,Tryz.results211,go_sem,c0,c1,c2,c3,c4,c5,c6,c7]
theorem Hw.taskUn' {w:World} {F:List Nat} {b o n c:Nat} {l:List Task} {j:Nat} {y:Task} (h:Hw G4 w F (Aa (Ac ⟨b,o,Ab⟩) n c) (l.set j y)) (hj:j<l.length) (st:Int) :
  Hw G4 (w.setCell ⟨b,o+j * 4+3,Ab⟩ (J U st)) F (Aa (Ac ⟨b,o,Ab⟩) n c) (l.set j ⟨y.state,y.need,y.try_,st⟩):=by
 have:=h.taskUntil (j:=j) (by rw [Bg];exact hj) st
 rw [List.getElem_set_self,List.set_set] at this;exact this
theorem Yn (r:Run) (s:Sl×Sl) (u:Nat) (w:World) (hl:C9 r<=2000000) (hR:J9 r u) (h:Co.rd w w r s) :
  Calls An 211 #[Hc r s,J U u] w (Fc Co Hc (Hf r u) w):=by
 have CP:=Bp (fun W (hW:Below w w W)=>Hp r s W hl (Co.rd_more (Co.rd_below h hW) hW.size));have CR:=Bp (fun W (hW:Below w w W)=>Qq r s u W hl (Co.rd_more (Co.rd_below h hW) hW.size));rw [D6 hR] at CR;have ht:u<r.tasks.length:=by have:=hR.2.1.2;omega
 have aK:r.tasks.length<=2000000:=Ah (Ct G8 _) (by unfold C9 at hl;omega);have dI:=Bp (Cn ht);obtain ⟨⟨A1,n1,c1⟩,⟨A2,n2,c2⟩⟩:=s;obtain rfl:n2=r.tasks.length:=RdL.at1 (s:=⟨A2,n2,c2⟩) h.2;obtain rfl:n1=r.plan.edges.length:=RdL.at1 (s:=⟨A1,n1,c1⟩) h.1;have sB:=Bp hR.1;have sE:=Bp (fun W (hW:Below w w W)=>(Ju h.1).below hW);clear h hl hR;have jU:(u:Int)<(r.tasks.length:Int):=Bk;have gQ:(0:Int)<=(u:Int):=Bk;have X:=(DBox.new 89 [J U r.id,J U r.plan.prio,J U r.plan.most,J U r.plan.wait,J U r.plan.tasks,Aa A1 r.plan.edges.length c1,J U r.state,Aa A2 r.tasks.length c2] w (b:=w.heap.size) rfl).below ((Bq _ _).alloc (Br _) (.cells #[J U 0,J U 0,J U 0,J U 0,J U 0,Aa Ab 0 0,J U 0,Aa Ab 0 0] 89));have RES:=DBox.new 89 [J U 0,J U 0,J U 0,J U 0,J U 0,Aa Ab 0 0,J U 0,Aa Ab 0 0] (w.alloc (.cells #[J U r.id,J U r.plan.prio,J U r.plan.most,J U r.plan.wait,J U r.plan.tasks,Aa A1 r.plan.edges.length c1,J U r.state,Aa A2 r.tasks.length c2] 89)) (b:=w.heap.size+1) Bm;have B0:Below w w ((w.alloc (.cells #[J U r.id,J U r.plan.prio,J U r.plan.most,J U r.plan.wait,J U r.plan.tasks,Aa A1 r.plan.edges.length c1,J U r.state,Aa A2 r.tasks.length c2] 89)).alloc (.cells #[J U 0,J U 0,J U 0,J U 0,J U 0,Aa Ab 0 0,J U 0,Aa Ab 0 0] 89)):=by repeat (first | exact Bq _ _ | refine Below.alloc ?_ Bn _)
 go_enter Tryz.func211,Tryz.ntmps211;go_wp2_with fail
 refine (CP.out _ B0).mono ?_;rintro e w1 ⟨⟨⟨A3,n3,c3⟩,⟨A4,n4,c4⟩⟩,F,rfl,o1,nF,b1⟩;obtain ⟨F1,F2,rfl,bM,op,ot⟩:=o1;replace ot:OwL Eo w1 F2 (Aa A4 n4 c4) r.tasks:=ot;have cJ:=Bp (Cm.ow_lt op);obtain rfl:n4=r.tasks.length:=RdL.at1 (s:=⟨A4,n4,c4⟩) ot.rd;have oh:=N7 ot;clear ot CP;obtain ⟨b,o,rfl,aG,d0,d1,d2,d3⟩:=oh.rd.tsk ht;clear d0 d1 d2 d3;have hBw:=B0.size;obtain ⟨rfl,bI,hbf⟩:=oh.block Bk;have eK:=nF b Bm;have kL:=X.lt;have jQ:=RES.lt;replace B0:=Bs B0 b1;replace X:=X.below b1;replace RES:=RES.below b1;clear b1;go_upto_region 2 with fail
 have OB:=DBox.new 89 [J U r.id,J U r.plan.prio,J U r.plan.most,J U r.plan.wait,J U r.plan.tasks,Aa A3 n3 c3,J U r.state,Aa (Ac ⟨b,o,Ab⟩) r.tasks.length c4] w1 (b:=w1.heap.size) rfl;have b2:Below w1 w1 (w1.alloc (.cells #[J U r.id,J U r.plan.prio,J U r.plan.most,J U r.plan.wait,J U r.plan.tasks,Aa A3 n3 c3,J U r.state,Aa (Ac ⟨b,o,Ab⟩) r.tasks.length c4] 89)):=(Bq _ _).alloc (Br _) _;have B2:=Bs B0 b2;replace X:=X.below b2;replace RES:=RES.below b2;replace oh:=oh.below b2;have op2:=Cm.ow_below op b2;have cI:=b2.size;have ow1:=OB.lt;clear op;generalize w1.alloc (.cells #[J U r.id,J U r.plan.prio,J U r.plan.most,J U r.plan.wait,J U r.plan.tasks,Aa A3 n3 c3,J U r.state,Aa (Ac ⟨b,o,Ab⟩) r.tasks.length c4] 89)=w2 at *
 have X_:=X.g8;go_wp2_with fail
 refine (CR.out _ B2).mono ?_;rintro e w3 ⟨rfl,b3⟩;have B3:=Bs B2 b3;clear X_;replace X:=X.below b3;replace RES:=RES.below b3;replace OB:=OB.below b3;replace oh:=oh.below b3;have op3:=Cm.ow_below op2 b3;have fV:=b3.size;clear op2 CR b3;have X_:=X.g8;have OB_:=OB.g8;obtain ⟨b',o',bJ,bN,d0,d1,d2,d3⟩:=oh.rd.tsk ht;simp only [Option.some.injEq,Addr.mk.injEq,and_true] at bJ;obtain ⟨rfl,rfl⟩:=bJ;have jG:=(oh.block Bk).2.2;have eR:b∉F1:=fun hx=>(Ax.1 bM).2.2 b hx b Bm rfl;go_upto_region 6 with fail
 have oh4:Hw G4 ((w3.setCell ⟨b,o+u * 4,Ab⟩ (J U 4)).setCell ⟨b,o+u * 4+3,Ab⟩ (J U 0)) [b] (Aa (Ac ⟨b,o,Ab⟩) r.tasks.length c4) (r.tasks.set u ⟨4,r.tasks[u].need,r.tasks[u].try_,0⟩):=(oh.taskState ht 4).taskUn' ht 0;have hC:Chg [b] w3 ((w3.setCell ⟨b,o+u * 4,Ab⟩ (J U 4)).setCell ⟨b,o+u * 4+3,Ab⟩ (J U 0)):=(Chg.setCell w3 b _ _).trans (Chg.setCell _ b _ _);have op4:=Cm.ow_chg op3 hC (fun x hx h=>by simp only [Av] at h;subst h;exact eR hx);have B4:Below w w ((w3.setCell ⟨b,o+u * 4,Ab⟩ (J U 4)).setCell ⟨b,o+u * 4+3,Ab⟩ (J U 0)):=by
  repeat (first | (with_reducible exact B3) | refine Ad ?_ Bn _)
 clear OB_;clear X_;clear d0 d1 d2 d3 bN jG;replace OB:=OB.chg hC (by simp only [Av];omega);replace X:=X.chg hC (by simp only [Av];omega);replace RES:=RES.chg hC (by simp only [Av];omega);have jY:=hC.size;clear hC oh op3;generalize ((w3.setCell ⟨b,o+u * 4,Ab⟩ (J U 4)).setCell ⟨b,o+u * 4+3,Ab⟩ (J U 0))=w4 at *
 have X_:=X.g8;have jF:=C8.1 sB.out.2.1;have CB:=Bp (Un r.plan (Aa A1 r.plan.edges.length c1) u w4 jF.1 jF.2.1 jF.2.2.1 ((sE.out w4 B4).more B4.size));have hBL:=Bp (Pn (Dq r.plan) r.plan.tasks.toNat u);have mN:=Bp (Nh (Dq r.plan) r.plan.tasks.toNat u);have hD0:Hid (Hf r u=⟨r.id,r.plan,stL (Ael r u (Eg (Dq r.plan) r.plan.tasks.toNat u)),Ael r u (Eg (Dq r.plan) r.plan.tasks.toNat u)⟩):=rfl;clear jF;generalize Eg (Dq r.plan) r.plan.tasks.toNat u=BL at *
 go_wp2_with fail
 refine CB.out.mono ?_;rintro e w5 ⟨vb,rfl,ob,b5⟩;obtain ⟨A9,c9,rfl,-⟩:=id (Rd.of_own ob);have B5:=Bs B4 b5;have nJ:=b5.size;have oh5:=oh4.below b5;have op5:=Cm.ow_below op4 b5;clear X_;replace OB:=OB.below b5;replace RES:=RES.below b5;have cB:b<w4:=Bk;obtain ⟨dQ,hobB⟩:=Hw.of_ow ob;have HB:=Bp (fun W (hW:Chg [b] w5 W)=>(dQ.chg hW (fun x hx h=>by simp only [Av] at h;subst h;have:=hobB _ hx;omega)).rd);have bX:Hid (∀ g o,A9=Ac ⟨g,o,Ab⟩->0<BL.length->w4.heap.size<=g):=fun g o h hp=>hobB g (by
  subst h;unfold Eh;rw [if_neg Bk];exact Av.2 rfl)
 have hL0:Hid (Hx r.tasks u (fun x=>⟨4,x.need,x.try_,0⟩)=r.tasks.set u ⟨4,r.tasks[u].need,r.tasks[u].try_,0⟩):=Qp ht _;have eA:∀ x∈r.tasks,0<=x.need/\x.need<=1000/\1<=x.state/\x.state<=6:=by
  intro x hx;obtain ⟨j,hj,rfl⟩:=List.getElem_of_mem hx;have h1:=sB.out.2.2.2.1 j hj;unfold Gl Lh at h1;rw [Cn hj] at h1;have h2:=Rf r (Dl (Dq r.plan) r.plan.tasks.toNat j);have h3:=Jz (Dq r.plan) r.plan.tasks.toNat j;have h4:=(Fo sB.out).2;have h5:=sB.out.2.2.1;have h6:Fu r j<=12:=by unfold Fu;omega
  omega
 have hbnd:Hid (∀ x∈r.tasks.set u ⟨4,r.tasks[u].need,r.tasks[u].try_,0⟩,-0<=x.need/\x.need<=1000/\1<=x.state/\x.state<=6):=by
  intro x hx;rcases List.mem_or_eq_of_mem_set hx with h | h
  ·have:=eA x h;omega
  ·subst h
   have:=eA _ (Aw ht)
   refine ⟨?_,?_,?_,?_⟩<;>dsimp only<;>omega
 clear eA;have hTl:=Bp (show r.plan.tasks.toNat=r.tasks.length by have:=sB.out.2.2.1;omega);generalize hL:r.tasks.set u ⟨4,r.tasks[u].need,r.tasks[u].try_,0⟩=L0 at *
 have hL0l:=Bp (show L0.length=r.tasks.length by rw [<-hL,Bg]);clear hL ob dQ hobB X CB sE;go_wp2;generalize Hc r (⟨A1,r.plan.edges.length,c1⟩,⟨A2,r.tasks.length,c2⟩)=rv;go_loopw [7] (fun i wr=>∃ k:Nat,k<=BL.length/\i = J U k/\Hid (Hw G4 wr [b] (Aa (Ac ⟨b,o,Ab⟩) r.tasks.length c4) ((BL.take k).foldl (fun l b=>Hx l b Ds) L0))/\DBox w1 [J U r.id,J U r.plan.prio,J U r.plan.most,J U r.plan.wait,J U r.plan.tasks,Aa A3 n3 c3,J U r.state,Aa (Ac ⟨b,o,Ab⟩) r.tasks.length c4] wr/\DBox (w.heap.size+1) [J U 0,J U 0,J U 0,J U 0,J U 0,Aa Ab 0 0,J U 0,Aa Ab 0 0] wr/\Chg [b] w5 wr) (fun i _=>BL.length - (intOf i).toNat);case atStart=>exact ⟨0,Ag _,rfl,oh5,OB,RES,Chg.refl _ _⟩
 case round =>
  clear OB RES oh5;obtain ⟨k,hk,rfl,hO,OB,RES,hb⟩:=hrel;by_cases aA:k<BL.length
  ·have aB:(k:Int)<(BL.length:Int):=Bk;have hx:=Bp (hBL.out _ (Aw aA));have kM:=Bp (show ((BL.take k).foldl (fun l b=>Hx l b Ds) L0).length=r.tasks.length by rw [N8 r u,hL0l.out]);have hbk:=Bp (Xe (BL.take k) L0 0 hbnd.out (Int.le_refl 0));have aE:=Bp (show (BL.take (k+1)).foldl (fun l b=>Hx l b Ds) L0=Hx ((BL.take k).foldl (fun l b=>Hx l b Ds) L0) BL[k] Ds from Ko (fun l b=>Hx l b Ds) L0 BL k aA);have fR:(BL.take k).length<=r.tasks.length:=by have:=mN.out;have:=hTl.out;rw [Az];omega
   obtain ⟨b9,o9,rfl,hb9,e0⟩:=(HB.out wr hb).nat aA;generalize BL[k]=x at *
   generalize (BL.take k).foldl (fun l b=>Hx l b Ds) L0=Lk at *
   have eW:x<Lk.length:=by have:=hx.out;have:=hTl.out;have:=kM.out;omega
   have hxI:(x:Int)<(r.tasks.length:Int):=by have:=hx.out;have:=hTl.out;omega
   have pK:(0:Int)<=(x:Int):=Bk;have hBs:BL.length<=2000000:=by have:=mN.out;have:=hTl.out;omega
   have hb9w:=bX.out b9 o9 rfl Bk;have cS:(0:Int)<=(k:Int):=Bk;have hyb:=hbk.out _ (Aw eW);have eL:=Bp (aE.out.trans (Qp eW Ds));clear aE;have OB_:=OB.g8;have RES_:=RES.g8;obtain ⟨b',o',bJ,bN,d0,d1,d2,d3⟩:=hO.out.rd.tsk eW;simp only [Option.some.injEq,Addr.mk.injEq,and_true] at bJ;obtain ⟨rfl,rfl⟩:=bJ;generalize Lk[x]=tx at *
   go_wp2;have sL:b9<wr:=by have:=hb.size;omega
   have hs0:b<wr:=by have:=hb.size;omega
   have hSS:=Bp (show ∀ W',Below wr wr W'->(fun w'=>DBox w1 [J U r.id,J U r.plan.prio,J U r.plan.most,J U r.plan.wait,J U r.plan.tasks,Aa A3 n3 c3,J U r.state,Aa (Ac ⟨b,o,Ab⟩) r.tasks.length c4] w'/\w'.cell? ⟨b9,o9+k,Ab⟩=Ac (J U (x:Int))/\w'.cell? ⟨b,o+x * 4,Ab⟩=Ac (J U tx.state)/\w'.cell? ⟨b,o+x * 4+1,Ab⟩=Ac (J U tx.need)/\w'.cell? ⟨b,o+x * 4+2,Ab⟩=Ac (J U tx.try_)/\w'.cell? ⟨b,o+x * 4+3,Ab⟩=Ac (J U tx.until_)) W' from fun W' jV=>⟨OB.below jV,(jV.cell (p:=⟨b9,_,Ab⟩) sL).trans e0,(jV.cell (p:=⟨b,_,Ab⟩) hs0).trans d0,(jV.cell (p:=⟨b,_,Ab⟩) hs0).trans d1,(jV.cell (p:=⟨b,_,Ab⟩) hs0).trans d2,(jV.cell (p:=⟨b,_,Ab⟩) hs0).trans d3⟩);refine Go.wp_region_noPanic ?_;refine wp_region_held_drew (S:=(fun w'=>DBox w1 [J U r.id,J U r.plan.prio,J U r.plan.most,J U r.plan.wait,J U r.plan.tasks,Aa A3 n3 c3,J U r.state,Aa (Ac ⟨b,o,Ab⟩) r.tasks.length c4] w'/\w'.cell? ⟨b9,o9+k,Ab⟩=Ac (J U (x:Int))/\w'.cell? ⟨b,o+x * 4,Ab⟩=Ac (J U tx.state)/\w'.cell? ⟨b,o+x * 4+1,Ab⟩=Ac (J U tx.need)/\w'.cell? ⟨b,o+x * 4+2,Ab⟩=Ac (J U tx.try_)/\w'.cell? ⟨b,o+x * 4+3,Ab⟩=Ac (J U tx.until_))) Bl (hSS.out _ (Bq _ _).drew) (fun hHeld=>?_);refine tV 0 ?_
   (try simp only [pS])
   refine tV 1 ?_
   (try simp only [pS])
   refine tV 2 ?_
   (try simp only [pS])
   refine tV 3 ?_
   (try simp only [pS])
   refine tV 4 ?_
   (try simp only [pS])
   refine tV 5 ?_
   (try simp only [pS])
   refine tV 6 ?_
   (try simp only [pS])
   refine tV 7 ?_
   (try simp only [pS])
   refine rC 8 (fun K_ hK=>?_);go_simp;have bA:Below wr wr ((wr.alloc (.cells #[J U 0,J U 0,J U 0,J U 0] 138)).drew):=((Bq _ _).alloc (Br _) _).drew;have XB:=DBox.drew4 (DBox.new 138 [J U 0,J U 0,J U 0,J U 0] wr (b:=wr.heap.size) rfl);generalize (wr.alloc (.cells #[J U 0,J U 0,J U 0,J U 0] 138)).drew=W1 at *
   refine hK.out _ _ (hSS.out _ bA) (fun hHeld=>?_);clear hK K_
   (try simp only [pS])
   have y0:=XB.cell 0 _ rfl;have y1:=XB.cell 1 _ rfl;have y2:=XB.cell 2 _ rfl;have y3:=XB.cell 3 _ rfl;have yf:=XB.free;have yl:=XB.lt;refine rC 9 (fun K_ hK=>?_);go_simp;have bB:Below wr wr ((((W1.setCell ⟨wr,0,Ab⟩ (J U tx.state)).setCell ⟨wr,1,Ab⟩ (J U tx.need)).setCell ⟨wr,2,Ab⟩ (J U tx.try_)).setCell ⟨wr,3,Ab⟩ (J U tx.until_)):=by
    repeat (first | (with_reducible exact bA) | refine Ad ?_ Bn _)
   have XB2:=DBox.row4 XB rfl (J U tx.state) (J U tx.need) (J U tx.try_) (J U tx.until_);generalize ((((W1.setCell ⟨wr,0,Ab⟩ (J U tx.state)).setCell ⟨wr,1,Ab⟩ (J U tx.need)).setCell ⟨wr,2,Ab⟩ (J U tx.try_)).setCell ⟨wr,3,Ab⟩ (J U tx.until_))=W2 at *
   clear y0 y1 y2 y3 yf yl XB;refine hK.out _ _ (hSS.out _ bB) (fun hHeld=>?_);clear hK K_
   (try simp only [pS])
   refine Al Bl ?_ _;refine NoPanic.normal ?_;clear hHeld;have OB2:=OB.below bB;have RES2:=RES.below bB;have hO2:=hO.out.below bB;have e2:=(bB.cell (p:=⟨b9,o9+k,Ab⟩) sL).trans e0;have aF:=hb.trans (Chg.of_below [b] bB);have hs22:=bB.size;have hsr:=hb.size;clear d0 d1 d2 d3;clear OB_;clear RES_;have y0:=XB2.cell 0 _ rfl;have y1:=XB2.cell 1 _ rfl;have y2:=XB2.cell 2 _ rfl;have y3:=XB2.cell 3 _ rfl;have yf:=XB2.free;have yl:=XB2.lt;have sZ:wr≠b:=Bk;by_cases q:tx.need - 1=0
   ·have q2:(tx.need - 1 == 0)=true:=by simp [q]
    have qU:=Bp (show Ds tx=⟨2,tx.need - 1,tx.try_,tx.until_⟩ by unfold Ds;rw [if_pos q]);clear q;go_wp2;have bC:Below wr wr ((W2.setCell ⟨wr,1,Ab⟩ (J U (tx.need - 1))).setCell ⟨wr,0,Ab⟩ (J U 2)):=by
     repeat (first | (with_reducible exact bB) | refine Ad ?_ Bn _)
    have XB3:DBox wr [J U 2,J U (tx.need - 1),J U tx.try_,J U tx.until_] ((W2.setCell ⟨wr,1,Ab⟩ (J U (tx.need - 1))).setCell ⟨wr,0,Ab⟩ (J U 2)):=((XB2.set 1 Bm (J U (tx.need - 1))).set 0 Bm (J U 2))
    have OB3:=OB.below bC;have RES3:=RES.below bC;have eV:=hO.out.below bC;have e3:=(bC.cell (p:=⟨b9,o9+k,Ab⟩) sL).trans e0;have bY:=hb.trans (Chg.of_below [b] bC);have kZ:=bC.size;clear y0 y1 y2 y3 yf yl XB2 OB2 RES2 hO2 e2 aF;generalize ((W2.setCell ⟨wr,1,Ab⟩ (J U (tx.need - 1))).setCell ⟨wr,0,Ab⟩ (J U 2))=W3 at *
    refine Go.wp_region_noPanic ?_;refine wp_region_held_drew (S:=(fun w'=>DBox w1 [J U r.id,J U r.plan.prio,J U r.plan.most,J U r.plan.wait,J U r.plan.tasks,Aa A3 n3 c3,J U r.state,Aa (Ac ⟨b,o,Ab⟩) r.tasks.length c4] w'/\w'.cell? ⟨b9,o9+k,Ab⟩=Ac (J U (x:Int))/\DBox wr [J U 2,J U (tx.need - 1),J U tx.try_,J U tx.until_] w')) Bl ⟨DBox.drew4 OB3,e3,DBox.drew4 XB3⟩ (fun hHeld=>?_);have bD:Below W3 W3 W3.drew:=(Bq _ _).drew;replace OB3:=OB3.below bD;replace RES3:=RES3.below bD;replace XB3:=XB3.below bD;replace eV:=eV.below bD;replace bY:=bY.drew;replace kZ:=Ah kZ bD.size;clear bD;generalize W3.drew=W4 at *
    refine tV 0 ?_
    (try simp only [pS])
    refine tV 1 ?_
    (try simp only [pS])
    refine tV 2 ?_
    (try simp only [pS])
    refine tV 3 ?_
    (try simp only [pS])
    refine tV 4 ?_
    (try simp only [pS])
    refine tV 5 ?_
    (try simp only [pS])
    refine tV 6 ?_
    (try simp only [pS])
    refine tV 7 ?_
    (try simp only [pS])
    obtain ⟨b',o',bJ,bN,d0,d1,d2,d3⟩:=eV.rd.tsk eW;simp only [Option.some.injEq,Addr.mk.injEq,and_true] at bJ;obtain ⟨rfl,rfl⟩:=bJ;have jG:=(eV.block Bk).2.2;have hO5:Hw G4 ((((W4.setCell ⟨b,o+x * 4,Ab⟩ (J U 2)).setCell ⟨b,o+x * 4+1,Ab⟩ (J U (tx.need - 1))).setCell ⟨b,o+x * 4+2,Ab⟩ (J U tx.try_)).setCell ⟨b,o+x * 4+3,Ab⟩ (J U tx.until_)) [b] (Aa (Ac ⟨b,o,Ab⟩) r.tasks.length c4) _:=eV.task4 eW ⟨2,tx.need - 1,tx.try_,tx.until_⟩;have cX:Chg [b] W4 ((((W4.setCell ⟨b,o+x * 4,Ab⟩ (J U 2)).setCell ⟨b,o+x * 4+1,Ab⟩ (J U (tx.need - 1))).setCell ⟨b,o+x * 4+2,Ab⟩ (J U tx.try_)).setCell ⟨b,o+x * 4+3,Ab⟩ (J U tx.until_)):=(((Chg.setCell W4 b _ _).trans (Chg.setCell _ b _ _)).trans (Chg.setCell _ b _ _)).trans (Chg.setCell _ b _ _);refine rC 8 (fun K_ hK=>?_);go_simp;clear d0 d1 d2 d3 jG bN;have dQ:w1.heap.size∉[b]:=by simp only [Av];omega
    have hrb:w.heap.size+1∉[b]:=by simp only [Av];omega
    have dZ:wr.heap.size∉[b]:=by simp only [Av];omega
    have OB5:=OB3.chg cX dQ;have RES5:=RES3.chg cX hrb;have XB5:=XB3.chg cX dZ;have e5:=(cX.cell (p:=⟨b9,o9+k,Ab⟩) (by show b9<W4;omega) (by simp only [Av];omega)).trans hHeld.2.1;have eE:=bY.trans cX;generalize ((((W4.setCell ⟨b,o+x * 4,Ab⟩ (J U 2)).setCell ⟨b,o+x * 4+1,Ab⟩ (J U (tx.need - 1))).setCell ⟨b,o+x * 4+2,Ab⟩ (J U tx.try_)).setCell ⟨b,o+x * 4+3,Ab⟩ (J U tx.until_))=W5 at *
    refine hK.out _ _ ⟨OB5,e5,XB5⟩ (fun hHeld=>?_);clear hK K_
    (try simp only [pS])
    refine Al Bl ?_ _;refine NoPanic.normal ?_;clear hHeld;go_wp2;exact ⟨⟨k+1,Bk,by go_num,by rw [eL.out,qU.out];exact hO5,OB5,RES5,eE⟩,by simp [intOf];omega⟩
   ·have q2:(tx.need - 1 == 0)=false:=by simp [q]
    have qU:=Bp (show Ds tx=⟨tx.state,tx.need - 1,tx.try_,tx.until_⟩ by unfold Ds;rw [if_neg q]);clear q;go_wp2;have bC:Below wr wr (W2.setCell ⟨wr,1,Ab⟩ (J U (tx.need - 1))):=by
     repeat (first | (with_reducible exact bB) | refine Ad ?_ Bn _)
    have XB3:DBox wr [J U tx.state,J U (tx.need - 1),J U tx.try_,J U tx.until_] (W2.setCell ⟨wr,1,Ab⟩ (J U (tx.need - 1))):=(XB2.set 1 Bm (J U (tx.need - 1)))
    have OB3:=OB.below bC;have RES3:=RES.below bC;have eV:=hO.out.below bC;have e3:=(bC.cell (p:=⟨b9,o9+k,Ab⟩) sL).trans e0;have bY:=hb.trans (Chg.of_below [b] bC);have kZ:=bC.size;clear y0 y1 y2 y3 yf yl XB2 OB2 RES2 hO2 e2 aF;generalize (W2.setCell ⟨wr,1,Ab⟩ (J U (tx.need - 1)))=W3 at *
    refine Go.wp_region_noPanic ?_;refine wp_region_held_drew (S:=(fun w'=>DBox w1 [J U r.id,J U r.plan.prio,J U r.plan.most,J U r.plan.wait,J U r.plan.tasks,Aa A3 n3 c3,J U r.state,Aa (Ac ⟨b,o,Ab⟩) r.tasks.length c4] w'/\w'.cell? ⟨b9,o9+k,Ab⟩=Ac (J U (x:Int))/\DBox wr [J U tx.state,J U (tx.need - 1),J U tx.try_,J U tx.until_] w')) Bl ⟨DBox.drew4 OB3,e3,DBox.drew4 XB3⟩ (fun hHeld=>?_);have bD:Below W3 W3 W3.drew:=(Bq _ _).drew;replace OB3:=OB3.below bD;replace RES3:=RES3.below bD;replace XB3:=XB3.below bD;replace eV:=eV.below bD;replace bY:=bY.drew;replace kZ:=Ah kZ bD.size;clear bD;generalize W3.drew=W4 at *
    refine tV 0 ?_
    (try simp only [pS])
    refine tV 1 ?_
    (try simp only [pS])
    refine tV 2 ?_
    (try simp only [pS])
    refine tV 3 ?_
    (try simp only [pS])
    refine tV 4 ?_
    (try simp only [pS])
    refine tV 5 ?_
    (try simp only [pS])
    refine tV 6 ?_
    (try simp only [pS])
    refine tV 7 ?_
    (try simp only [pS])
    obtain ⟨b',o',bJ,bN,d0,d1,d2,d3⟩:=eV.rd.tsk eW;simp only [Option.some.injEq,Addr.mk.injEq,and_true] at bJ;obtain ⟨rfl,rfl⟩:=bJ;have jG:=(eV.block Bk).2.2;have hO5:Hw G4 ((((W4.setCell ⟨b,o+x * 4,Ab⟩ (J U tx.state)).setCell ⟨b,o+x * 4+1,Ab⟩ (J U (tx.need - 1))).setCell ⟨b,o+x * 4+2,Ab⟩ (J U tx.try_)).setCell ⟨b,o+x * 4+3,Ab⟩ (J U tx.until_)) [b] (Aa (Ac ⟨b,o,Ab⟩) r.tasks.length c4) _:=eV.task4 eW ⟨tx.state,tx.need - 1,tx.try_,tx.until_⟩;have cX:Chg [b] W4 ((((W4.setCell ⟨b,o+x * 4,Ab⟩ (J U tx.state)).setCell ⟨b,o+x * 4+1,Ab⟩ (J U (tx.need - 1))).setCell ⟨b,o+x * 4+2,Ab⟩ (J U tx.try_)).setCell ⟨b,o+x * 4+3,Ab⟩ (J U tx.until_)):=(((Chg.setCell W4 b _ _).trans (Chg.setCell _ b _ _)).trans (Chg.setCell _ b _ _)).trans (Chg.setCell _ b _ _);refine rC 8 (fun K_ hK=>?_);go_simp;clear d0 d1 d2 d3 jG bN;have dQ:w1.heap.size∉[b]:=by simp only [Av];omega
    have hrb:w.heap.size+1∉[b]:=by simp only [Av];omega
    have dZ:wr.heap.size∉[b]:=by simp only [Av];omega
    have OB5:=OB3.chg cX dQ;have RES5:=RES3.chg cX hrb;have XB5:=XB3.chg cX dZ;have e5:=(cX.cell (p:=⟨b9,o9+k,Ab⟩) (by show b9<W4;omega) (by simp only [Av];omega)).trans hHeld.2.1;have eE:=bY.trans cX;generalize ((((W4.setCell ⟨b,o+x * 4,Ab⟩ (J U tx.state)).setCell ⟨b,o+x * 4+1,Ab⟩ (J U (tx.need - 1))).setCell ⟨b,o+x * 4+2,Ab⟩ (J U tx.try_)).setCell ⟨b,o+x * 4+3,Ab⟩ (J U tx.until_))=W5 at *
    refine hK.out _ _ ⟨OB5,e5,XB5⟩ (fun hHeld=>?_);clear hK K_
    (try simp only [pS])
    refine Al Bl ?_ _;refine NoPanic.normal ?_;clear hHeld;go_wp2;exact ⟨⟨k+1,Bk,by go_num,by rw [eL.out,qU.out];exact hO5,OB5,RES5,eE⟩,by simp [intOf];omega⟩
  ·have aB:¬ (k:Int)<(BL.length:Int):=Bk;have dJ:=hO.out;rw [Bf Bk] at dJ;have hD:=Bp (show Hf r u=⟨r.id,r.plan,stL (BL.foldl (fun l b=>Hx l b Ds) L0),BL.foldl (fun l b=>Hx l b Ds) L0⟩ by rw [hD0.out];unfold Ael;rw [hL0.out]);have bV:=Bp (Xe BL L0 0 hbnd.out (Int.le_refl 0));have rU:=Bp (show (BL.foldl (fun l b=>Hx l b Ds) L0).length=r.tasks.length by rw [N8 r u,hL0l.out]);generalize BL.foldl (fun l b=>Hx l b Ds) L0=DL at *
   clear hO;have opr:=Cm.ow_chg op5 hb (fun x hx h=>by simp only [Av] at h;subst h;exact eR hx);have CS:=Bp (Ou ⟨r.id,r.plan,r.state,DL⟩ (⟨A3,n3,c3⟩,⟨Ac ⟨b,o,Ab⟩,r.tasks.length,c4⟩) wr (by show DL.length<=2000000;rw [rU.out];omega) (fun x hx=>(bV.out x hx).2.2) ⟨Cm.ow_rd opr,(K1 dJ).rd⟩);have OB_:=OB.g8;have hsr:=hb.size;go_wp2_with fail
   refine CS.out.mono ?_;rintro e w6 ⟨rfl,b6⟩;have hO2:=dJ.below b6;have op6:=Cm.ow_below opr b6;have B6:Below w w w6:=Bs (B5.trans (hb.below Bk (fun x hx=>by simp only [Av] at hx;omega))) b6;have hs66:=b6.size;clear OB_;replace OB:=OB.below b6;replace RES:=RES.below b6;have OB_:=OB.g8;have RES_:=RES.g8;have obf:=OB.free;have rf:=RES.free;go_wp2;have hor:w.heap.size+1≠w1.heap.size:=Bk;refine Aj (Aaf (DBox.row8 (RES.setOther (a:=⟨w1,6,Ab⟩) hor (J U (stL DL))) rfl _ _ _ _ _ _ _ _)) rfl ⟨(⟨A3,n3,c3⟩,⟨Ac ⟨b,o,Ab⟩,r.tasks.length,c4⟩),F1 ++ [b],by rw [hD.out],⟨F1,[b],rfl,bM,?_,?_⟩,?_,?_⟩
   ·have e2:w.heap.size+1∉F1:=fun hx=>by have:=nF _ (Be _ hx);omega
    have e3:w1.heap.size∉F1:=fun hx=>by have:=cJ.out _ hx;omega
    rw [hD.out];show Cm.ow _ F1 r.plan _;exact (by (repeat (refine Dt.ow_set Cm ?_ (by first | exact e3 | exact e2) _));exact op6)
   ·have e1:w.heap.size+1∉[b]:=by simp only [Av];omega
    have e0:w1.heap.size∉[b]:=by simp only [Av];omega
    rw [hD.out];show OwL Eo _ [b] _ DL;exact K1 (((((((((hO2.set (a:=⟨w1,_,Ab⟩) e0 _).set (a:=⟨w.heap.size+1,_,Ab⟩) e1 _).set (a:=⟨w.heap.size+1,_,Ab⟩) e1 _).set (a:=⟨w.heap.size+1,_,Ab⟩) e1 _).set (a:=⟨w.heap.size+1,_,Ab⟩) e1 _).set (a:=⟨w.heap.size+1,_,Ab⟩) e1 _).set (a:=⟨w.heap.size+1,_,Ab⟩) e1 _).set (a:=⟨w.heap.size+1,_,Ab⟩) e1 _).set (a:=⟨w.heap.size+1,_,Ab⟩) e1 _)
   ·intro x hx
    have:=nF x hx
    omega
   ·repeat (first | (with_reducible exact B6) | refine Ad ?_ Bn _)
section
theorem Aem {l:List Entry} {e x:Entry} (h:x∈Hu l e):x∈l\/x=e:=by
 unfold Hu at h;rcases Bh.1 h with h | h
 ·exact .inl ((List.takeWhile_prefix _).sublist.subset h)
 ·rcases List.mem_cons.1 h with h | h
  ·exact .inr h
  ·exact .inl ((List.dropWhile_suffix _).sublist.subset h)
theorem Vp (b:List Entry):∀ (a:List Entry) {x:Entry},x∈b.foldl Hu a->x∈a\/x∈b:=by
 induction b with
 | nil=>intro a x h;exact .inl h
 | cons e b ih =>
  intro a x h;rw [List.foldl_cons] at h;rcases ih _ h with h | h
  ·rcases Aem h with h | h
   ·exact .inl h
   ·exact .inr (by rw [h];exact List.mem_cons_self ..)
  ·exact .inr (List.mem_cons_of_mem _ h)
theorem Aag {a b:List Entry} {x:Entry} (h:x∈Fg a b):x∈a\/x∈b:=by
 unfold Fg at h;split at h
 ·exact .inl h
 ·exact Vp b a h
theorem Mt {y z:Yard} (h:z.runs=y.runs) (id:Int):Dh z id=Dh y id:=by unfold Dh;rw [h]
theorem Li {y z:Yard} (h:z.runs=y.runs) (e:Entry):Dx z e=Dx y e:=by
 unfold Dx;apply Aec;have hk:Ip z e.run=Ip y e.run:=by unfold Ip;rw [h,Mt h]
 unfold Pi;rw [hk,Mt h]
theorem Es {y:Yard} {i:Nat} (h:i<y.shelf.length):y.shelf.getD i []=y.shelf[i]:=by
 rw [List.getD_eq_getElem?_getD,List.getElem?_eq_getElem h];rfl
structure Pol (y:Yard) (home:Nat) (z:Yard):Prop where
 now:z.now=y.now
 seq:z.seq=y.seq
 runs:z.runs=y.runs
 four:z.shelf.length=4
 all:∀ s∈z.shelf,s.length<=80
 fresh:∀ e∈z.shelf.getD home [],Dx y e=true
theorem Me (y:Yard) (i:Nat):(By y i).shelf.length=y.shelf.length:=by unfold By;simp
theorem Oe {y:Yard} {i M:Nat} (h:∀ s∈y.shelf,s.length<=M):∀ s∈(By y i).shelf,s.length<=M:=by
 intro s hs;unfold By at hs;rcases List.mem_or_eq_of_mem_set hs with h1 | h1
 ·exact h s h1
 ·subst h1;refine Ah (List.length_filter_le _ _) ?_;rw [List.getD_eq_getElem?_getD];cases q:y.shelf[i]? with
  | none=>simp
  | some s=>exact h s (List.mem_of_getElem? q)
theorem Aah {y:Yard} {i:Nat} (h:i<y.shelf.length):(By y i).shelf.getD i []=(y.shelf[i]).filter fun e=>Dx y e:=by
 rw [Es (by rw [Me];exact h)];unfold By;simp only [List.getElem_set_self];rw [Es h]
theorem Ro {y:Yard} {i j:Nat} (h:i≠j):(By y i).shelf.getD j []=y.shelf.getD j []:=by
 unfold By;simp only [List.getD_eq_getElem?_getD,List.getElem?_set_ne h]
theorem Pol.start {y:Yard} (h:Dn y) {home:Nat} (hh:home<4):Pol y home (By y home):=by
 have h4:=h.2.2.1;refine ⟨rfl,rfl,rfl,by rw [Me];exact h4,Oe (fun s hs=>(h.2.2.2.1 s hs).1),fun e he=>?_⟩;rw [Aah Bk] at he;exact (List.mem_filter.1 he).2
theorem Lq (l:List Entry) (h:l.length<=80):(l.take (Cw l)).length<=80:=by rw [Az];omega
noncomputable def Jp (home:Nat) (y:Yard) (v:Nat):Yard :=
 ⟨y.now,y.seq,((By y v).shelf.set v (((By y v).shelf.getD v []).drop (Cw ((By y v).shelf.getD v [])))).set home (Fg [] (((By y v).shelf.getD v []).take (Cw ((By y v).shelf.getD v [])))),y.runs⟩
theorem Aai {home:Nat} {y:Yard} {v:Nat} (h:¬ (y.shelf.getD home []).length=0):D4 home y v=y:=by unfold D4;rw [if_neg h]
theorem Mf {home:Nat} {y:Yard} {v:Nat} (h:(y.shelf.getD home []).length=0) (hv:v≠home):D4 home y v=Jp home y v:=by
 unfold D4;rw [if_pos h];unfold Jp;have e:((By y v).shelf.set v (((By y v).shelf.getD v []).drop (Cw ((By y v).shelf.getD v [])))).getD home []=[]:=by
  rw [List.getD_eq_getElem?_getD,List.getElem?_set_ne hv,<-List.getD_eq_getElem?_getD,Ro hv];exact List.eq_nil_of_length_eq_zero h
 simp only [e];rfl
theorem Yo {home:Nat} {y:Yard} {v:Nat} (h4:y.shelf.length=4) (hh:home<4):(Jp home y v).shelf.getD home []=Fg [] (((By y v).shelf.getD v []).take (Cw ((By y v).shelf.getD v []))):=by
 rw [Es (by unfold Jp;simp [By];omega)];unfold Jp;simp only [List.getElem_set_self]
theorem Pol.step {y z:Yard} {home v:Nat} (h:Pol y home z) (hh:home<4) (hv:v<4) (aC:v≠home):Pol y home (D4 home z v):=by
 by_cases q:(z.shelf.getD home []).length=0
 ·rw [Mf q aC];have mM:∀ e∈(By z v).shelf.getD v [],Dx y e=true:=by
   intro e he;rw [Aah (by rw [h.four];exact hv)] at he;rw [<-Li h.runs];exact (List.mem_filter.1 he).2
  have sY:=Oe (i:=v) h.all;have hlv:((By z v).shelf.getD v []).length<=80:=by
   rw [Es (by rw [Me,h.four];exact hv)];exact sY _ (Aw _)
  refine ⟨h.now,h.seq,h.runs,by unfold Jp;simp [By];exact h.four,fun s hs=>?_,fun e he=>?_⟩
  ·unfold Jp at hs;rcases List.mem_or_eq_of_mem_set hs with h1 | h1
   ·rcases List.mem_or_eq_of_mem_set h1 with h2 | h2
    ·exact sY s h2
    ·subst h2;rw [List.length_drop];omega
   ·subst h1;refine Ah (Zp _ _) ?_
    have:=Lq _ hlv
    simp only [List.length_nil,Nat.zero_add];exact this
  ·rw [Yo h.four hh] at he;rcases Aag he with h1 | h1
   ·cases h1
   ·exact mM e (List.mem_of_mem_take h1)
 ·rw [Aai q];exact h
theorem Pol.cnt {y z:Yard} {home:Nat} (h:Pol y home z) (hy:Dn y):Ci z<=2000000:=by
 have:=N9 h.four h.all (by rw [h.runs];exact hy.2.2.2.2.2.2.1) (fun k hk=>by
  have aZ:k<y.runs.length:=by rw [<-h.runs];exact hk
  have e:z.runs[k]=y.runs[k]:=by simp only [h.runs]
  rw [e];exact E0 hy aZ)
 omega
theorem K2 {home draw:Int} : ∀ v∈Dz home draw,v<4:=by
 intro v hv;unfold Dz at hv;obtain ⟨i,_,rfl⟩:=List.mem_map.1 hv;exact Nat.mod_lt _ Bo
theorem K3 {home draw:Int} (h0:0<=home) (h:home<4):∀ v∈Dz home draw,v≠home.toNat:=by
 intro v hv;unfold Dz at hv;obtain ⟨i,_,rfl⟩:=List.mem_map.1 hv
 have:=Nat.mod_lt ((max draw 0 % 3).toNat+i) (show 0<3 by decide)
 omega
theorem Sm (home draw:Int):(Dz home draw).length=3:=by unfold Dz;simp
noncomputable def Ir (y:Yard) (home draw:Int):Yard:=(Dz home draw).foldl (D4 home.toNat) (By y home.toNat)
theorem Pol.fold {y:Yard} {home:Nat} (hh:home<4):∀ (l:List Nat) (z:Yard),Pol y home z->(∀ v∈l,v<4/\v≠home)->Pol y home (l.foldl (D4 home) z)
 | [],_,h,_=>h
 | v :: l,z,h,hl=>Pol.fold hh l _ (h.step hh (hl v (List.mem_cons_self ..)).1 (hl v (List.mem_cons_self ..)).2) (fun x hx=>hl x (List.mem_cons_of_mem _ hx))
theorem Lr {home:Nat} : ∀ (l:List Nat) (z:Yard),¬ (z.shelf.getD home []).length=0->l.foldl (D4 home) z=z
 | [],_,_=>rfl
 | v :: l,z,h=>by rw [List.foldl_cons,Aai h];exact Lr l z h
noncomputable def Sn (z:Yard) (home:Nat):List Entry->Yard×Reply
 | []=>(z,⟨9,0,0,0⟩)
 | e :: rest=>(⟨z.now,z.seq,z.shelf.set home rest,z.runs.set (Dh z e.run).toNat (Cv (Ip z e.run) e.task.toNat z.now)⟩,⟨0,e.run,e.task,(Bx (Ip z e.run) e.task.toNat).try_+1⟩)
noncomputable def Lj (z:Yard) (home:Nat):Yard×Reply:=Sn z home (z.shelf.getD home [])
open Classical in
noncomputable def Gv (y:Yard) (worker draw:Int):Yard×Reply :=
 if ¬ Dn y then (y,⟨8,0,0,0⟩) else if inB worker 0 99=false then (y,⟨5,0,0,0⟩) else Lj (Ir y (worker % 4) draw) (worker % 4).toNat
end
section
theorem Qt {b:Nat} {w:World} {u0 u1 u2 u3:Value} (X:DBox b [u0,u1,u2,u3] w) {v0 v1 v2 v3 v4 v5 v6 v7 v9:Value} {rest:List Value} :
  (results Tryz.f145 (v0 :: v1 :: v2 :: v3 :: v4 :: v5 :: v6 :: v7 :: .pointer (Ac ⟨b,0,Ab⟩) :: v9 :: rest).toArray).run An w = .ok (.tuple #[.agg #[u0,u1,u2,u3],v9]) w:=by
 have c0:=X.cell 0 _ rfl;have c1:=X.cell 1 _ rfl;have c2:=X.cell 2 _ rfl;have c3:=X.cell 3 _ rfl;simp [results,Tryz.results145,go_sem,c0,c1,c2,c3]
theorem Of (r:Run) (t:Nat):(Hf r t).tasks.length=r.tasks.length:=by
 show (Xa r t).length=_;unfold Xa;rw [N8 r t,Hd]
open Classical in
noncomputable def M9 (y:Yard) (id tk tr:Int):Yard:=if Iq y id tk tr=0 then Gr y (Dh y id).toNat (Hf (Ip y id) tk.toNat) else y
theorem Rp (y:Yard) (s:Sl×Sl) (id tk tr:Int) (w:World) (hl:Ci y<=2000000) (h:Bu.rd w w y s) :
  Calls An 145 #[Du y s,J U id,J U tk,J U tr] w (Ma (M9 y id tk tr) (Iq y id tk tr) w):=by
 have HR:=Bp (show ∀ W,Below w w W->Bu.rd W W y s from fun W hW=>Bu.rd_more (Bu.rd_below h hW) hW.size);obtain ⟨⟨A1,n1,c1⟩,⟨A2,n2,c2⟩⟩:=s;have CC:=Bp (fun W hW=>Er y (⟨A1,n1,c1⟩,⟨A2,n2,c2⟩) W hl (HR.out W hW));have CK:=Bp (fun W hW=>Sj y (⟨A1,n1,c1⟩,⟨A2,n2,c2⟩) id tk tr W hl (HR.out W hW));have CA:=Bp (fun W hW=>Ew y (⟨A1,n1,c1⟩,⟨A2,n2,c2⟩) id W hl (HR.out W hW));clear h;obtain ⟨W,aH,X,RES,B0⟩:=bx2 w 31 [J U y.now,J U y.seq,Aa A1 n1 c1,Aa A2 n2 c2] 31 [J U 0,J U 0,Aa Ab 0 0,Aa Ab 0 0];go_enter Tryz.func145,Tryz.ntmps145;go_wp2_with fail
 rw [<-aH.out];clear aH;refine (CC.out _ B0).mono ?_;rintro e1 w1 ⟨⟨⟨B1,m1,e1⟩,⟨B2,m2,e2⟩⟩,F,rfl,oy,nF,b1⟩;have kL:=X.lt;have jQ:=RES.lt;replace X:=X.below b1;replace RES:=RES.below b1;replace B0:=Bs B0 b1;have cJ:=Bu.ow_lt (F:=F) (x:=y) (s:=(⟨B1,m1,e1⟩,⟨B2,m2,e2⟩)) oy;have bL:=b1.size;clear b1;go_upto_region 2 with fail
 have OB:=DBox.new 31 [J U y.now,J U y.seq,Aa B1 m1 e1,Aa B2 m2 e2] w1 (b:=w1.heap.size) rfl;have b2:Below w1 w1 (w1.alloc (.cells #[J U y.now,J U y.seq,Aa B1 m1 e1,Aa B2 m2 e2] 31)):=(Bq _ _).alloc (Br _) _;replace B0:=Bs B0 b2;replace X:=X.below b2;replace RES:=RES.below b2;replace oy:=Bu.ow_below (F:=F) (x:=y) (s:=(⟨B1,m1,e1⟩,⟨B2,m2,e2⟩)) oy b2;have cI:=b2.size;have ow1:=OB.lt;generalize w1.alloc (.cells #[J U y.now,J U y.seq,Aa B1 m1 e1,Aa B2 m2 e2] 31)=w2 at *
 have X_:=X.g4;go_wp2_with fail
 refine (CK.out _ B0).mono ?_;rintro e1 w3 ⟨rfl,b3⟩;replace B0:=Bs B0 b3;clear X_;replace X:=X.below b3;replace RES:=RES.below b3;replace OB:=OB.below b3;replace oy:=Bu.ow_below (F:=F) (x:=y) (s:=(⟨B1,m1,e1⟩,⟨B2,m2,e2⟩)) oy b3;have fV:=b3.size;clear b3 b2 CC CK;have X_:=X.g4;have OB_:=OB.g4;by_cases q:Iq y id tk tr=0;case neg =>
  have q2:(Iq y id tk tr != 0)=true:=by simp [q]
  have H:=Bp (show M9 y id tk tr=y from if_neg q);clear q;have RES_:=RES.g4;have rf:=RES.free;go_wp2;have en1:w.heap.size+1∉F:=fun hx=>by have:=nF _ hx;omega
  refine Aj (Qt (DBox.row4 RES rfl _ _ _ _)) rfl ⟨(⟨B1,m1,e1⟩,⟨B2,m2,e2⟩),F,by rw [H.out],by rw [H.out];exact (Bu.set4 (F:=F) (x:=y) (s:=(⟨B1,m1,e1⟩,⟨B2,m2,e2⟩)) oy en1),fun x hx=>by have:=nF x hx;omega,?_⟩;repeat (first | (with_reducible exact B0) | refine Ad ?_ Bn _)
 have q2:(Iq y id tk tr != 0)=false:=by simp [q]
 have H:=Bp (show M9 y id tk tr=Gr y (Dh y id).toNat (Hf (Ip y id) tk.toNat) from if_pos q);have HP:Hid (Dn y/\0<=Dh y id/\Iw y id tk tr):=by
  unfold Iq at q;by_cases p0:Dn y
  ·by_cases p1:Dh y id<0
   ·rw [if_neg (fun h=>h p0),if_pos p1] at q;cases q
   ·by_cases p2:Iw y id tk tr
    ·exact ⟨p0,Bk,p2⟩
    ·rw [if_neg (fun h=>h p0),if_neg p1,if_pos p2] at q;cases q
  ·rw [if_pos p0] at q;cases q
 have Hq:=Bp q;clear q;rcases Eu y id with hr | ⟨k,hk,hr⟩
 ·exact absurd HP.out.2.1 Bk
 have HK:=Bp (Gq hk hr);have HR2:=Bp hr;clear hr;have bH:=Bp (E0 HP.out.1 hk);have hth:=Bp HP.out.2.2;have dI:Hid ((0<=tk/\tk<(y.runs[k].tasks.length:Int))/\(Bx y.runs[k] tk.toNat).state=3):=by
  have:=hth.out
  unfold Iw at this;rw [HK.out] at this;exact ⟨this.2.1,this.2.2.1⟩
 obtain ⟨u,rfl⟩:=Int.eq_ofNat_of_zero_le dI.out.1.1;have hu:u<y.runs[k].tasks.length:=by have:=dI.out.1.2;omega
 have eJ:Hid (J9 y.runs[k] u):=⟨bH.out,⟨Bk,Bk⟩,dI.out.2⟩
 go_wp2_with fail
 refine (CA.out _ B0).mono ?_;rintro e2' w4 ⟨rfl,b4⟩;rw [HR2.out];replace B0:=Bs B0 b4;clear X_;clear OB_;clear X;replace RES:=RES.below b4;replace OB:=OB.below b4;replace oy:Bu.ow w4 F y (⟨B1,m1,e1⟩,⟨B2,m2,e2⟩):=owB oy b4;have jY:=b4.size;clear b4 CA;have oy2:=oy;obtain ⟨F1,F2,rfl,bM,os,orr⟩:=oy2;replace orr:OwL Co w4 F2 (Aa B2 m2 e2) y.runs:=orr;obtain rfl:m2=y.runs.length:=RdL.at1 (s:=⟨B2,m2,e2⟩) orr.rd;obtain ⟨gr,o2,sk,rfl,cC,bP,c0,c1_,c2_,c3,c4,c5,c6,c7⟩:=orr.rd.run hk;have eC:(k:Int)<(y.runs.length:Int):=Bk;have cS:(0:Int)<=(k:Int):=Bk;go_wp2;refine Go.wp_region_noPanic ?_;refine wp_region_held_drew (S:=(fun w'=>DBox w1 [J U y.now,J U y.seq,Aa B1 m1 e1,Aa (Ac ⟨gr,o2,Ab⟩) y.runs.length e2] w')) Bl (DBox.drew4 OB) (fun hHeld=>?_);refine tY 0 ?_
 (try simp only [pS])
 refine tY 1 ?_
 (try simp only [pS])
 refine tY 2 ?_
 (try simp only [pS])
 refine tY 3 ?_
 (try simp only [pS])
 refine tY 4 ?_
 (try simp only [pS])
 refine tY 5 ?_
 (try simp only [pS])
 refine tY 7 ?_
 (try simp only [pS])
 have bd:Below w4 w4 w4.drew:=(Bq _ _).drew;replace B0:=Bs B0 bd;replace RES:=RES.below bd;replace OB:=OB.below bd;replace oy:Bu.ow w4.drew (F1 ++ F2) y (⟨B1,m1,e1⟩,⟨Ac ⟨gr,o2,Ab⟩,y.runs.length,e2⟩):=Bu.ow_below (F:=F1 ++ F2) (x:=y) (s:=(⟨B1,m1,e1⟩,⟨Ac ⟨gr,o2,Ab⟩,y.runs.length,e2⟩)) oy bd;refine rC 6 (fun K_ hK=>?_);go_simp;refine hK.out _ _ OB (fun hHeld=>?_);clear hK K_
 (try simp only [pS])
 have jA:=Gu hl hk;have hrk2:Co.rd w4.drew w4.drew y.runs[k] sk:=Co.rd_below bP bd;have hcrun:C9 y.runs[k]<=2000000:=by
  have h1:=Fk (cnt:=C9) (Aw hk);unfold Ci at hl;omega
 have CF:=Bp (Yn y.runs[k] sk u w4.drew hcrun eJ.out hrk2);clear c0 c1_ c2_ c3 c4 c5 c6 c7;refine rC 8 (fun K_ hK=>?_);go_simp;refine CF.out.mono ?_;rintro e3 w5 ⟨sr,Fr,rfl,orn,nFr,b5⟩;refine hK.out _ _ (OB.below b5) (fun hHeld=>?_);clear hK K_
 (try simp only [pS])
 have pN:w4.drew.heap.size=w4.heap.size:=rfl;have nJ:=b5.size;have qM:=Fo bH.out;have CT:=Bp (Kk y (⟨B1,m1,e1⟩,⟨Ac ⟨gr,o2,Ab⟩,y.runs.length,e2⟩) k (Hf y.runs[k] u) sr w5 (F1 ++ F2) Fr HP.out.1.2.2.1 (fun s hs=>by have:=(HP.out.1.2.2.2.1 s hs).1;omega) (by have:=HP.out.1.2.1;omega) hk (by rw [Of];omega) Bk (Bu.ow_below (F:=F1 ++ F2) (x:=y) (s:=(⟨B1,m1,e1⟩,⟨Ac ⟨gr,o2,Ab⟩,y.runs.length,e2⟩)) oy b5) orn (fun x hx bF=>by have h1:=nFr x hx;have h2:=cJ x bF;omega));have HF:=Bp (show M9 y id u tr=Gr y k (Hf y.runs[k] u) by rw [H.out,HR2.out,HK.out,Ap,Ap]);clear H;refine rC 9 (fun K_ hK=>?_);go_simp;refine CT.out.mono ?_;rintro e4 w6 ⟨s5,F5,rfl,oy7,n5,c6⟩;have aC:w1.heap.size∉F1 ++ F2:=fun h=>by have:=cJ _ h;omega
 have gE:w.heap.size+1∉F1 ++ F2:=fun h=>by have:=nF _ h;omega
 have OB6:=(OB.below b5).chg c6 aC;have RES6:=(RES.below b5).chg c6 gE;have B6:Below w w w6:=(Bs B0 b5).trans (c6.below (by have:=(Bs B0 b5).size;omega) (fun x hx=>by have:=nF _ hx;omega));generalize Gr y k (Hf y.runs[k] u)=Z at *
 refine hK.out _ _ OB6 (fun hHeld=>?_);clear hK K_
 (try simp only [pS])
 have r0:=RES6.cell 0 _ rfl;have r1:=RES6.cell 1 _ rfl;have r2:=RES6.cell 2 _ rfl;have r3:=RES6.cell 3 _ rfl;have rl:=RES6.lt;have rf:=RES6.free;refine rC 10 (fun K_ hK=>?_);go_simp;have dQ:w1.heap.size≠w.heap.size+1:=Bk;refine hK.out _ _ ((((OB6.setOther (a:=⟨w.heap.size+1,_,Ab⟩) dQ _).setOther (a:=⟨w.heap.size+1,_,Ab⟩) dQ _).setOther (a:=⟨w.heap.size+1,_,Ab⟩) dQ _).setOther (a:=⟨w.heap.size+1,_,Ab⟩) dQ _) (fun hHeld=>?_);clear hK K_
 (try simp only [pS])
 refine rC 11 (fun K_ hK=>?_);go_simp;refine hK.out _ _ hHeld (fun hHeld=>?_);clear hK K_
 (try simp only [pS])
 refine Al Bl ?_ _;refine NoPanic.normal ?_;clear hHeld r0 r1 r2 r3 rf;have en5:w.heap.size+1∉F5:=fun hx=>by
  rcases n5 _ hx with h | h | h
  ·exact gE h
  ·have:=nFr _ h;omega
  ·omega
 have hZ:M9 y id u tr=Z:=HF.out;have H2:=Bp hZ;clear hZ;have Hq2:=Bp (show Iq y id u tr=0 from Hq.out);go_wp2;refine Aj (Qt (DBox.row4 RES6 rfl _ _ _ _)) rfl ⟨s5,F5,by rw [H2.out,Hq2.out],by rw [H2.out];exact (Bu.set4 (F:=F5) (x:=Z) (s:=s5) oy7 en5),fun x hx=>?_,?_⟩
 ·rcases n5 x hx with h | h | h
  ·have:=nF x h;omega
  ·have:=nFr x h;omega
  ·omega
 ·repeat (first | (with_reducible exact B6) | refine Ad ?_ Bn _)
end
theorem Gf {y:Yard} {w:World} {F Fy:List Nat} {g o n c:Nat} {R:Sl} (h:Bu.ow w F y (⟨Ac ⟨g,o,Ab⟩,n,c⟩,R)) {i:Nat} (hi:i<y.shelf.length) {l:List Entry} {t:Sl} (hl:OwL Cg w Fy t.v l) (hd:∀ x∈Fy,x∉F) :
  ∃ F',Bu.ow (w.setCell ⟨g,o+i,Ab⟩ (Aa t.a t.n t.c)) F' ⟨y.now,y.seq,y.shelf.set i l,y.runs⟩ (⟨Ac ⟨g,o,Ab⟩,n,c⟩,R)/\(∀ x∈F',x∈F\/x∈Fy)/\g∈F:=by
 obtain ⟨F1,F2,rfl,bM,os,orr⟩:=h;replace os:OwL (Dt.list Cg) w F1 (Aa (Ac ⟨g,o,Ab⟩) n c) y.shelf:=os;replace orr:OwL Co w F2 R.v y.runs:=orr;obtain ⟨F',p1,p2,p3,p4⟩:=OwL.swap os hi (y:=l) (s:=t) (Fy:=Fy) hl (fun x hx bF=>hd x hx (Be _ bF));have fZ:Io w g (o+i * (Dt.list Cg).enc.sz) ((Dt.list Cg).enc.cells (l,t))=w.setCell ⟨g,o+i,Ab⟩ (Aa t.a t.n t.c):=by
  rw [show (Dt.list Cg).enc.sz=1 from rfl,Nat.mul_one];rfl
 rw [fZ] at p1;have eQ:=(Ax.1 bM).2.2;refine ⟨F' ++ F2,⟨F',F2,rfl,?_,p1,?_⟩,fun x hx=>?_,Be _ p3⟩
 ·rw [Ax];refine ⟨p1.nodup,(Ax.1 bM).2.1,fun a ha b hb e=>?_⟩;subst e;rcases p2 a ha with h1 | h1
  ·exact eQ a h1 a hb rfl
  ·exact hd a h1 (Bd _ hb)
 ·exact orr.chg (Chg.setCell w g _ _) (fun x hx hg=>by simp only [Av] at hg;subst hg;exact eQ x p3 x hx rfl)
 ·rcases Bh.1 hx with h1 | h1
  ·rcases p2 x h1 with h2 | h2
   ·exact .inl (Be _ h2)
   ·exact .inr h2
  ·exact .inl (Bd _ h1)
theorem So {y:Yard} {w:World} {F Fy:List Nat} {g o n c:Nat} {R:Sl} (h:Bu.ow w F y (R,⟨Ac ⟨g,o,Ab⟩,n,c⟩)) {k:Nat} (hk:k<y.runs.length) {r:Run} {sr:Sl×Sl} (hr:Co.ow w Fy r sr) (hd:∀ x∈Fy,x∉F) :
  ∃ F',Bu.ow ((((((((w.setCell ⟨g,o+k * 8,Ab⟩ (J U r.id)).setCell ⟨g,o+k * 8+1,Ab⟩ (J U r.plan.prio)).setCell ⟨g,o+k * 8+2,Ab⟩ (J U r.plan.most)).setCell ⟨g,o+k * 8+3,Ab⟩ (J U r.plan.wait)).setCell ⟨g,o+k * 8+4,Ab⟩ (J U r.plan.tasks)).setCell ⟨g,o+k * 8+5,Ab⟩ (Aa sr.1.a sr.1.n sr.1.c)).setCell ⟨g,o+k * 8+6,Ab⟩ (J U r.state)).setCell ⟨g,o+k * 8+7,Ab⟩ (Aa sr.2.a sr.2.n sr.2.c)) F' ⟨y.now,y.seq,y.shelf,y.runs.set k r⟩ (R,⟨Ac ⟨g,o,Ab⟩,n,c⟩)/\(∀ x∈F',x∈F\/x∈Fy)/\g∈F:=by
 obtain ⟨F1,F2,rfl,bM,os,orr⟩:=h;replace os:OwL (Dt.list Cg) w F1 R.v y.shelf:=os;replace orr:OwL Co w F2 (Aa (Ac ⟨g,o,Ab⟩) n c) y.runs:=orr;obtain ⟨F',p1,p2,p3,p4⟩:=OwL.swap orr hk (y:=r) (s:=sr) (Fy:=Fy) hr (fun x hx bF=>hd x hx (Bd _ bF));have hC:=Fb (Co.enc.cells (r,sr)) w g (o+k * Co.enc.sz);have fZ:Io w g (o+k * Co.enc.sz) (Co.enc.cells (r,sr))=((((((((w.setCell ⟨g,o+k * 8,Ab⟩ (J U r.id)).setCell ⟨g,o+k * 8+1,Ab⟩ (J U r.plan.prio)).setCell ⟨g,o+k * 8+2,Ab⟩ (J U r.plan.most)).setCell ⟨g,o+k * 8+3,Ab⟩ (J U r.plan.wait)).setCell ⟨g,o+k * 8+4,Ab⟩ (J U r.plan.tasks)).setCell ⟨g,o+k * 8+5,Ab⟩ (Aa sr.1.a sr.1.n sr.1.c)).setCell ⟨g,o+k * 8+6,Ab⟩ (J U r.state)).setCell ⟨g,o+k * 8+7,Ab⟩ (Aa sr.2.a sr.2.n sr.2.c)):=rfl;rw [fZ] at p1 hC;have eQ:=(Ax.1 bM).2.2;refine ⟨F1 ++ F',⟨F1,F',rfl,?_,?_,p1⟩,fun x hx=>?_,Bd _ p3⟩
 ·rw [Ax];refine ⟨(Ax.1 bM).1,p1.nodup,fun a ha b hb e=>?_⟩;subst e;rcases p2 a hb with h1 | h1
  ·exact eQ a ha a h1 rfl
  ·exact hd a h1 (Be _ ha)
 ·exact os.chg hC (fun x hx hg=>by simp only [Av] at hg;subst hg;exact eQ x hx x p3 rfl)
 ·rcases Bh.1 hx with h1 | h1
  ·exact .inl (Be _ h1)
  ·rcases p2 x h1 with h2 | h2
   ·exact .inl (Bd _ h2)
   ·exact .inr h2
theorem J4 {α:Type} {p:α->Bool} {l:List α} {k:Nat} (hk:k<l.length) (h:p l[k]=true):(l.take (k+1)).filter p=(l.take k).filter p ++ [l[k]]:=by
 rw [Dc l k hk,List.filter_append];simp [h]
theorem K4 {α:Type} {p:α->Bool} {l:List α} {k:Nat} (hk:k<l.length) (h:p l[k]=false):(l.take (k+1)).filter p=(l.take k).filter p:=by
 rw [Dc l k hk,List.filter_append];simp [h]
theorem Adm {b:Nat} {w:World} {u0 u1 u2 u3:Value} (X:DBox b [u0,u1,u2,u3] w) {v0 v1 v2 v3:Value} {rest:List Value} :
  (results Tryz.f203 (v0 :: v1 :: v2 :: v3 :: .pointer (Ac ⟨b,0,Ab⟩) :: rest).toArray).run An w = .ok (.agg #[u0,u1,u2,u3]) w:=by
 have c0:=X.cell 0 _ rfl;have c1:=X.cell 1 _ rfl;have c2:=X.cell 2 _ rfl;have c3:=X.cell 3 _ rfl;simp [results,Tryz.results203,go_sem,c0,c1,c2,c3]
theorem O3 (y:Yard) (s:Sl×Sl) (i:Nat) (w:World) (hi:i<y.shelf.length) (hl:Ci y<=2000000) (h:Bu.rd w w y s) :
  Calls An 203 #[Du y s,.int .i64 i] w (Fc Bu Du (By y i) w):=by
 have HR:=Bp (show ∀ W,Below w w W->Bu.rd W W y s from fun W hW=>Bu.rd_more (Bu.rd_below h hW) hW.size);obtain ⟨⟨A1,n1,c1⟩,⟨A2,n2,c2⟩⟩:=s;obtain rfl:n1=y.shelf.length:=RdL.at1 (s:=⟨A1,n1,c1⟩) h.1;have CC:=Bp (fun W hW=>Er y (⟨A1,y.shelf.length,c1⟩,⟨A2,n2,c2⟩) W hl (HR.out W hW));have CF:=Bp (fun W hW e=>Ot y (⟨A1,y.shelf.length,c1⟩,⟨A2,n2,c2⟩) e W hl (HR.out W hW));have hS:=Bp (show ∀ W,Below w w W->RdL (Dt.list Cg) W W (.slice A1 y.shelf.length c1) y.shelf from fun W hW=>(HR.out W hW).1);have mZ:y.shelf[i].length<=2000000:=by
  have h1:=Fk (cnt:=De) (Aw hi);have h2:y.shelf[i].length<=De y.shelf[i]:=Ct _ _;unfold Ci at hl;omega
 have hshl:y.shelf.length<=2000000:=Ah (Ct De _) (by unfold Ci at hl;omega);obtain ⟨i0,aL,aR,aS,aP⟩:=info_parts Fw;clear h hl HR;have hiI:(i:Int)<(y.shelf.length:Int):=Bk;have hi00:(0:Int)<=(i:Int):=Bk;obtain ⟨W,aH,X,RES,B0⟩:=bx2 w 31 [.int .i64 y.now,.int .i64 y.seq,.slice A1 y.shelf.length c1,.slice A2 n2 c2] 31 [.int .i64 0,.int .i64 0,.slice Ab 0 0,.slice Ab 0 0];go_enter Tryz.func203,Tryz.ntmps203;go_wp2_with fail
 rw [<-aH.out];clear aH;refine (CC.out _ B0).mono ?_;rintro e1 w1 ⟨⟨⟨B1,m1,e1⟩,⟨B2,m2,e2⟩⟩,F,rfl,oy,nF,b1⟩;have kL:=X.lt;have jQ:=RES.lt;replace X:=X.below b1;replace RES:=RES.below b1;replace B0:=Bs B0 b1;have cJ:=Bu.ow_lt (F:=F) (x:=y) (s:=(⟨B1,m1,e1⟩,⟨B2,m2,e2⟩)) oy;have bL:=b1.size;clear b1;go_upto_region 2 with fail
 have OB:=DBox.new 31 [.int .i64 y.now,.int .i64 y.seq,.slice B1 m1 e1,.slice B2 m2 e2] w1 (b:=w1.heap.size) rfl;have b2:Below w1 w1 (w1.alloc (.cells #[.int .i64 y.now,.int .i64 y.seq,.slice B1 m1 e1,.slice B2 m2 e2] 31)):=(Bq _ _).alloc (Br _) _;replace B0:=Bs B0 b2;replace X:=X.below b2;replace RES:=RES.below b2;replace oy:=Bu.ow_below (F:=F) (x:=y) (s:=(⟨B1,m1,e1⟩,⟨B2,m2,e2⟩)) oy b2;have cI:=b2.size;have ow1:=OB.lt;generalize w1.alloc (.cells #[.int .i64 y.now,.int .i64 y.seq,.slice B1 m1 e1,.slice B2 m2 e2] 31)=w2 at *
 have X_:=X.g4;have wr1:U.wrap ((y.shelf.length:Int) - 1)=(y.shelf.length:Int) - 1:=Ar _ Bk;have q:inB (i:Int) 0 ((y.shelf.length:Int) - 1)=true:=Cp.2 Bk;clear b2 CC;have q0:Below w2 w2 (w2.alloc (.cells #[] 93)):=(Bq _ _).alloc (Br _) _;go_wp2_with (go_at_call 155;refine (Cf _ _ _ _).mono ?_;rintro e w9 ⟨rfl,rfl⟩;rw [q])
 clear X_;have rW:=B0.size;have o0:=Ow.empty Cu 93 w2 rfl;go_loopw [6,7] (fun v j wr=>∃ k:Nat,k<=y.shelf[i].length/\j = .int .i64 k/\Hid (Ow Cu 93 wr w2 v ((y.shelf[i].take k).filter fun e=>Dx y e))/\Below w2 w2 wr) (fun _ j _=>y.shelf[i].length - (intOf j).toNat);case atStart=>exact ⟨0,Ag _,rfl,o0,q0⟩
 case round =>
  clear o0 q0;obtain ⟨k,hk,rfl,hO,hb⟩:=hrel;replace X:=X.below hb;have hB:=Bs B0 hb;have eM:=hb.size;obtain ⟨g,o,⟨a9,n9,c9⟩,rfl,fY,hr9,ck⟩:=(hS.out w2 B0).entryS hi;replace hr9:RdL Cg w2 w2 (.slice a9 n9 c9) y.shelf[i]:=hr9;obtain rfl:n9=y.shelf[i].length:=RdL.at1 (s:=⟨a9,n9,c9⟩) hr9;replace ck:=(hb.cell (p:=⟨g,_,Ab⟩) fY).trans ck;have gV:g<wr:=Bk;have X_:=X.g4;by_cases aA:k<y.shelf[i].length
  ·have aB:(k:Int)<(y.shelf[i].length:Int):=Bk;have cS:(0:Int)<=(k:Int):=Bk;obtain ⟨g2,o2,_,rfl,gS,_,d0,d1,d2,d3⟩:=hr9.entry aA;replace d0:=(hb.cell (p:=⟨g2,_,Ab⟩) gS).trans d0;replace d1:=(hb.cell (p:=⟨g2,_,Ab⟩) gS).trans d1;replace d2:=(hb.cell (p:=⟨g2,_,Ab⟩) gS).trans d2;replace d3:=(hb.cell (p:=⟨g2,_,Ab⟩) gS).trans d3;have jI:g2<wr:=Bk;have aJ:=Cy wr;have Hl:=Bp (show ((y.shelf[i].take k).filter fun e=>Dx y e).length<=3000000 by have h1:=List.length_filter_le (fun e=>Dx y e) (y.shelf[i].take k);rw [Az] at h1;omega);cases qf:Dx y y.shelf[i][k]
   ·have S:=Bp (K4 (p:=fun e=>Dx y e) aA qf);have qF:=Bp qf;clear qf;go_wp2;refine Bv Bl Bl ?_;repeat (go_big_quiet_step ((go_at_call 87;rename_i x;have h1:=CF.out x.1 (Bs hB x.2) y.shelf[i][k];rw [qF.out] at h1;exact Ea h1)))
    refine wpQuiet_nil ?_;rintro w3 ⟨⟨_,b3⟩,rfl⟩;clear aJ;go_wp2;exact ⟨⟨k+1,Bk,by go_num,by rw [S.out];exact hO.out.below b3,Bs hb b3⟩,by simp [intOf];omega⟩
   ·have S:=Bp (J4 (p:=fun e=>Dx y e) aA qf);have qF:=Bp qf;clear qf;go_wp2;refine Bv Bl Bl ?_;repeat (go_big_quiet_step ((go_at_call 87;rename_i x;have h1:=CF.out x.1 (Bs hB x.2) y.shelf[i][k];rw [qF.out] at h1;exact Ea h1)))
    refine wpQuiet_nil ?_;rintro w3 ⟨⟨_,b3⟩,rfl⟩;clear aJ;have bY:=Bs hb b3;have eV:=hO.out.below b3;clear X_;replace X:=X.below b3;have X_:=X.g4;replace ck:=(b3.cell (p:=⟨g,_,Ab⟩) gV).trans ck;replace d0:=(b3.cell (p:=⟨g2,_,Ab⟩) jI).trans d0;replace d1:=(b3.cell (p:=⟨g2,_,Ab⟩) jI).trans d1;replace d2:=(b3.cell (p:=⟨g2,_,Ab⟩) jI).trans d2;replace d3:=(b3.cell (p:=⟨g2,_,Ab⟩) jI).trans d3;have fV:=b3.size;have hgw3:g<w3:=Bk;have hg2w3:g2<w3:=Bk;generalize y.shelf[i][k]=e9 at *
    have ha:Hid (∀ w:World,Below w w (w.alloc (.cells #[.int .i64 e9.prio,.int .i64 e9.seq,.int .i64 e9.run,.int .i64 e9.task] 93))):=fun w=>(Bq _ _).alloc (Br _) _;go_wp2_with (at_builtin;go_loud (refine Bz _ Cu Bo rfl (.tmp 39) (.tmp 48) rfl Tryz.underlying96 aL aR aS aP rfl (base:=w2.heap.size) (l:=(y.shelf[i].take k).filter fun e=>Dx y e) rfl (eV.below (ha.out w3)) rfl (Rd.one Cu _ _ e9 rfl rfl 1 (Br _) (Nat.lt_succ_self _)) Hl.out Bm Bo (by simp;omega) ?_);intro v5 w5 o5 g5 _)
    have eE:Below w2 w2 w5:=(Bs bY (ha.out w3)).grown g5 (Bs bY (ha.out w3)).size (fun g hg=>by have:=eV.within _ hg;omega);exact ⟨⟨k+1,Bk,by go_num,by rw [S.out];exact o5,eE⟩,by simp [intOf];omega⟩
  ·have aB:¬ (k:Int)<(y.shelf[i].length:Int):=Bk;have dJ:=hO.out;rw [Bf Bk] at dJ;obtain ⟨⟨a8,n8,c8⟩,F9,rfl,o9,nF9⟩:=Ha dJ;have oy3:=Bu.ow_below (F:=F) (x:=y) (s:=(⟨B1,m1,e1⟩,⟨B2,m2,e2⟩)) oy hb;replace OB:=OB.below hb;replace RES:=RES.below hb;have H:Hid (By y i=⟨y.now,y.seq,y.shelf.set i (y.shelf[i].filter fun e=>Dx y e),y.runs⟩):=by
    show By y i=_;unfold By;rw [Es hi]
   generalize (y.shelf[i].filter fun e=>Dx y e)=L at *
   clear hO dJ;obtain ⟨g1,o1,s1,rfl,pJ,_,_⟩:=(RdL.entryS (show RdL (Dt.list Cg) wr wr.heap.size (.slice B1 m1 e1) y.shelf from (Bu.ow_rd oy3).1) hi)
   obtain rfl:m1=y.shelf.length:=RdL.at1 (s:=⟨Ac ⟨g1,o1,Ab⟩,m1,e1⟩) (Bu.ow_rd oy3).1;obtain ⟨F',p1,p2,p3⟩:=Gf oy3 hi (l:=L) (t:=⟨a8,n8,c8⟩) o9 (fun x hx bF=>by have h1:=nF9 x hx;have h2:=cJ x bF;omega);obtain ⟨F1,F2,jE,_,os,_⟩:=oy3;have pV:=OwL.free0 (show OwL (Dt.list Cg) wr F1 (.slice (Ac ⟨g1,o1,Ab⟩) y.shelf.length e1) y.shelf from os) Bk;have hg1F:=cJ g1 p3;have hg1n:=nF g1 p3;have OB_:=OB.g4;have RES_:=RES.g4;have rf:=RES.free;obtain ⟨_,_,_,bX,_,_,ckk⟩:=(RdL.entryS (show RdL (Dt.list Cg) wr wr.heap.size (.slice (Ac ⟨g1,o1,Ab⟩) y.shelf.length e1) y.shelf from os.rd) hi)
   simp only [Option.some.injEq,Addr.mk.injEq,and_true] at bX;obtain ⟨rfl,rfl⟩:=bX;have B8:Below w w (wr.setCell ⟨g1,o1+i,Ab⟩ (.slice a8 n8 c8)):=by
    repeat (first | (with_reducible exact hB) | refine Ad ?_ Bn _)
   go_upto_region 11 with fail
   clear X_;clear OB_;clear RES_;clear X ck;replace OB:=OB.setOther (a:=⟨g1,o1+i,Ab⟩) (by show w1.heap.size≠g1;omega) (.slice a8 n8 c8);replace RES:=RES.setOther (a:=⟨g1,o1+i,Ab⟩) (by show w.heap.size+1≠g1;omega) (.slice a8 n8 c8);generalize wr.setCell ⟨g1,o1+i,Ab⟩ (.slice a8 n8 c8)=w8 at *
   have OB_:=OB.g4;have RES_:=RES.g4;have rf:=RES.free;go_wp2;have en1:w.heap.size+1∉F':=fun hx=>by
    rcases p2 _ hx with h | h
    ·have:=nF _ h;omega
    ·have:=nF9 _ h;omega
   refine Aj (Adm (DBox.row4 RES rfl _ _ _ _)) rfl ⟨(⟨Ac ⟨g1,o1,Ab⟩,y.shelf.length,e1⟩,⟨B2,m2,e2⟩),F',by rw [H.out],by rw [H.out];exact (by (repeat (refine Dt.ow_set Bu ?_ en1 _));exact p1),fun x hx=>?_,?_⟩
   ·rcases p2 x hx with h | h
    ·have:=nF x h;omega
    ·have:=nF9 x h;omega
   ·repeat (first | (with_reducible exact B8) | refine Ad ?_ Bn _)
theorem Foc.atRun {w:World} {gr o n c k:Nat} {rs:List (Run×Co.S)} {G1 Fx G2:List Nat} {r:Run} {s:Sl×Sl} (h:Foc Co w gr o n c rs k G1 Fx G2 r s) (hp:0<r.tasks.length) :
  ∃ F1 b o2 c2,Fx=F1 ++ [b]/\Fx.Nodup/\s.2=⟨Ac ⟨b,o2,Ab⟩,r.tasks.length,c2⟩/\Cm.ow w F1 r.plan s.1/\Hw G4 w [b] (Aa (Ac ⟨b,o2,Ab⟩) r.tasks.length c2) r.tasks/\gr≠b/\b∉F1:=by
 obtain ⟨F1,F2,mW,bM,op,ot⟩:=h.here;obtain ⟨s1,⟨A,m,c2⟩⟩:=s;have ot:OwL Eo w F2 (Aa A m c2) r.tasks:=ot;obtain rfl:m=r.tasks.length:=RdL.at1 (s:=⟨A,m,c2⟩) ot.rd;have oh:=N7 ot;obtain ⟨b,o2,rfl,_⟩:=oh.rd.tsk hp;obtain ⟨rfl,_,_⟩:=oh.block hp;refine ⟨F1,b,o2,c2,mW,bM,rfl,op,oh,fun e=>h.apart.1.2.1 (by rw [mW,e];simp),fun hx=>?_⟩;rw [mW] at bM;exact (Ax.1 bM).2.2 b hx b Bm rfl
theorem Rq:(An.info? 3).map (fun i=>(i.zero,i.size,i.bytes))=Ac (Ac (J U 0),1,8):=Bl
def El (n lo hi:Int):Int:=if n<lo then lo else if n > hi then hi else n
theorem J5 (n lo hi:Int) (w:World) (h:lo<=hi):Calls An 222 #[J U n,J U lo,J U hi] w fun e w'=>e = .returned (J U (El n lo hi))/\w=w':=by
 by_cases h1:n<lo
 ·have H:=Bp (show El n lo hi=lo from if_pos h1);go_enter Tryz.func222,Tryz.ntmps222;go_wp2;go_ret;exact ⟨Dg H.out.symm,rfl⟩
 ·by_cases h2:n > hi
  ·have H:=Bp (show El n lo hi=hi by unfold El;rw [if_neg h1,if_pos h2]);have h2':hi<n:=h2;go_enter Tryz.func222,Tryz.ntmps222;go_wp2;go_ret;exact ⟨Dg H.out.symm,rfl⟩
  ·have H:=Bp (show El n lo hi=n by unfold El;rw [if_neg h1,if_neg h2]);have h2':¬ hi<n:=h2;go_enter Tryz.func222,Tryz.ntmps222;go_wp2;go_ret;exact ⟨Dg H.out.symm,rfl⟩
def Jd (home:Nat):List Nat:=(List.range 3).map fun i=>(home+(i+1)) % 4
theorem Yp {home k:Nat} (h:k<3):(Jd home).take (k+1)=(Jd home).take k ++ [(home+(k+1)) % 4]:=by
 rcases (show k=0\/k=1\/k=2 by omega) with rfl | rfl | rfl<;>rfl
theorem Abs {home d:Nat} : Dz home d=(Jd home).drop (d % 3) ++ (Jd home).take (d % 3):=by
 have h1:(max (d:Int) 0 % 3).toNat=d % 3:=Bk;unfold Dz;rw [h1,Ap];have h2:=Nat.mod_lt d (show 0<3 by decide);generalize d % 3=k at *
 rcases (show k=0\/k=1\/k=2 by omega) with rfl | rfl | rfl<;>rfl
theorem To (home d:Nat) (w:World) (hh:home<4) (hd:d<=1000000000) :
  Calls An 204 #[.int .i64 (home:Int),.int .i64 (d:Int)] w fun e w'=>∃ v,e = .returned v/\Ow Em 3 w' w v (Dz home d)/\Below w w w':=by
 obtain ⟨j0,bS,jz0,jz1,jz2⟩:=info_parts Rq;have CB:=Bp (fun W=>J5 (home:Int) 0 3 W Bo);have hI:¬ (d:Int)<0:=Bk;have hbr:El (home:Int) 0 3=(home:Int):=by unfold El;split<;>(try split)<;>omega
 rw [hbr] at CB;have q0:Below w w (w.alloc (.cells #[] 3)):=(Bq _ _).alloc (Br _) _;go_enter Tryz.func204,Tryz.ntmps204;go_wp2_with (go_at_call 222;refine (CB.out _).mono ?_;rintro e w1 ⟨rfl,rfl⟩)
 have o0:=Ow.empty Em 3 w rfl;go_loopw [5,6] (fun v j wr=>∃ k:Nat,k<=3/\j = .int .i64 ((k:Int)+1)/\Hid (Ow Em 3 wr w v ((Jd home).take k))/\Below w w wr) (fun _ j _=>4 - (intOf j).toNat);case atStart=>exact ⟨0,Ag _,rfl,o0,q0⟩
 case round =>
  clear o0 q0;obtain ⟨k,hk,rfl,hO,hb⟩:=hrel;by_cases aA:k<3
  ·have aB:(k:Int)+1<4:=Bk;have S:=Bp (Yp (home:=home) aA);have wA:U.wrap ((home:Int)+((k:Int)+1))=(home:Int)+((k:Int)+1):=Ar _ Bk;have rA:((home:Int)+((k:Int)+1)).tmod 4=(((home+(k+1)) % 4:Nat):Int):=by
    rw [Int.tmod_eq_emod_of_nonneg Bk];omega
   have wB:U.wrap (((home+(k+1)) % 4:Nat):Int)=(((home+(k+1)) % 4:Nat):Int):=Ar _ Bk;have Hl:=Bp (show ((Jd home).take k).length<=3000000 by rw [Az];omega);generalize (home+(k+1)) % 4=x at *
   have ha:Hid (∀ w:World,Below w w (w.alloc (.cells #[.int .i64 (x:Int)] 3))):=fun w=>(Bq _ _).alloc (Br _) _;have dJ:=hO.out;have eM:=hb.size;go_wp2_with (at_builtin;refine Bz _ Em Bo rfl (.tmp 17) (.tmp 22) rfl Tryz.underlying26 bS jz0 jz1 jz2 rfl (base:=w.heap.size) (l:=(Jd home).take k) rfl (dJ.below (ha.out wr)) rfl (Rd.one Em _ _ x rfl rfl 1 (Br _) (Nat.lt_succ_self _)) Hl.out Bm Bo (by simp;omega) ?_;intro v5 w5 o5 g5 _)
   have eE:Below w w w5:=(Bs hb (ha.out wr)).grown g5 (Bs hb (ha.out wr)).size (fun g hg=>by have:=dJ.within _ hg;omega);exact ⟨⟨k+1,Bk,by go_num,by rw [S.out];exact o5,eE⟩,by simp [intOf];omega⟩
  ·have aB:¬ (k:Int)+1<4:=Bk;have hk3:k=3:=Bk;subst hk3;have dJ:=hO.out;rw [show (Jd home).take 3=Jd home from rfl] at dJ;clear hO;have HV:=Bp (Abs (home:=home) (d:=d));obtain ⟨-,h2⟩ | ⟨g,cap,rfl,h1,h2,h3,h4,h5,h6⟩:=dJ.form
   ·cases h2
   have qE:=Rd.of_own dJ;replace h3:=qE.cap;have h3':3<=cap:=h3;have hm3:=Nat.mod_lt d (show 0<3 by decide);have rA:(d:Int).tmod 3=((d % 3:Nat):Int):=by
    rw [Int.tmod_eq_emod_of_nonneg Bk];omega
   have wB:U.wrap ((d % 3:Nat):Int)=((d % 3:Nat):Int):=Ar _ Bk;have pA:(Jd home).length=3:=rfl;generalize d % 3=m at *
   generalize Jd home=L at *
   rw [pA] at qE;have a0:=Bp (show ∀ W,Below wr wr W->Rd Em W wr (.slice (Ac ⟨g,m,Ab⟩) (3 - m) (cap - m)) (L.drop m) from fun W hW=>by have:=(qE.fromL m Bk).below hW;rw [pA,show 0+m * Em.sz=m from by show 0+m * 1=m;omega] at this;exact this);have a1:=Bp (show ∀ W,Below wr wr W->Rd Em W wr (.slice (Ac ⟨g,0,Ab⟩) m cap) (L.take m) from fun W hW=>(qE.take Bk cap Bk).below hW);have jD:(m:Int)<=3:=Bk;have rN:(0:Int)<=(m:Int):=Bk;have hmc:m<cap:=Bk;have hmc2:¬ cap=m:=Bk;have hmc3:m<=cap:=Bk;have hmcI:(m:Int)<=(cap:Int):=Bk;have cH:=Bp (show (L.drop m).length<=3000000 by simp;omega);have aX:=Bp (show (L.take m).length<=3000000 by simp;omega);rw [pA];have eM:=hb.size;go_wp2;refine Go.wp_region_noPanic ?_;refine wp_region_held_drew (S:=fun _=>True) Bl trivial (fun hHeld=>?_);have B1:Below wr wr wr.drew:=(Bq _ _).drew;generalize wr.drew=w1 at *
   refine tY 1 ?_
   (try simp only [pS])
   refine tY 2 ?_
   (try simp only [pS])
   refine tY 3 ?_
   (try simp only [pS])
   refine tY 5 ?_
   (try simp only [pS])
   refine tY 6 ?_
   (try simp only [pS])
   refine tY 7 ?_
   (try simp only [pS])
   refine rC 0 (fun K_ hK=>?_);go_simp;have bb:Below w1 w1 (w1.alloc (.cells #[] 3)):=(Bq _ _).alloc (Br _) _;have o9:Ow Em 3 (w1.alloc (.cells #[] 3)) w (.slice (Ac ⟨w1,0,Ab⟩) 0 0) []:=(Ow.empty Em 3 w1 rfl).more (by have:=B1.size;omega);have Ba:=Bs B1 bb;have y9:=B1.size;generalize w1.heap.size=g9 at *
   generalize w1.alloc (.cells #[] 3)=w1a at *
   refine hK.out _ _ trivial (fun hHeld=>?_);clear hK K_
   (try simp only [pS])
   refine rC 4 (fun K_ hK=>?_);refine Ep _ Em Bo (.tmp 28) (.tmp 31) 26 rfl w.heap.size 3 _ _ _ Tryz.underlying26 bS jz0 jz1 jz2 rfl _ [] rfl o9 _ _ _ _ (L.drop m) rfl (a0.out _ Ba) Bm cH.out Bo (by have:=Ba.size;omega) ?_;intro v13 w1b o13 gg e13;rw [List.nil_append] at o13;have Bb:Below wr wr w1b:=Ba.grown gg Ba.size (fun g hg=>by have:=Option.some.inj (show Ac g9=Ac g from hg);omega);clear gg;refine hK.out _ _ trivial (fun hHeld=>?_);clear hK K_
   (try simp only [pS])
   refine rC 8 (fun K_ hK=>?_);refine Ep _ Em Bo (.tmp 32) (.tmp 35) 26 rfl w.heap.size 3 _ _ _ Tryz.underlying26 bS jz0 jz1 jz2 rfl _ (L.drop m) rfl o13 _ _ _ _ (L.take m) rfl (a1.out _ Bb) cH.out aX.out Bo (by have:=Bb.size;omega) ?_;intro v14 w1c o14 gg e14;have Bc:Below w w w1c:=(Bs hb Bb).grown gg (Bs hb Bb).size (fun g hg=>(o13.within g hg).1);clear gg;refine hK.out _ _ trivial (fun hHeld=>?_);clear hK K_
   (try simp only [pS])
   refine rC 9 (fun K_ hK=>?_);go_simp;refine hK.out _ _ trivial (fun hHeld=>?_);clear hK K_
   (try simp only [pS])
   refine Al Bl ?_ _;refine NoPanic.normal ?_;go_wp2;go_ret;exact ⟨_,rfl,by rw [HV.out];exact o14,Bc⟩
end Go.Proofs.YtonlnjdempbfoaaGreat
