/-
  Forget of the program. Written by program (ifo.py). Tick of the program. Restart of the program. A deed is drawn (l16Deed). Written by program (kzg.py). What a 
-/
import Derived.Test.YtecnbnbopcblgaaGreatZVw9
import Derived.Test.YtecnbnbopcblgaaGreatZVw13
import Derived.Test.YtecnbnbopcblgaaGreatZVw14
import Derived.Test.YtecnbnbopcblgaaGreatZVw15
namespace Go.Proofs.YtecnbnbopcblgaaGreat
open Go.RowKit
set_option maxRecDepth 100000
set_option maxHeartbeats 4000000
set_option linter.unusedVariables false
set_option linter.unusedSimpArgs false
open Value renaming int->J,slice->Aa
open IntKind renaming i64->Ab
open Option renaming none->Ac,some->Ad
open Below renaming setCell->Ae
open Nat renaming zero_le->Ah,le_trans->Ai,lt_of_lt_of_le->Aj
open Go renaming bodyPost_ret->Ak
open Go.Proofs.Tryz renaming prog->An
open Int renaming toNat_natCast->Ap
open IntWalk renaming i64_in->Ar
open List renaming length_map->Au,mem_singleton->Aw,getElem_mem->Ax,nodup_append->Ay,length_append->Bd,mem_append_right->Be,take_of_length_le->Bg,length_set->Bh,mem_append->Bi
open Go.Proofs.Tryz
theorem BldG.cut {α:Type} {d:Dt α} {E:TypeId} {w w':World} {base g:Nat} {v v':Value} {rs:List (α×d.S)} {G:List Nat} (h:BldG d E w base v rs G) {k:Nat} (hk:k<rs.length) (ho:Ow d.enc E w' base v' (rs.take k ++ rs.drop (k+1))) (hC:Chg [g] w w') (hv:v.ownBlock=Ad g) (mT:v'.ownBlock=Ad g) :
  ∃ G',BldG d E w' base v' (rs.take k ++ rs.drop (k+1)) G' /\ ∀ x∈G',x∈G:=by
 obtain ⟨h1,h2,h3,h4⟩:=h;obtain ⟨Ga,G2,rfl,hGa,sE⟩:=h2.split k (Nat.le_of_lt hk);rw [List.drop_eq_getElem_cons hk] at sE;obtain ⟨Gx,Gc,rfl,_,hGc⟩:=sE.head;have cV:∀ x∈Ga ++ Gc,x∈Ga ++ (Gx ++ Gc):=fun x hx=>by
  rcases Bi.1 hx with h | h
  ·exact List.mem_append_left _ h
  ·exact Be _ (Be _ h)
 refine ⟨Ga ++ Gc,⟨ho,(hGa.append hGc).chg hC (fun b hb hx=>(h4 b (cV b hb)).2 (by rw [Aw.1 hx];exact hv)),?_,fun b hb=>⟨(h4 b (cV b hb)).1,fun e=>(h4 b (cV b hb)).2 (by rw [hv,<-e,mT])⟩⟩,cV⟩;rw [Ay] at h3 ⊢;exact ⟨h3.1,(Ay.1 h3.2.1).2.1,fun a ha b hb=>h3.2.2 a ha b (Be _ hb)⟩
theorem M0 {b:Nat} {w:World} {u0 u1 u2 u3:Value} (X:DBox b [u0,u1,u2,u3] w) {v0 v1 v2 v3 v5:Value} {rest:List Value} :
  (results Tryz.f137 (v0 :: v1 :: v2 :: v3 :: .pointer (Ad ⟨b,0,Ac⟩) :: v5 :: rest).toArray).run An w = .ok (.tuple #[.agg #[u0,u1,u2,u3],v5]) w:=by
 have c0:=X.cell 0 _ rfl;have c1:=X.cell 1 _ rfl;have c2:=X.cell 2 _ rfl;have c3:=X.cell 3 _ rfl;simp [results,results137,go_sem,c0,c1,c2,c3]
theorem X0 (y:Yard) (s:Sl×Sl) (id:Int) (w:World) (hl:Cf y<=2000000) (h:Bu.rd w w y s) :
  Calls An 137 #[Dh y s,J Ab id] w (I7 (Im y id) (Iv y id) w):=by
 have HR:=Bq (show ∀ W,Below w w W->Bu.rd W W y s from fun W hW=>Bu.rd_more (Bu.rd_below h hW) hW.size);obtain ⟨⟨A1,n1,c1⟩,⟨A2,n2,c2⟩⟩:=s;have CC:=Bq (fun W hW=>K2 y (⟨A1,n1,c1⟩,⟨A2,n2,c2⟩) W hl (HR.out W hW));have CY:=Bq (fun W hW=>G8 y (⟨A1,n1,c1⟩,⟨A2,n2,c2⟩) W hl (HR.out W hW));have CA:=Bq (fun W hW=>Ep y (⟨A1,n1,c1⟩,⟨A2,n2,c2⟩) id W hl (HR.out W hW));have CX:=Bq (fun W hW=>show RdL Cn W W.heap.size (Aa A2 n2 c2) y.runs from (HR.out W hW).2);clear h HR;obtain ⟨W,aG,X,I,RES,B0⟩:=bx3 w 31 [J Ab y.now,J Ab y.seq,Aa A1 n1 c1,Aa A2 n2 c2] 3 [J Ab id] 31 [J Ab 0,J Ab 0,Aa Ac 0 0,Aa Ac 0 0];go_enter func137,ntmps137;go_wp2_with fail
 rw [<-aG.out];clear aG;have dL:w.heap.size+1+1<W.heap.size:=RES.lt;refine (CC.out _ B0).mono ?_;rintro e1 w1 ⟨⟨B1,m1,e1⟩,⟨B2,m2,e2⟩,F1,base,rfl,oS,eL,aS,cJ,oR,b1⟩;have bG:=b1.size;replace X:=X.below b1;replace I:=I.below b1;replace RES:=RES.below b1;replace B0:=Bv B0 b1;clear b1;obtain ⟨rs,cS,G0,oR⟩:=oR;have hm:=Bq cS;clear cS;replace oR:BldG Cn 67 w1 base (Aa B2 m2 e2) rs G0:=oR;have uA:=oR.2.1.lt;have qB:∀ g,(Value.slice B2 m2 e2).ownBlock=Ad g->g≠w1.heap.size:=fun g hg h=>by
  have:=(oR.1.within g hg).2
  omega
 obtain ⟨F,oy,nF⟩:∃ F,Bu.ow w1 F y (⟨B1,m1,e1⟩,⟨B2,m2,e2⟩) /\ ∀ x∈F,W<=x:=by
  have hB:Bld Cn 67 w1 base (Aa B2 m2 e2) rs:=⟨G0,oR⟩
  replace hm:=hm.out;obtain ⟨F2,h5,h6⟩:=hB.owl hm;refine ⟨F1 ++ F2,⟨F1,F2,rfl,?_,oS,h5⟩,fun b hb=>?_⟩
  ·rw [Ay];refine ⟨oS.nodup,h5.nodup,fun u hu u' hu' e=>?_⟩
   have:=eL u hu
   have:=h6 u' hu'
   omega
  ·rcases Bi.1 hb with hb | hb
   ·exact (eL b hb).1
   ·have:=h6 b hb;omega
 go_upto_region 2 with fail
 have OB:=DBox.new 31 [J Ab y.now,J Ab y.seq,Aa B1 m1 e1,Aa B2 m2 e2] w1 (b:=w1) rfl;have b2:Below w1 w1 (w1.alloc (.cells #[J Ab y.now,J Ab y.seq,Aa B1 m1 e1,Aa B2 m2 e2] 31)):=Bt;replace X:=X.below b2;replace I:=I.below b2;replace RES:=RES.below b2;replace oy:=Bu.ow_below (F:=F) (x:=y) (s:=(⟨B1,m1,e1⟩,⟨B2,m2,e2⟩)) oy b2;replace oS:=oS.below b2;replace oR:=oR.below b2;replace B0:=Bv B0 b2;have ow1:=OB.lt;have hbob:base<=w1.heap.size:=cJ;replace cJ:=Ai cJ b2.size;clear b2;generalize w1.alloc (.cells #[J Ab y.now,J Ab y.seq,Aa B1 m1 e1,Aa B2 m2 e2] 31)=w2 at *
 generalize cR:w1.heap.size=ob at *
 have X_:=X.g4;obtain ⟨I_0,I_l⟩:=I.g1;obtain ⟨OB_0,OB_1,OB_2,OB_3,OB_l⟩:=OB.g4;go_wp2_with fail
 refine (CA.out _ B0).mono ?_;rintro e1 w3 ⟨rfl,b3⟩;clear X_;clear I_0 I_l;clear OB_0 OB_1 OB_2 OB_3 OB_l;replace X:=X.below b3;replace I:=I.below b3;replace OB:=OB.below b3;replace RES:=RES.below b3;replace oy:Bu.ow w3 F y (⟨B1,m1,e1⟩,⟨B2,m2,e2⟩):=owB oy b3;replace oS:=oS.below b3;replace oR:=oR.below b3;replace B0:=Bv B0 b3;replace cJ:=Ai cJ b3.size;clear b3;have X_:=X.g4;obtain ⟨I_0,I_l⟩:=I.g1;obtain ⟨OB_0,OB_1,OB_2,OB_3,OB_l⟩:=OB.g4;go_wp2_with fail
 refine (CY.out _ B0).mono ?_;rintro e1 w4 ⟨rfl,b4⟩;clear X_;clear I_0 I_l;clear OB_0 OB_1 OB_2 OB_3 OB_l;replace X:=X.below b4;replace I:=I.below b4;replace OB:=OB.below b4;replace RES:=RES.below b4;replace oy:Bu.ow w4 F y (⟨B1,m1,e1⟩,⟨B2,m2,e2⟩):=owB oy b4;replace oS:=oS.below b4;replace oR:=oR.below b4;replace B0:=Bv B0 b4;replace cJ:=Ai cJ b4.size;clear b4;have X_:=X.g4;obtain ⟨I_0,I_l⟩:=I.g1;obtain ⟨OB_0,OB_1,OB_2,OB_3,OB_l⟩:=OB.g4;by_cases p0:Dn y;case neg =>
  rw [Cm p0];have H:=Bq (show Iv y id=8 by unfold Iv;rw [if_pos p0]);have H2:=Bq (show Im y id=y by unfold Im;rw [H.out,if_neg Bp]);have RES_:=RES.g4;have rf:=RES.free;go_wp2;have en1:w.heap.size+1+1∉F:=fun hx=>by have:=nF _ hx;omega
  refine Ak (M0 (DBox.row4 RES rfl _ _ _ _)) rfl ⟨(⟨B1,m1,e1⟩,⟨B2,m2,e2⟩),F,by rw [H.out,H2.out],by rw [H2.out];exact (by (repeat (refine Dt.ow_set Bu ?_ en1 _));exact (show Bu.ow _ F y (⟨B1,m1,e1⟩,⟨B2,m2,e2⟩) from oy)),fun x hx=>by have:=nF x hx;omega,?_⟩;repeat (first | (with_reducible exact B0) | refine Ae ?_ Bo _)
 rw [Ds p0];have P0:=Bq p0;clear p0;by_cases p1:Db y id<0;case pos =>
  have H:=Bq (show Iv y id=10 by unfold Iv;rw [if_neg (fun h=>h P0.out),if_pos p1]);have H2:=Bq (show Im y id=y by unfold Im;rw [H.out,if_neg Bp]);have RES_:=RES.g4;have rf:=RES.free;go_wp2;have en1:w.heap.size+1+1∉F:=fun hx=>by have:=nF _ hx;omega
  refine Ak (M0 (DBox.row4 RES rfl _ _ _ _)) rfl ⟨(⟨B1,m1,e1⟩,⟨B2,m2,e2⟩),F,by rw [H.out,H2.out],by rw [H2.out];exact (by (repeat (refine Dt.ow_set Bu ?_ en1 _));exact (show Bu.ow _ F y (⟨B1,m1,e1⟩,⟨B2,m2,e2⟩) from oy)),fun x hx=>by have:=nF x hx;omega,?_⟩;repeat (first | (with_reducible exact B0) | refine Ae ?_ Bo _)
 rcases Ek y id with hr | ⟨k,hk,hr⟩
 ·exact absurd hr Bl
 have HK:=Bq (Ey hk hr);have HR2:=Bq hr;rw [hr];clear hr p1;have P1:=Bq (show ¬ Db y id<0 by have:=HR2.out;omega);have gJ:(k:Int)<(n2:Int):=by have:=RdL.at1 (s:=⟨A2,n2,c2⟩) (CX.out _ B0);dsimp only at this;omega
 have dF:(0:Int)<=(k:Int):=Bl;have hkn:¬ (k:Int)<0:=Bl;obtain ⟨gx,ox,_,rfl,kK,_,c0,c1_,c2_,c3_,c4_,c5_,c6,c7_⟩:=(CX.out _ B0).run hk;clear c0 c1_ c2_ c3_ c4_ c5_ c7_;by_cases p2:y.runs[k].state=1;case pos =>
  have q2:(y.runs[k].state == 1)=true:=by simp [p2]
  have H:=Bq (show Iv y id=13 by unfold Iv;rw [if_neg (fun h=>h P0.out),if_neg P1.out,if_pos (by rw [HK.out];exact p2)]);clear p2;have H2:=Bq (show Im y id=y by unfold Im;rw [H.out,if_neg Bp]);have RES_:=RES.g4;have rf:=RES.free;go_wp2;have en1:w.heap.size+1+1∉F:=fun hx=>by have:=nF _ hx;omega
  refine Ak (M0 (DBox.row4 RES rfl _ _ _ _)) rfl ⟨(⟨B1,m1,e1⟩,⟨B2,m2,e2⟩),F,by rw [H.out,H2.out],by rw [H2.out];exact (by (repeat (refine Dt.ow_set Bu ?_ en1 _));exact (show Bu.ow _ F y (⟨B1,m1,e1⟩,⟨B2,m2,e2⟩) from oy)),fun x hx=>by have:=nF x hx;omega,?_⟩;repeat (first | (with_reducible exact B0) | refine Ae ?_ Bo _)
 have q2:(y.runs[k].state == 1)=false:=by simp [p2]
 have H:=Bq (show Iv y id=0 by unfold Iv;rw [if_neg (fun h=>h P0.out),if_neg P1.out,if_neg (by rw [HK.out];exact p2)]);have H2:=Bq (show Im y id=⟨y.now,y.seq,y.shelf.map (Dg id),y.runs.take k ++ y.runs.drop (k+1)⟩ by unfold Im;rw [if_pos H.out,HR2.out,Ap]);clear p2;go_upto_region 9 with fail
 clear X_;clear X c6 q2 CC CY CA CX;have cK:rs.length=y.runs.length:=by have:=congrArg List.length hm.out;simpa using this
 have hkr:k<rs.length:=Bl;have rE:y.runs.length<=8:=P0.out.2.2.2.2.2.2.1;obtain ⟨gr,cap,hv,rB,fZ⟩:∃ gr cap,Value.slice B2 m2 e2 = Aa (Ad ⟨gr,0,Ac⟩) rs.length cap/\base<=gr/\gr<w4.heap.size:=by
  rcases oR.1.form with ⟨_,h⟩ | ⟨gr,cap,h,hb,hl,_⟩
  ·rw [h] at hkr;simp at hkr
  ·exact ⟨gr,cap,h,hb,hl⟩
 simp only [Value.slice.injEq] at hv;obtain ⟨rfl,rfl,rfl⟩:=hv;have CD:=Bq (Adl rs gr e2 base k w4 hkr Bl oR.1);have wr1:Ab.wrap ((k:Int)+1)=(k:Int)+1:=Ar _ Bl;have dY:ob≠gr:=fun e=>qB gr rfl e.symm;replace cK:=Bq cK;have hob4:ob<w4:=OB.lt;go_wp2_with fail
 refine CD.out.mono ?_;rintro e5 w5 ⟨rfl,o5,gg⟩;have hC:=Chg.of_grown gg;have bQ:=Bq (show ∀ x,x∈[gr]->x=gr from fun x hx=>by simpa using hx);obtain ⟨G5,oR5,hG5⟩:=oR.cut hkr o5 hC rfl rfl;have orr:=oR5.owl (l:=y.runs.take k ++ y.runs.drop (k+1)) (by rw [List.map_append,List.map_take,List.map_drop,hm.out]);have hB5:∀ x∈Ei (Aa (Ad ⟨gr,0,Ac⟩) (rs.length - 1) e2) (rs.take k ++ rs.drop (k+1)).length ++ G5,x≠ob/\base<=x:=fun x hx=>by
  rcases Bi.1 hx with hx | hx
  ·have h1:=Ho _ _ _ hx;have:gr=x:=by simpa [Value.ownBlock] using h1
   subst this;exact ⟨fun e=>dY e.symm,rB⟩
  ·have h1:=uA x (hG5 x hx);exact ⟨Bl,(oR.2.2.2 x (hG5 x hx)).1⟩
 generalize Ei (Aa (Ad ⟨gr,0,Ac⟩) (rs.length - 1) e2) (rs.take k ++ rs.drop (k+1)).length ++ G5=F2 at *
 clear OB_0 OB_1 OB_2 OB_3 OB_l;replace OB:=OB.chg hC (fun hx=>dY (bQ.out _ hx));replace RES:=RES.chg hC (fun hx=>by have:=bQ.out _ hx;omega);clear I_0 I_l;replace I:=I.chg hC (fun hx=>by have:=bQ.out _ hx;omega);replace oS:=oS.chg hC (fun x hx h=>by have h1:=bQ.out x h;have h2:=(eL x hx).2;omega);replace B0:=B0.trans (hC.below (by have:=B0.size;omega) (fun x hx=>by have:=bQ.out _ hx;omega));have mK:=hC.size;clear oR oy o5 gg hC oR5 hG5 CD;obtain ⟨OB_0,OB_1,OB_2,OB_3,OB_l⟩:=OB.g4;obtain ⟨I_0,I_l⟩:=I.g1;have obf:=OB.free;go_upto_region 10 with fail
 clear OB_0 OB_1 OB_2 OB_3 OB_l;clear I_0 I_l;have OB6:DBox ob [J Ab y.now,J Ab y.seq,Aa B1 m1 e1,Aa (Ad ⟨gr,0,Ac⟩) (rs.length - 1) e2] (w5.setCell ⟨ob,3,Ac⟩ (Aa (Ad ⟨gr,0,Ac⟩) (rs.length - 1) e2)):=OB.set 3 Bn _;replace RES:=RES.setOther (a:=⟨ob,3,Ac⟩) (by show w.heap.size+1+1≠ob;omega) (Aa (Ad ⟨gr,0,Ac⟩) (rs.length - 1) e2);replace I:=I.setOther (a:=⟨ob,3,Ac⟩) (by show w.heap.size+1≠ob;omega) (Aa (Ad ⟨gr,0,Ac⟩) (rs.length - 1) e2);replace oS:=oS.set (a:=⟨ob,3,Ac⟩) (fun hx=>by have h1:_/\ob<base:=eL _ hx;omega) (Aa (Ad ⟨gr,0,Ac⟩) (rs.length - 1) e2);replace orr:=orr.set (a:=⟨ob,3,Ac⟩) (fun hx=>(hB5 _ hx).1 rfl) (Aa (Ad ⟨gr,0,Ac⟩) (rs.length - 1) e2);replace B0:Below w w (w5.setCell ⟨ob,3,Ac⟩ (Aa (Ad ⟨gr,0,Ac⟩) (rs.length - 1) e2)):=Ae B0 (by show w.heap.size<=ob;omega) _;clear obf OB;generalize w5.setCell ⟨ob,3,Ac⟩ (Aa (Ad ⟨gr,0,Ac⟩) (rs.length - 1) e2)=w6 at *
 generalize y.runs.take k ++ y.runs.drop (k+1)=RR at *
 generalize rs.length - 1=rn at *
 have OB:=OB6;clear OB6;obtain rfl:m1=y.shelf.length:=RdL.at1 (s:=⟨B1,m1,e1⟩) oS.rd;have pE:=Bq (show y.shelf.length=4 from P0.out.2.2.1);have gN:=Bq (fun (i:Nat) (hi:i<y.shelf.length)=>(P0.out.2.2.2.1 _ (Ax hi)).1);have nU:w+1+1<ob:=Bl;have hF1':=Bq (show ∀ x∈F1,w+1+1<x/\x<base/\x≠ob from fun x hx=>by have h1:=eL x hx;omega);have hB5':=Bq (show ∀ x∈F2,x≠ob/\base<=x from hB5);obtain ⟨OB_0,OB_1,OB_2,OB_3,OB_l⟩:=OB.g4;obtain ⟨I_0,I_l⟩:=I.g1;go_wp2;clear OB_0 OB_1 OB_2 OB_3 OB_l;clear I_0 I_l;go_loopw [8,42] (fun u i wr=>∃ (j:Nat) (F:List Nat),j<=y.shelf.length/\i = J Ab j/\Hid (OwL (Dt.list Ch) wr F (Aa B1 y.shelf.length e1) ((y.shelf.take j).map (Dg id) ++ y.shelf.drop j)/\(∀ x∈F,x∈F1)/\OwL Cn wr F2 (Aa (Ad ⟨gr,0,Ac⟩) rn e2) RR)/\DBox ob [J Ab y.now,J Ab y.seq,Aa B1 y.shelf.length e1,Aa (Ad ⟨gr,0,Ac⟩) rn e2] wr/\DBox (w+1) [J Ab id] wr/\DBox (w+1+1) [J Ab 0,J Ab 0,Aa Ac 0 0,Aa Ac 0 0] wr/\Below w w wr) (fun _ i _=>y.shelf.length - (intOf i).toNat);case atStart=>exact ⟨0,F1,Ah _,rfl,⟨by simpa using oS,fun x hx=>hx,orr⟩,OB,I,RES,B0⟩
 case round =>
  clear oS orr OB I RES B0 eL hB5 hm mK;obtain ⟨j,F,hj,rfl,hO,OB,I,RES,gA⟩:=hrel;have hRl2:=RES.lt;have hobl:=OB.lt;obtain ⟨OB_0,OB_1,OB_2,OB_3,OB_l⟩:=OB.g4;obtain ⟨I_0,I_l⟩:=I.g1;by_cases aB:j<y.shelf.length
  ·have aC:(j:Int)<(y.shelf.length:Int):=Bl;have hi00:(0:Int)<=(j:Int):=Bl;have mA:j<((y.shelf.take j).map (Dg id) ++ y.shelf.drop j).length:=by simp;omega
   have hltH:=Bq (show j<y.shelf.length/\y.shelf.length=4 from ⟨aB,pE.out⟩);obtain ⟨os,jE,orr⟩:=hO.out;have nR:=gN.out j aB;have eZ:=Bq (Pi (Dg id) aB);have hat:=Xk (Dg id) aB mA;obtain ⟨g,o,_,rfl,hg,_,_⟩:=os.rd.entryS mA;have bd:Below wr wr wr.drew:=(Br _ _).drew;obtain ⟨⟨A9,n9,c9⟩,Fx,kJ,bF,kK,eP,fB,bV,cP⟩:=OwL.trade (os.below bd) mA;rw [hat] at kJ bV;clear hat;replace kJ:OwL Ch wr.drew Fx (Aa A9 n9 c9) y.shelf[j]:=kJ;have sN:n9=y.shelf[j].length:=RdL.at1 (s:=⟨A9,n9,c9⟩) kJ.rd;subst sN;have ck:wr.drew.cell? ⟨g,o+j,Ac⟩=Ad (Aa A9 y.shelf[j].length c9):=by
    have:=bV 0 _ rfl
    rw [show o+j * (Dt.list Ch).enc.sz+0=o+j from by show o+j * 1+0=o+j;omega] at this;exact this
   have hIn:w.heap.size+1∉Fx:=fun hx=>by have:=hF1'.out _ (jE _ (bF _ hx));omega
   have jR:=Bv gA bd;have Id:=I.below bd;have jW:∀ (W:World) (x:Entry),DBox (w+1) [J Ab id] W->Calls An 221 #[Io x (),.pointer (Ad ⟨w+1,0,Ac⟩)] W fun e w'=>e = .returned (.bool (x.run == id))/\Below W W w' :=
    fun W x hX=>Ado id (w+1) x W hX
   have CD:=Bq (Ua y.shelf[j] A9 y.shelf[j].length c9 Fx 221 (w.heap.size+1) (fun e=>e.run == id) (N0 func221 Bm Bm) wr.drew Bl
    (fun W x hW=>jW W x (Id.chg hW hIn))
    (Q7 221 (w+1) (fun e=>e.run == id) (N0 func221 Bm Bm) y.shelf[j] A9 y.shelf[j].length c9 wr.drew Bl (Se kJ).rd (fun W x hW=>jW W x (Id.below hW)))
    (Se kJ))
   clear jW;go_upto_region 13 with fail
   refine Dl (fun w'=>w'.cell? ⟨ob,2,Ac⟩=Ad (Aa (Ad ⟨g,o,Ac⟩) y.shelf.length e1)/\w'.cell? ⟨g,o+j,Ac⟩=Ad (Aa A9 y.shelf[j].length c9)) 11 Bm ?_ (fun aA=>?_)
   ·exact ⟨OB_2,ck⟩
   refine aT 0 aA ?_;try simp only [pS]
   refine aT 1 aA ?_;try simp only [pS]
   refine aT 2 aA ?_;try simp only [pS]
   refine aT 3 aA ?_;try simp only [pS]
   refine aT 4 aA ?_;try simp only [pS]
   refine aT 5 aA ?_;try simp only [pS]
   refine aT 6 aA ?_;try simp only [pS]
   refine aT 7 aA ?_;try simp only [pS]
   refine aT 8 aA ?_;try simp only [pS]
   refine oT 9 (fun K hK=>?_)
   (go_simp;refine CD.out.mono ?_;rintro e7 wa ⟨k9,F',rfl,hH,cV,hC⟩)
   have hgw2:g<wr.drew:=os.lt g eP;have gD:ob<wr.drew:=OB.lt;have pF:ob∉Fx:=fun hx=>(hF1'.out _ (jE _ (bF _ hx))).2.2 rfl;have hgn:=hF1'.out g (jE _ eP);have hobg2:ob≠g:=fun e=>hgn.2.2 e.symm;have sQ:=(hC.cell (p:=⟨ob,2,Ac⟩) gD pF).trans aA.1;have ck2:=(hC.cell (p:=⟨g,_,Ac⟩) hgw2 kK).trans ck;have hgf2:∀ j,wa.frozen? ⟨g,j,Ac⟩=false:=fun j=>(hC.frozen (p:=⟨g,_,Ac⟩) hgw2 kK).trans (fB j);refine hK.out _ _ (fun _=>⟨sQ,ck2⟩) ?_;clear hK K;try simp only [pS]
   refine oT 10 (fun K hK=>?_);go_simp;refine hK.out _ _ (fun _=>⟨sQ,ck2⟩) ?_;clear hK K;try simp only [pS]
   have hga:=hC.size;refine oT 11 (fun K hK=>?_);go_simp;refine hK.out _ _ (fun aE=>absurd rfl aE) ?_;clear hK K aA;try simp only [pS]
   refine Eb Bm ?_ _;obtain ⟨F3,o3,tI,sM⟩:=cP wa (Dg id y.shelf[j]) ⟨A9,k9,c9⟩ F' hC (Zu hH) cV;have fD:Is wa g (o+j * (Dt.list Ch).enc.sz) ((Dt.list Ch).enc.cells (Dg id y.shelf[j],(⟨A9,k9,c9⟩:Sl)))=wa.setCell ⟨g,o+j,Ac⟩ (Aa A9 k9 c9):=by
    show Is wa g (o+j * 1) [Aa A9 k9 c9]=_;rw [Nat.mul_one];rfl
   rw [fD,eZ.out] at o3;have hS:=Chg.setCell wa g (o+j) (Aa A9 k9 c9);have fE:=Bq (show ∀ x,x∈[g]->x=g from fun x hx=>by simpa using hx);have orr3:=((orr.below bd).chg hC (fun x hx hx2=>by have h1:=hF1'.out _ (jE _ (bF _ hx2));have h2:=hB5'.out x hx;omega)).chg hS (fun x hx hx2=>by have h1:=fE.out x hx2;have h2:=hB5'.out x hx;omega);have hX3:w.heap.size+1+1∉Fx:=fun hx=>by have:=hF1'.out _ (jE _ (bF _ hx));omega
   have RES3:=((RES.below bd).chg hC hX3).chg hS (fun hx=>by have:=fE.out _ hx;omega);have I3:=(Id.chg hC hIn).chg hS (fun hx=>by have:=fE.out _ hx;omega);have OB3:=((OB.below bd).chg hC pF).chg hS (fun hx=>hobg2 (fE.out _ hx));have B3:=(jR.trans (hC.below jR.size (fun z hz=>by have:=hF1'.out _ (jE _ (bF _ hz));omega))).trans (hS.below (base:=w) (by have:=jR.size;omega) (fun x hx=>by have:=fE.out x hx;omega));have rG:∀ x∈F3,x∈F1:=fun x hx=>jE x (tI x hx);clear cP hC hH cV CD os orr kJ bV ck ck2 sQ hgf2 fB hS RES I Id jR bd eZ tI;clear OB_0 OB_1 OB_2 OB_3 OB_l;clear I_0 I_l;clear OB;generalize wa.setCell ⟨g,o+j,Ac⟩ (Aa A9 k9 c9)=w7 at *
   have rT:=hltH.out.1;have jZ:=hltH.out.2;have hj3:j<=3:=Bl;replace jZ:=Bq jZ;go_wp2;have hl4:=jZ.out;exact ⟨⟨j+1,F3,Bl,by go_num,⟨o3,rG,orr3⟩,OB3,I3,RES3,B3⟩,clM⟩
  ·have aC:¬ (j:Int)<(y.shelf.length:Int):=Bl;obtain ⟨os,jE,orr⟩:=hO.out;rw [Bg Bl,List.drop_eq_nil_of_le Bl,List.append_nil] at os;have RES_:=RES.g4;have rf:=RES.free;have hRb:=Bq (show w.heap.size+1+1<base from Bl);clear hO;go_wp2;have en1:w.heap.size+1+1∉F:=fun hx=>by have:=hF1'.out _ (jE _ hx);omega
   have en2:w.heap.size+1+1∉F2:=fun hx=>by have h1:=(hB5'.out _ hx).2;have:=hRb.out;omega
   refine Ak (M0 (DBox.row4 RES rfl _ _ _ _)) rfl ⟨(⟨B1,y.shelf.length,e1⟩,⟨Ad ⟨gr,0,Ac⟩,rn,e2⟩),F ++ F2,by rw [H.out,H2.out],⟨F,F2,rfl,?_,?_,?_⟩,fun x hx=>?_,?_⟩
   ·rw [Ay];refine ⟨os.nodup,orr.nodup,fun a ha b hb e=>?_⟩;subst e;have h1:=hF1'.out a (jE a ha);have h2:=hB5'.out a hb;omega
   ·rw [H2.out];show OwL (Dt.list Ch) _ F (Aa B1 y.shelf.length e1) (y.shelf.map (Dg id));exact ((((os.set (a:=⟨_,_,Ac⟩) en1 _).set (a:=⟨_,_,Ac⟩) en1 _).set (a:=⟨_,_,Ac⟩) en1 _).set (a:=⟨_,_,Ac⟩) en1 _)
   ·rw [H2.out];show OwL Cn _ F2 (Aa (Ad ⟨gr,0,Ac⟩) rn e2) RR;exact ((((orr.set (a:=⟨_,_,Ac⟩) en2 _).set (a:=⟨_,_,Ac⟩) en2 _).set (a:=⟨_,_,Ac⟩) en2 _).set (a:=⟨_,_,Ac⟩) en2 _)
   ·rcases Bi.1 hx with hx | hx
    ·have:=hF1'.out _ (jE _ hx);omega
    ·have h1:=(hB5'.out _ hx).2;have:=hRb.out;omega
   ·repeat (first | (with_reducible exact gA) | refine Ae ?_ Bo _)
theorem Tn {b:Nat} {w:World} {u0 u1 u2 u3:Value} (X:DBox b [u0,u1,u2,u3] w) {v0 v1 v3:Value} {rest:List Value} :
  (results Tryz.f135 (v0 :: v1 :: .pointer (Ad ⟨b,0,Ac⟩) :: v3 :: rest).toArray).run An w = .ok (.tuple #[.agg #[u0,u1,u2,u3],v3]) w:=by
 obtain ⟨c0,c1,c2,c3,-⟩:=X.g4;simp [results,results135,go_sem,c0,c1,c2,c3]
theorem Agw (gr o n c:Nat) (rs:List (Run×Cn.S)) (k:Nat) (G1 Fx G2:List Nat) (r:Run) (s:Sl×Sl) (u p gl pl cl:Nat) (w:World) (hp:w.cell? ⟨p,0,Ac⟩=Ad (Aa (Ad ⟨gl,pl,Ac⟩) 3 cl)) (hp':p<w) (hq:w.cell? ⟨gl,pl+1,Ac⟩=Ad (J Ab u)) (hq':gl<w) (hR:Iu r u) (hF:Foc Cn w gr o n c rs k G1 Fx G2 r s) :
  Calls An 217 #[.pointer (Ad ⟨gr,o+k * 8,Ac⟩),.pointer (Ad ⟨p,0,Ac⟩)] w (I1 gr o n c rs k G1 Fx G2 (Dm r u) s w):=by
 have C:=Bq (Na gr o n c rs k G1 Fx G2 r s u w (by have:=D4 hR.1;omega) hR hF);go_enter func217,ntmps217;go_wp2_with fail
 refine C.out.mono ?_;rintro e w1 ⟨rfl,h1,h2⟩;have HF:=Bq (show I1 gr o n c rs k G1 Fx G2 (Dm r u) s w (.returned (.tuple #[])) w1 from ⟨rfl,h1,h2⟩);clear h1 h2 C;go_wp2;exact Ak (v:=.tuple #[]) (by simp [results,results217,go_sem]) rfl HF.out
theorem Abn (y:Yard) (s:Sl×Sl) (w:World) (hl:Cf y<=2000000) (h:Bu.rd w w y s) :
  Calls An 135 #[Dh y s] w (I7 (Iw y) (J1 y) w):=by
 have HR:=Bq (show ∀ W,Below w w W->Bu.rd W W y s from fun W hW=>Bu.rd_more (Bu.rd_below h hW) hW.size);obtain ⟨⟨A1,n1,c1⟩,⟨A2,n2,c2⟩⟩:=s;have CC:=Bq (fun W hW=>Gj y (⟨A1,n1,c1⟩,⟨A2,n2,c2⟩) W hl (HR.out W hW));have CY:=Bq (fun W hW=>G8 y (⟨A1,n1,c1⟩,⟨A2,n2,c2⟩) W hl (HR.out W hW));clear h;obtain ⟨W,aG,X,RES,B0⟩:=bx2 w 31 [J Ab y.now,J Ab y.seq,Aa A1 n1 c1,Aa A2 n2 c2] 31 [J Ab 0,J Ab 0,Aa Ac 0 0,Aa Ac 0 0];go_enter func135,ntmps135;go_wp2_with fail
 rw [<-aG.out];clear aG;refine (CC.out _ B0).mono ?_;rintro e1 w1 ⟨⟨⟨B1,m1,e1⟩,⟨B2,m2,e2⟩⟩,F,rfl,oy,nF,b1⟩;have dL:=RES.lt;have b2:Below w1 w1 (w1.alloc (.cells #[J Ab y.now,J Ab y.seq,Aa B1 m1 e1,Aa B2 m2 e2] 31)):=Bt;have OB:DBox w1 (Ev y (⟨B1,m1,e1⟩,⟨B2,m2,e2⟩)) _:=DBox.new 31 [J Ab y.now,J Ab y.seq,Aa B1 m1 e1,Aa B2 m2 e2] w1 (b:=w1) rfl;have bM:=Bq (Bu.ow_lt (F:=F) (x:=y) (s:=(⟨B1,m1,e1⟩,⟨B2,m2,e2⟩)) oy);have cM:=Bq (show ∀ x∈F,w.heap.size+1<x from fun x hx=>by have:=nF x hx;omega);replace oy:Bu.ow _ F y (⟨B1,m1,e1⟩,⟨B2,m2,e2⟩):=owB oy b2;have b12:=Bv b1 b2;replace X:=X.below b12;replace RES:=RES.below b12;replace B0:=Bv B0 b12;have bG:=b1.size;clear b1 b2 b12 CC nF;go_upto_region 2 with fail
 have cR:w1.heap.size∉F:=fun h=>by have:=bM.out _ h;omega
 have hobR:w.heap.size+1<w1.heap.size:=Bl;generalize w1.heap.size=ob at *
 generalize w1.alloc (.cells #[J Ab y.now,J Ab y.seq,Aa B1 m1 e1,Aa B2 m2 e2] 31)=w2 at *
 have X_:=X.g4;go_wp2_with fail
 refine (CY.out _ B0).mono ?_;rintro e1' w3 ⟨rfl,b3⟩;clear X_;replace X:=X.below b3;replace RES:=RES.below b3;replace OB:=OB.below b3;replace B0:=Bv B0 b3;replace oy:Bu.ow w3 F y (⟨B1,m1,e1⟩,⟨B2,m2,e2⟩):=owB oy b3;clear b3 CY bM;by_cases p0:Dn y;case neg =>
  rw [Cm p0];have H:=Bq (show J1 y=8 by unfold J1;rw [if_pos p0]);have H2:=Bq (show Iw y=y by unfold Iw;rw [H.out,if_neg Bp]);have RES_:=RES.g4;have OB_:=OB.g4;have rf:=RES.free;go_wp2;have en1:w.heap.size+1∉F:=fun hx=>by have:=cM.out _ hx;omega
  refine Ak (Tn (DBox.row4 RES rfl _ _ _ _)) rfl ⟨(⟨B1,m1,e1⟩,⟨B2,m2,e2⟩),F,by rw [H.out,H2.out],by rw [H2.out];exact Bu.set4 (F:=F) (x:=y) (s:=(⟨B1,m1,e1⟩,⟨B2,m2,e2⟩)) oy en1,fun x hx=>by have:=cM.out x hx;omega,?_⟩;repeat (first | (with_reducible exact B0) | refine Ae ?_ Bo _)
 rw [Ds p0];have P0:=Bq p0;have gI:=p0.1;clear p0;have wr1:Ab.wrap (y.now+1)=y.now+1:=Ar _ Bl;have X_:=X.g4;by_cases p1:999999980<y.now+1;case pos =>
  have H:=Bq (show J1 y=7 by unfold J1;rw [if_neg (fun h=>h P0.out),if_pos p1]);have H2:=Bq (show Iw y=y by unfold Iw;rw [H.out,if_neg Bp]);have RES_:=RES.g4;have OB_:=OB.g4;have rf:=RES.free;go_wp2;have en1:w.heap.size+1∉F:=fun hx=>by have:=cM.out _ hx;omega
  refine Ak (Tn (DBox.row4 RES rfl _ _ _ _)) rfl ⟨(⟨B1,m1,e1⟩,⟨B2,m2,e2⟩),F,by rw [H.out,H2.out],by rw [H2.out];exact Bu.set4 (F:=F) (x:=y) (s:=(⟨B1,m1,e1⟩,⟨B2,m2,e2⟩)) oy en1,fun x hx=>by have:=cM.out x hx;omega,?_⟩;repeat (first | (with_reducible exact B0) | refine Ae ?_ Bo _)
 have H:=Bq (show J1 y=0 by unfold J1;rw [if_neg (fun h=>h P0.out),if_neg p1]);have H2:=Bq (show Iw y=upY (Ej y (E7 y y.runs.length)) by unfold Iw;rw [if_pos H.out];rfl);have CL:=Bq (fun W hW=>Abj y (⟨A1,n1,c1⟩,⟨A2,n2,c2⟩) W hl P0.out (HR.out W hW));clear HR;have OB_:=OB.g4;have obf:=OB.free;go_upto_region 7 with fail
 clear X_;clear OB_;clear obf;have fD:=B0.size;have pI:w≠ob:=Bl;replace X:=X.setOther (a:=⟨ob,0,Ac⟩) pI (J Ab (y.now+1));replace OB:DBox ob (Ev (upY y) (⟨B1,m1,e1⟩,⟨B2,m2,e2⟩)) (w3.setCell ⟨ob,0,Ac⟩ (J Ab (y.now+1))):=OB.set 0 Bn _;replace RES:=RES.setOther (a:=⟨ob,0,Ac⟩) (by show w.heap.size+1≠ob;omega) (J Ab (y.now+1));replace oy:Bu.ow (w3.setCell ⟨ob,0,Ac⟩ (J Ab (y.now+1))) F (upY y) (⟨B1,m1,e1⟩,⟨B2,m2,e2⟩):=Bu.ow_set (F:=F) (x:=y) (s:=(⟨B1,m1,e1⟩,⟨B2,m2,e2⟩)) oy (a:=⟨ob,0,Ac⟩) cR _;replace B0:Below w w (w3.setCell ⟨ob,0,Ac⟩ (J Ab (y.now+1))):=Ae B0 (by show w.heap.size<=ob;omega) _;generalize w3.setCell ⟨ob,0,Ac⟩ (J Ab (y.now+1))=w3 at *
 have bM:=Bu.ow_lt (F:=F) (x:=upY y) (s:=(⟨B1,m1,e1⟩,⟨B2,m2,e2⟩)) oy;have X_:=X.g4;go_wp2_with fail
 refine (CL.out _ B0).mono ?_;rintro e1 w4 ⟨⟨A9,n9,c9⟩,Fl,he,ol,nl,b4⟩;replace he:e1 = .returned (Aa A9 n9 c9):=he;subst he;clear X_;clear X CL;have jP:ob<w3:=OB.lt;have hRl3:w.heap.size+1<w3.heap.size:=RES.lt;replace OB:=OB.below b4;replace RES:=RES.below b4;replace oy:Bu.ow w4 F (upY y) (⟨B1,m1,e1⟩,⟨B2,m2,e2⟩):=owB oy b4;replace B0:=Bv B0 b4;have fY:Hid ((∀ x∈F,w+1<x)/\ob∉F /\ ∀ x∈Fl,x∉F):=⟨cM.out,cR,fun x hx bF=>by have h1:w3<=x:=nl x hx;have h2:=bM x bF;omega⟩
 have hFln:=Bq (show ∀ x∈Fl,x≠ob/\w.heap.size+1<x from fun x hx=>by have h1:w3<=x:=nl x hx;omega);have hmemL:=Bq (fun p (hp:p∈E7 y y.runs.length)=>Qc hp);clear nl b4 bM cM cR jP hRl3 fD;have hLs:=Bq (show (E7 y y.runs.length).length<=96 by have h1:=La (Nt P0.out) y.runs.length;have h2:=P0.out.2.2.2.2.2.2.1;omega);generalize E7 y y.runs.length=L at *
 obtain rfl:n9=L.length:=by have:=RdL.at1 (s:=⟨A9,n9,c9⟩) ol.rd;rw [Au] at this;exact this
 go_wp2;go_loopw [27] (fun iv wr=>∃ (i:Nat) (Z:Yard) (F:List Nat),i<=L.length/\iv = J Ab i/\Hid (Trn y i Z/\SameTry y Z)/\Hid (Ej y (L.take i)=Z)/\Hid (Bu.ow wr F (upY Z) (⟨B1,m1,e1⟩,⟨B2,m2,e2⟩))/\Hid ((∀ x∈F,w+1<x)/\ob∉F /\ ∀ x∈Fl,x∉F)/\Hid (OwL (Dt.flats Ii) wr Fl (Aa A9 L.length c9) (L.map (Jb y)))/\DBox ob (Ev (upY Z) (⟨B1,m1,e1⟩,⟨B2,m2,e2⟩)) wr/\DBox (w+1) [J Ab 0,J Ab 0,Aa Ac 0 0,Aa Ac 0 0] wr/\Below w w wr) (fun i _=>L.length - (intOf i).toNat);case atStart=>exact ⟨0,y,F,Ah _,rfl,⟨Trn.start P0.out,fun _ _=>rfl⟩,rfl,oy,fY,ol,OB,RES,B0⟩
 case round =>
  clear oy fY ol OB RES B0;obtain ⟨i,Z,F,hi,rfl,hT,hZ,oy,hF,ol,OB,RES,hb⟩:=hrel;replace oy:Bu.ow wr F (upY Z) (⟨B1,m1,e1⟩,⟨B2,m2,e2⟩):=oy.out;have eJ:=hLs.out;by_cases aB:i<L.length
  ·have aC:(i:Int)<(L.length:Int):=Bl;have aQ:(0:Int)<=(i:Int):=Bl;have hp:=hmemL.out _ (Ax aB);have aF:Hid (Ej y (L.take (i+1))=Gh Z L[i].1 L[i].2):=by
    show Ej y (L.take (i+1))=_;unfold Ej;rw [K5 (fun z p=>Gh z p.1 p.2) y L i aB,<-hZ.out];rfl
   have cC:(L.map (Jb y))[i]'(by rw [Au];exact aB)=[(Gg y L[i].1).id,(L[i].2:Int),(By (Gg y L[i].1) L[i].2).try_]:=by
    rw [List.getElem_map];rfl
   generalize L[i]=p at *
   obtain ⟨k,t⟩:=p;dsimp only at hp aF cC;have mN:k<y.runs.length:=hp.1;have dV:k<Z.runs.length:=by rw [hT.out.1.len];exact mN
   have hru:=Ee mN;rw [hru] at hp cC;have fT:=hT.out.1.run k dV mN;have jM:t<Z.runs[k].tasks.length:=by rw [fT.2.2];exact hp.2
   have eB:=Bq (show Db Z y.runs[k].id=k from (hT.out.1.runAt _).trans (P0.out.2.2.2.2.2.2.2.1 k mN).2);have qE:=hT.out.1.cnt Bl;have hN:=Bq (show Trn y (i+1) (Gh Z k t)/\SameTry y (Gh Z k t) from ⟨hT.out.1.fail dV jM,hT.out.2.fail dV t⟩);have cC:=Bq cC;have nL:=Bq (Xt hT.out.1 hT.out.2 dV jM eB.out);rw [hru] at nL;obtain ⟨bl,lo,rfl⟩:∃ b o,A9=Ad ⟨b,o,Ac⟩:=by
    obtain ⟨b,o,_,hA,_⟩:=RdL.at_ ol.out.rd i (by rw [Au];exact aB);exact ⟨b,o,hA⟩
   obtain ⟨gl,pl,cl,gP,fR,l0,l1,l2,l3⟩:=Of ol.out (i:=i) (by rw [Au];exact aB) cC.out;have kT:=ol.out.lt _ gP;have cD:=ol.out.lt _ fR;generalize hid:y.runs[k].id=rid at *
   generalize htr:(By y.runs[k] t).try_=tr at *
   have TQ:=DBox.new 26 [Aa (Ad ⟨gl,pl,Ac⟩) 3 cl] wr (b:=wr) rfl;have bq:Below wr wr (wr.alloc (.cells #[Aa (Ad ⟨gl,pl,Ac⟩) 3 cl] 26)):=Bt;go_upto_region 10 with fail
   have gD:=OB.lt;replace OB:=OB.below bq;replace RES:=RES.below bq;have hqF:wr.heap.size∉F:=fun hx=>by have:=Bu.ow_lt (F:=F) (x:=upY Z) (s:=(⟨B1,m1,e1⟩,⟨B2,m2,e2⟩)) oy _ hx;omega
   have hqo:wr≠ob:=Bl;have hqL:∀ x∈Fl,x≠wr:=fun x hx=>by have:=ol.out.lt x hx;omega
   replace l1:=(bq.cell (p:=⟨gl,_,Ac⟩) cD).trans l1;replace l2:=(bq.cell (p:=⟨gl,_,Ac⟩) cD).trans l2;replace l3:=(bq.cell (p:=⟨gl,_,Ac⟩) cD).trans l3;replace cD:=Aj cD bq.size;replace oy:Bu.ow _ F (upY Z) (⟨B1,m1,e1⟩,⟨B2,m2,e2⟩):=owB oy bq;replace ol:=Bq (ol.out.below bq);replace hb:=Bv hb bq;clear bq l0 kT;generalize wr.alloc (.cells #[Aa (Ad ⟨gl,pl,Ac⟩) 3 cl] 26)=w5 at *
   generalize wr.heap.size=tq at *
   have OB_:=OB.g4;obtain ⟨TQ_0,TQ_l⟩:=TQ.g1;have oyr:=Bu.ow_rd (F:=F) (x:=upY Z) (s:=(⟨B1,m1,e1⟩,⟨B2,m2,e2⟩)) oy;have CH:=Bq (fun W (hW:Below w5 w5 W)=>M7 (upY Z) (⟨B1,m1,e1⟩,⟨B2,m2,e2⟩) rid t tr W qE (Bu.rd_more (Bu.rd_below (x:=upY Z) (s:=(⟨B1,m1,e1⟩,⟨B2,m2,e2⟩)) oyr hW) hW.size));have CA:=Bq (fun W (hW:Below w5 w5 W)=>Ep (upY Z) (⟨B1,m1,e1⟩,⟨B2,m2,e2⟩) rid W qE (Bu.rd_more (Bu.rd_below (x:=upY Z) (s:=(⟨B1,m1,e1⟩,⟨B2,m2,e2⟩)) oyr hW) hW.size));clear oyr;have aN:=Df w5;go_wp2;refine Bz Bm Bm ?_;repeat (go_big_quiet_step ((go_at_call 216;rename_i x;exact Fk (CH.out x.1 x.2))))
   refine wpQuiet_nil ?_;rintro w6 ⟨⟨_,b6⟩,rfl⟩;clear aN CH;clear OB_;clear TQ_0 TQ_l;replace OB:=OB.below b6;replace RES:=RES.below b6;replace TQ:=TQ.below b6;replace l1:=(b6.cell (p:=⟨gl,_,Ac⟩) cD).trans l1;replace l2:=(b6.cell (p:=⟨gl,_,Ac⟩) cD).trans l2;replace l3:=(b6.cell (p:=⟨gl,_,Ac⟩) cD).trans l3;replace cD:=Aj cD b6.size;replace oy:Bu.ow _ F (upY Z) (⟨B1,m1,e1⟩,⟨B2,m2,e2⟩):=owB oy b6;replace ol:=Bq (ol.out.below b6);replace hb:=Bv hb b6;have CA2:=Bq (fun W (hW:Below w6 w6 W)=>CA.out W (Bv b6 hW));clear CA b6;by_cases q:(By (Gg Z k) t).state=3;case neg =>
    rw [Cm (show ¬ Gq (upY Z) rid t tr from fun h=>q (nL.out.1 h))];have aM:=Bq (show Gh Z k t=Z from Kd q);clear q nL;go_wp2;exact ⟨⟨i+1,Z,F,Bl,by go_num,⟨hT.out.1.mono Bl,hT.out.2⟩,aF.out.trans aM.out,oy,hF,ol,OB,RES,hb⟩,clM⟩
   rw [Ds (show Gq (upY Z) rid t tr from nL.out.2 q)];have aL:Hid (Iu Z.runs[k] t):=⟨fT.1,⟨Bl,Bl⟩,by rw [Ap,<-Ee dV];exact q⟩
   have aM:=Bq (show Gh Z k t=E0 Z k (Dm Z.runs[k] t) by rw [Jm q,Ee dV]);clear q nL;have CA:=CA2.out _ (Br _ _).drew;rw [show Db (upY Z) rid=k from eB.out] at CA;have CA:=Bq CA;have OB_:=OB.g4;obtain ⟨TQ_0,TQ_l⟩:=TQ.g1;go_upto_region 11 with fail
   refine Go.wp_region_noPanic ?_;refine wp_region_held_drew (S:=(fun w'=>w'.cell? ⟨tq,0,Ac⟩=Ad (Aa (Ad ⟨gl,pl,Ac⟩) 3 cl)/\w'.cell? ⟨gl,pl,Ac⟩=Ad (J Ab rid))) Bm ⟨TQ_0,l1⟩ (fun aA=>?_);refine tV 1 ?_
   (try simp only [pS])
   refine tV 2 ?_
   (try simp only [pS])
   refine tV 3 ?_
   (try simp only [pS])
   refine tV 5 ?_
   (try simp only [pS])
   clear OB_;clear TQ_0 TQ_l;have bd:Below w6 w6 w6.drew:=(Br _ _).drew;replace OB:=OB.below bd;replace RES:=RES.below bd;replace TQ:=TQ.below bd;replace l2:=(bd.cell (p:=⟨gl,_,Ac⟩) cD).trans l2;replace cD:gl<w6.drew:=cD;replace oy:Bu.ow _ F (upY Z) (⟨B1,m1,e1⟩,⟨B2,m2,e2⟩):=owB oy bd;replace ol:=Bq (ol.out.below bd);replace hb:=Bv hb bd;clear bd l1 l3 CA2;generalize w6.drew=w6 at *
   have OB_:=OB.g4;refine rC 0 (fun K_ hK=>?_);go_simp;refine hK.out _ _ aA (fun aA=>?_);clear hK K_
   (try simp only [pS])
   have hTq:=TQ.lt;refine rC 4 (fun K_ hK=>?_);go_simp;refine CA.out.mono ?_;rintro e5 wa ⟨rfl,ba⟩;clear OB_;replace OB:=OB.below ba;replace RES:=RES.below ba;replace TQ:=TQ.below ba;replace l2:=(ba.cell (p:=⟨gl,_,Ac⟩) cD).trans l2;have uF:=(ba.cell (p:=⟨tq,_,Ac⟩) hTq).trans aA.1;have vC:=(ba.cell (p:=⟨gl,_,Ac⟩) cD).trans aA.2;replace cD:=Aj cD ba.size;replace oy:Bu.ow _ F (upY Z) (⟨B1,m1,e1⟩,⟨B2,m2,e2⟩):=owB oy ba;replace ol:=Bq (ol.out.below ba);replace hb:=Bv hb ba;clear ba CA;refine hK.out _ _ ⟨uF,vC⟩ (fun aA=>?_);clear hK K_ uF vC
   (try simp only [pS])
   have mJ:=TQ.lt;have CH:=Bq (Kt 217 tq (N0 func217 Bm Bm) (upY Z) ob (⟨B1,m1,e1⟩,⟨B2,m2,e2⟩) F k (Dm Z.runs[k] t) wa hT.out.1.four (fun s hs=>by have:=hT.out.1.all s hs;omega) (by have:=hT.out.1.seq;show 0<=Z.seq/\Z.seq<=_;omega) dV (by rw [Hd];have:=D4 aL.out.1;omega) (by have:=D4 aL.out.1;show Z.runs[k].tasks.length<=_;omega) OB oy hF.out.2.1
    (Bq fun W gr o n c rs G1 Fx G2 sr hW hFo=>Agw gr o n c rs k G1 Fx G2 Z.runs[k] sr t tq gl pl cl W ((TQ.below hW).cell 0 _ rfl) (TQ.below hW).lt ((hW.cell (p:=⟨gl,_,Ac⟩) cD).trans l2) (Aj cD hW.size) aL.out hFo))
   rw [Ah0,<-aM.out] at CH;refine rC 6 (fun K_ hK=>?_);go_simp;refine CH.out.mono ?_;rintro e6 wb ⟨rfl,F',OB',oy',nF',hc⟩;have bJ:=hb.size;have dL:=RES.lt;have hobA:=OB.lt;have cH:∀ x∈ob :: F,w+1<x:=fun x hx=>by
    rcases List.mem_cons.1 hx with rfl | hx
    ·exact hobR
    ·exact hF.out.1 x hx
   have sX:∀ x∈Fl,x∉ob :: F:=fun x hx hx2=>by
    rcases List.mem_cons.1 hx2 with e | hx2
    ·exact (hFln.out x hx).1 e
    ·exact hF.out.2.2 x hx hx2
   have hqn:tq∉ob :: F:=fun hx=>by
    rcases List.mem_cons.1 hx with e | hx
    ·exact hqo e
    ·exact hqF hx
   have uF:=(hc.cell (p:=⟨tq,_,Ac⟩) mJ hqn).trans aA.1;have vC:=(hc.cell (p:=⟨gl,_,Ac⟩) cD (sX gl fR)).trans aA.2;have sL:=ol.out.lt;replace RES:=RES.chg hc (fun hx=>by have:=cH _ hx;omega);replace hb:=hb.trans (hc.below (base:=w) bJ (fun x hx=>by have:=cH x hx;omega));replace ol:=Bq (ol.out.chg hc sX);have rJ:Hid ((∀ x∈F',w+1<x)/\ob∉F' /\ ∀ x∈Fl,x∉F'):=⟨fun x hx=>by
    rcases nF' x hx with h | h
    ·exact hF.out.1 x h
    ·omega,fun hx=>by
    rcases nF' _ hx with h | h
    ·exact hF.out.2.1 h
    ·omega,fun x hx hx2=>by
    rcases nF' x hx2 with h | h
    ·exact hF.out.2.2 x hx h
    ·have:=sL x hx;omega⟩
   clear CH OB oy hc nF' cH sX sL TQ l2 hqn;refine hK.out _ _ ⟨uF,vC⟩ (fun aA=>?_);clear hK K_ uF vC
   (try simp only [pS])
   refine wpAnyH_done Bm ?_ _;refine NoPanic.normal ?_;clear aA;generalize Gh Z k t=Z1 at *
   go_wp2;exact ⟨⟨i+1,Z1,F',Bl,by go_num,hN,aF,oy',rJ,ol,OB',RES,hb⟩,clM⟩
  ·have aC:¬ (i:Int)<(L.length:Int):=Bl;have hZ1:=Bq (show Ej y L=Z by have:=hZ.out;rw [Bg Bl] at this;exact this);have H3:=Bq (show Iw y=upY Z by rw [H2.out,hZ1.out]);have OB_:=OB.g4;have RES_:=RES.g4;have rf:=RES.free;go_wp2;have en1:w.heap.size+1∉F:=fun hx=>by have:=hF.out.1 _ hx;omega
   refine Ak (Tn (DBox.row4 RES rfl _ _ _ _)) rfl ⟨(⟨B1,m1,e1⟩,⟨B2,m2,e2⟩),F,by rw [H.out,H3.out],by rw [H3.out];exact Bu.set4 (F:=F) (x:=upY Z) (s:=(⟨B1,m1,e1⟩,⟨B2,m2,e2⟩)) oy en1,fun x hx=>by have:=hF.out.1 x hx;omega,?_⟩;repeat (first | (with_reducible exact hb) | refine Ae ?_ Bo _)
theorem Sq {b:Nat} {w:World} {u0 u1 u2 u3:Value} (X:DBox b [u0,u1,u2,u3] w) {v0 v1:Value} {rest:List Value} :
  (results Tryz.f138 (v0 :: v1 :: .pointer (Ad ⟨b,0,Ac⟩) :: rest).toArray).run An w = .ok (.agg #[u0,u1,u2,u3]) w:=by
 obtain ⟨c0,c1,c2,c3,-⟩:=X.g4;simp [results,results138,go_sem,c0,c1,c2,c3]
theorem Abo (gr o n c:Nat) (rs:List (Run×Cn.S)) (k:Nat) (G1 Fx G2:List Nat) (r:Run) (s:Sl×Sl) (u p:Nat) (w:World) (hp:w.cell? ⟨p,0,Ac⟩=Ad (J Ab u)) (hp':p<w) (hR:Iu r u) (hF:Foc Cn w gr o n c rs k G1 Fx G2 r s) :
  Calls An 222 #[.pointer (Ad ⟨gr,o+k * 8,Ac⟩),.pointer (Ad ⟨p,0,Ac⟩)] w (I1 gr o n c rs k G1 Fx G2 (Dm r u) s w):=by
 have C:=Bq (Na gr o n c rs k G1 Fx G2 r s u w (by have:=D4 hR.1;omega) hR hF);go_enter func222,ntmps222;go_wp2_with fail
 refine C.out.mono ?_;rintro e w1 ⟨rfl,h1,h2⟩;have HF:=Bq (show I1 gr o n c rs k G1 Fx G2 (Dm r u) s w (.returned (.tuple #[])) w1 from ⟨rfl,h1,h2⟩);clear h1 h2 C;go_wp2;exact Ak (v:=.tuple #[]) (by simp [results,results222,go_sem]) rfl HF.out
theorem Vj (y:Yard) (s:Sl×Sl) (w:World) (hl:Cf y<=2000000) (h:Bu.rd w w y s) :
  Calls An 138 #[Dh y s] w (Fa Bu Dh (Kx y) w):=by
 have HR:=Bq (show ∀ W,Below w w W->Bu.rd W W y s from fun W hW=>Bu.rd_more (Bu.rd_below h hW) hW.size);obtain ⟨⟨A1,n1,c1⟩,⟨A2,n2,c2⟩⟩:=s;have CC:=Bq (fun W hW=>Gj y (⟨A1,n1,c1⟩,⟨A2,n2,c2⟩) W hl (HR.out W hW));have CY:=Bq (fun W hW=>G8 y (⟨A1,n1,c1⟩,⟨A2,n2,c2⟩) W hl (HR.out W hW));clear h;obtain ⟨W,aG,X,RES,B0⟩:=bx2 w 31 [J Ab y.now,J Ab y.seq,Aa A1 n1 c1,Aa A2 n2 c2] 31 [J Ab 0,J Ab 0,Aa Ac 0 0,Aa Ac 0 0];go_enter func138,ntmps138;go_wp2_with fail
 rw [<-aG.out];clear aG;refine (CC.out _ B0).mono ?_;rintro e1 w1 ⟨⟨⟨B1,m1,e1⟩,⟨B2,m2,e2⟩⟩,F,rfl,oy,nF,b1⟩;have dL:=RES.lt;have b2:Below w1 w1 (w1.alloc (.cells #[J Ab y.now,J Ab y.seq,Aa B1 m1 e1,Aa B2 m2 e2] 31)):=Bt;have OB:DBox w1 (Ev y (⟨B1,m1,e1⟩,⟨B2,m2,e2⟩)) _:=DBox.new 31 [J Ab y.now,J Ab y.seq,Aa B1 m1 e1,Aa B2 m2 e2] w1 (b:=w1) rfl;have bM:=Bq (Bu.ow_lt (F:=F) (x:=y) (s:=(⟨B1,m1,e1⟩,⟨B2,m2,e2⟩)) oy);have cM:=Bq (show ∀ x∈F,w.heap.size+1<x from fun x hx=>by have:=nF x hx;omega);replace oy:Bu.ow _ F y (⟨B1,m1,e1⟩,⟨B2,m2,e2⟩):=owB oy b2;have b12:=Bv b1 b2;replace X:=X.below b12;replace RES:=RES.below b12;replace B0:=Bv B0 b12;have bG:=b1.size;clear b1 b2 b12 CC nF;go_upto_region 2 with fail
 have cR:w1.heap.size∉F:=fun h=>by have:=bM.out _ h;omega
 have hobR:w.heap.size+1<w1.heap.size:=Bl;generalize w1.heap.size=ob at *
 generalize w1.alloc (.cells #[J Ab y.now,J Ab y.seq,Aa B1 m1 e1,Aa B2 m2 e2] 31)=w2 at *
 have X_:=X.g4;go_wp2_with fail
 refine (CY.out _ B0).mono ?_;rintro e1' w3 ⟨rfl,b3⟩;clear X_;replace X:=X.below b3;replace RES:=RES.below b3;replace OB:=OB.below b3;replace B0:=Bv B0 b3;replace oy:Bu.ow w3 F y (⟨B1,m1,e1⟩,⟨B2,m2,e2⟩):=owB oy b3;clear b3 CY bM;by_cases p0:Dn y;case neg =>
  rw [Cm p0];have H2:=Bq (show Kx y=y from if_neg p0);clear p0;have RES_:=RES.g4;have OB_:=OB.g4;have rf:=RES.free;go_wp2;have en1:w.heap.size+1∉F:=fun hx=>by have:=cM.out _ hx;omega
  refine Ak (Sq (DBox.row4 RES rfl _ _ _ _)) rfl ⟨(⟨B1,m1,e1⟩,⟨B2,m2,e2⟩),F,by rw [H2.out],by rw [H2.out];exact Bu.set4 (F:=F) (x:=y) (s:=(⟨B1,m1,e1⟩,⟨B2,m2,e2⟩)) oy en1,fun x hx=>by have:=cM.out x hx;omega,?_⟩;repeat (first | (with_reducible exact B0) | refine Ae ?_ Bo _)
 rw [Ds p0];have P0:=Bq p0;have H2:=Bq (show Kx y=Ej y (Ik y y.runs.length) from if_pos p0);clear p0;obtain rfl:n2=y.runs.length:=RdL.at1 (s:=⟨A2,n2,c2⟩) (HR.out w (Br _ _)).2;have CX:=Bq (fun W (hW:Below w w W)=>show RdL Cn W W.heap.size (Aa A2 y.runs.length c2) y.runs from (HR.out W hW).2);clear HR;have rE:y.runs.length<=8:=P0.out.2.2.2.2.2.2.1;have fY:Hid ((∀ x∈F,w+1<x)/\ob∉F):=⟨cM.out,cR⟩
 clear cM cR;have X_:=X.g4;go_wp2;clear X_;go_loopw [17] (fun iv wr=>∃ (k:Nat) (Z:Yard) (F:List Nat),k<=y.runs.length/\iv = J Ab k/\Hid (Trn y (12 * k) Z/\SameTry y Z)/\Hid (Ej y (Ik y k)=Z)/\Hid (Bu.ow wr F Z (⟨B1,m1,e1⟩,⟨B2,m2,e2⟩))/\Hid ((∀ x∈F,w+1<x)/\ob∉F)/\DBox ob (Ev Z (⟨B1,m1,e1⟩,⟨B2,m2,e2⟩)) wr/\DBox (w+1) [J Ab 0,J Ab 0,Aa Ac 0 0,Aa Ac 0 0] wr/\Below w w wr) (fun i _=>y.runs.length - (intOf i).toNat);case atStart=>exact ⟨0,y,F,Ah _,rfl,⟨Trn.start P0.out,fun _ _=>rfl⟩,rfl,oy,fY,OB,RES,B0⟩
 case round =>
  clear oy fY OB RES B0 X;obtain ⟨k,Z,F,hk,rfl,hT,hZ,oy,hF,OB,RES,hb⟩:=hrel;by_cases aB:k<y.runs.length
  ·have aC:(k:Int)<(y.runs.length:Int):=Bl;have dF:(0:Int)<=(k:Int):=Bl;obtain ⟨b,o,⟨⟨A8,n8,c8⟩,⟨At,nt,ct⟩⟩,rfl,aH,bP,e0,e1_,e2_,e3,e4,e5,e6,e7⟩:=(CX.out w (Br _ _)).run aB;obtain rfl:nt=y.runs[k].tasks.length:=RdL.at1 (s:=⟨At,nt,ct⟩) bP.2;have HT:=Bq (fun W (hW:Below w w W)=>show RdL Eu W w.heap.size (Aa At y.runs[k].tasks.length ct) y.runs[k].tasks from RdL.below bP.2 hW);clear bP;replace e0:=(hb.cell (p:=⟨b,_,Ac⟩) aH).trans e0;replace e1_:=(hb.cell (p:=⟨b,_,Ac⟩) aH).trans e1_;replace e2_:=(hb.cell (p:=⟨b,_,Ac⟩) aH).trans e2_;replace e3:=(hb.cell (p:=⟨b,_,Ac⟩) aH).trans e3;replace e4:=(hb.cell (p:=⟨b,_,Ac⟩) aH).trans e4;replace e5:=(hb.cell (p:=⟨b,_,Ac⟩) aH).trans e5;replace e6:=(hb.cell (p:=⟨b,_,Ac⟩) aH).trans e6;replace e7:=(hb.cell (p:=⟨b,_,Ac⟩) aH).trans e7;have bN:b<wr:=Aj aH hb.size;have R:=DBox.new 67 [J Ab y.runs[k].id,J Ab y.runs[k].plan.prio,J Ab y.runs[k].plan.most,J Ab y.runs[k].plan.wait,J Ab y.runs[k].plan.tasks,Aa A8 n8 c8,J Ab y.runs[k].state,Aa At y.runs[k].tasks.length ct] wr (b:=wr) rfl;have ha:Below wr wr (wr.alloc (.cells #[J Ab y.runs[k].id,J Ab y.runs[k].plan.prio,J Ab y.runs[k].plan.most,J Ab y.runs[k].plan.wait,J Ab y.runs[k].plan.tasks,Aa A8 n8 c8,J Ab y.runs[k].state,Aa At y.runs[k].tasks.length ct] 67)):=Bt;go_upto_region 7 with fail
   have hobr:=OB.lt;have hrF:wr.heap.size∉F:=fun hx=>by have:=Bu.ow_lt (F:=F) (x:=Z) (s:=(⟨B1,m1,e1⟩,⟨B2,m2,e2⟩)) oy.out _ hx;omega
   replace OB:=OB.below ha;replace RES:=RES.below ha;replace oy:Hid (Bu.ow _ F Z (⟨B1,m1,e1⟩,⟨B2,m2,e2⟩)):=Bq (Bu.ow_below (F:=F) (x:=Z) (s:=(⟨B1,m1,e1⟩,⟨B2,m2,e2⟩)) oy.out ha);replace hb:=Bv hb ha;clear e0 e1_ e2_ e3 e4 e5 e6 e7 aH ha bN;have hrbn:wr≠ob:=Bl;generalize wr.alloc (.cells #[J Ab y.runs[k].id,J Ab y.runs[k].plan.prio,J Ab y.runs[k].plan.most,J Ab y.runs[k].plan.wait,J Ab y.runs[k].plan.tasks,Aa A8 n8 c8,J Ab y.runs[k].state,Aa At y.runs[k].tasks.length ct] 67)=w1 at *
   generalize wr.heap.size=rb at *
   have R_:=R.g8;go_wp2;clear R_;have rG:Hid ((∀ x∈F,w+1<x)/\ob∉F/\rb∉F):=⟨hF.out.1,hF.out.2,hrF⟩
   go_loopw [25] (fun iv wr=>∃ (t:Nat) (Z:Yard) (F:List Nat),t<=y.runs[k].tasks.length/\iv = J Ab t/\Hid (Trn y (12 * k+t) Z/\SameTry y Z)/\Hid (Ej y (Ik y k ++ J6 k t)=Z)/\Hid (Bu.ow wr F Z (⟨B1,m1,e1⟩,⟨B2,m2,e2⟩))/\Hid ((∀ x∈F,w+1<x)/\ob∉F/\rb∉F)/\DBox ob (Ev Z (⟨B1,m1,e1⟩,⟨B2,m2,e2⟩)) wr/\DBox (w+1) [J Ab 0,J Ab 0,Aa Ac 0 0,Aa Ac 0 0] wr/\DBox rb [J Ab y.runs[k].id,J Ab y.runs[k].plan.prio,J Ab y.runs[k].plan.most,J Ab y.runs[k].plan.wait,J Ab y.runs[k].plan.tasks,Aa A8 n8 c8,J Ab y.runs[k].state,Aa At y.runs[k].tasks.length ct] wr/\Below w w wr) (fun i _=>y.runs[k].tasks.length - (intOf i).toNat);case atStart=>exact ⟨0,Z,F,Ah _,rfl,hT,by rw [show J6 k 0=[] from rfl,List.append_nil];exact hZ,oy,rG,OB,RES,R,hb⟩
   case round =>
    clear oy hF OB RES R hb rG hrF hT hZ;obtain ⟨t,Z,F,ht,rfl,hT,hZ,oy,hF,OB,RES,R,hb⟩:=hrel;replace oy:Bu.ow wr F Z (⟨B1,m1,e1⟩,⟨B2,m2,e2⟩):=oy.out;have fK:=(D4 (Er P0.out aB)).2;by_cases eY:t<y.runs[k].tasks.length
    ·have pA:(t:Int)<(y.runs[k].tasks.length:Int):=Bl;have uS:(0:Int)<=(t:Int):=Bl;obtain ⟨b',o',_,rfl,bS,_,d0,d1,d2,d3⟩:=(HT.out wr hb).task eY;have aF:Hid (Ej y (Ik y k ++ J6 k (t+1))=Gh Z k t):=by
      show Ej y _=_;rw [<-hZ.out,Uh,<-List.append_assoc];unfold Ej;rw [List.foldl_append];rfl
     have dV:k<Z.runs.length:=by rw [hT.out.1.len];exact aB
     have fT:=hT.out.1.run k dV aB;have jM:t<Z.runs[k].tasks.length:=by rw [fT.2.2];exact eY
     have eB:=Bq (show Db Z y.runs[k].id=k from (hT.out.1.runAt _).trans (P0.out.2.2.2.2.2.2.2.1 k aB).2);have qE:=hT.out.1.cnt Bl;have hN:=Bq (show Trn y (12 * k+(t+1)) (Gh Z k t)/\SameTry y (Gh Z k t) from ⟨hT.out.1.fail dV jM,hT.out.2.fail dV t⟩);have nL:=Bq (Xt hT.out.1 hT.out.2 dV jM eB.out);rw [Ee aB,Co eY] at nL;have gD:=OB.lt;have hRw:=R.lt;have sX:=Bu.ow_lt (F:=F) (x:=Z) (s:=(⟨B1,m1,e1⟩,⟨B2,m2,e2⟩)) oy;generalize y.runs[k].tasks[t]=x at *
     have IB:=(DBox.new 3 [J Ab t] wr (b:=wr) rfl).below ((Br _ _).alloc (Bs _) (.cells #[J Ab x.state,J Ab x.need,J Ab x.try_,J Ab x.until_] 203));have TB:=DBox.new 203 [J Ab x.state,J Ab x.need,J Ab x.try_,J Ab x.until_] (wr.alloc (.cells #[J Ab t] 3)) (b:=wr+1) Bn;have bq:Below wr wr ((wr.alloc (.cells #[J Ab t] 3)).alloc (.cells #[J Ab x.state,J Ab x.need,J Ab x.try_,J Ab x.until_] 203)):=by repeat (first | exact Br _ _ | refine Below.alloc ?_ Bo _)
     go_upto_region 10 with fail
     replace OB:=OB.below bq;replace RES:=RES.below bq;replace R:=R.below bq;replace oy:Bu.ow _ F Z (⟨B1,m1,e1⟩,⟨B2,m2,e2⟩):=owB oy bq;replace hb:=Bv hb bq;clear bq d0 d1 d2 d3;have hiF:wr.heap.size∉ob :: F:=fun hx=>by
      rcases List.mem_cons.1 hx with e | hx
      ·omega
      ·have:=sX _ hx;omega
     clear sX;generalize (wr.alloc (.cells #[J Ab t] 3)).alloc (.cells #[J Ab x.state,J Ab x.need,J Ab x.try_,J Ab x.until_] 203)=w5 at *
     generalize wr.heap.size=iq at *
     have CH:=Bq (fun W (hW:Below w5 w5 W)=>M7 Z (⟨B1,m1,e1⟩,⟨B2,m2,e2⟩) y.runs[k].id t x.try_ W qE (Bu.rd_more (Bu.rd_below (x:=Z) (s:=(⟨B1,m1,e1⟩,⟨B2,m2,e2⟩)) (Bu.ow_rd (F:=F) (x:=Z) (s:=(⟨B1,m1,e1⟩,⟨B2,m2,e2⟩)) oy) hW) hW.size));have OB_:=OB.g4;have R_:=R.g8;have TB_:=TB.g4;obtain ⟨IB_0,IB_l⟩:=IB.g1;go_wp2_with fail
     refine (CH.out _ (Br _ _)).mono ?_;rintro e5 w6 ⟨rfl,b6⟩;clear CH;clear OB_;clear R_;clear TB_;clear IB_0 IB_l;replace OB:=OB.below b6;replace RES:=RES.below b6;replace R:=R.below b6;replace IB:=IB.below b6;clear TB;replace oy:Bu.ow _ F Z (⟨B1,m1,e1⟩,⟨B2,m2,e2⟩):=owB oy b6;replace hb:=Bv hb b6;clear b6;by_cases q:(By (Gg Z k) t).state=3;case neg =>
      rw [Cm (show ¬ Gq Z y.runs[k].id t x.try_ from fun h=>q (nL.out.1 h))];have aM:=Bq (show Gh Z k t=Z from Kd q);clear q nL;go_wp2;exact ⟨⟨t+1,Z,F,Bl,by go_num,⟨hT.out.1.mono Bl,hT.out.2⟩,aF.out.trans aM.out,oy,hF,OB,RES,R,hb⟩,clM⟩
     rw [Ds (show Gq Z y.runs[k].id t x.try_ from nL.out.2 q)];have aL:Hid (Iu Z.runs[k] t):=⟨fT.1,⟨Bl,Bl⟩,by rw [Ap,<-Ee dV];exact q⟩
     have aM:=Bq (show Gh Z k t=E0 Z k (Dm Z.runs[k] t) by rw [Jm q,Ee dV]);clear q nL;have CH:=Bq (Kt 222 iq (N0 func222 Bm Bm) Z ob (⟨B1,m1,e1⟩,⟨B2,m2,e2⟩) F k (Dm Z.runs[k] t) w6 hT.out.1.four (fun s hs=>by have:=hT.out.1.all s hs;omega) (by have:=hT.out.1.seq;omega) dV (by rw [Hd];have:=D4 aL.out.1;omega) (by have:=D4 aL.out.1;omega) OB oy hF.out.2.1
      (Bq fun W gr o n c rs G1 Fx G2 sr hW hFo=>Abo gr o n c rs k G1 Fx G2 Z.runs[k] sr t iq W ((IB.below hW).cell 0 _ rfl) (IB.below hW).lt aL.out hFo))
     rw [<-aM.out] at CH;go_wp2_with fail
     refine CH.out.mono ?_;rintro e6 wb ⟨rfl,F',OB',oy',nF',hc⟩;have bJ:=hb.size;have dL:=RES.lt;have hobA:=OB.lt;have hrbA:=R.lt;have cH:∀ x∈ob :: F,w+1<x:=fun x hx=>by
      rcases List.mem_cons.1 hx with rfl | hx
      ·exact hobR
      ·exact hF.out.1 x hx
     have hrn2:rb∉ob :: F:=fun hx=>by
      rcases List.mem_cons.1 hx with e | hx
      ·exact hrbn e
      ·exact hF.out.2.2 hx
     replace RES:=RES.chg hc (fun hx=>by have:=cH _ hx;omega);replace R:=R.chg hc hrn2;replace hb:=hb.trans (hc.below (base:=w) bJ (fun x hx=>by have:=cH x hx;omega));have rJ:Hid ((∀ x∈F',w+1<x)/\ob∉F'/\rb∉F'):=⟨fun x hx=>by
      rcases nF' x hx with h | h
      ·exact hF.out.1 x h
      ·omega,fun hx=>by
      rcases nF' _ hx with h | h
      ·exact hF.out.2.1 h
      ·omega,fun hx=>by
      rcases nF' _ hx with h | h
      ·exact hF.out.2.2 h
      ·omega⟩
     clear CH OB oy hc nF' cH hrn2 IB;generalize Gh Z k t=Z1 at *
     go_wp2;exact ⟨⟨t+1,Z1,F',Bl,by go_num,hN,aF,oy',rJ,OB',RES,R,hb⟩,clM⟩
    ·have pA:¬ (t:Int)<(y.runs[k].tasks.length:Int):=Bl;have hZ3:=Bq (show Ej y (Ik y (k+1))=Z by rw [Pj,Ee aB,show y.runs[k].tasks.length=t by omega];exact hZ.out);go_wp2;exact ⟨⟨k+1,Z,F,Bl,by go_num,⟨hT.out.1.mono Bl,hT.out.2⟩,hZ3,oy,⟨hF.out.1,hF.out.2.1⟩,OB,RES,hb⟩,clM⟩
  ·have aC:¬ (k:Int)<(y.runs.length:Int):=Bl;have H3:=Bq (show Kx y=Z by rw [H2.out,<-hZ.out,show k=y.runs.length by omega]);have oy:=oy.out;have OB_:=OB.g4;have RES_:=RES.g4;have rf:=RES.free;go_wp2;have en1:w.heap.size+1∉F:=fun hx=>by have:=hF.out.1 _ hx;omega
   refine Ak (Sq (DBox.row4 RES rfl _ _ _ _)) rfl ⟨(⟨B1,m1,e1⟩,⟨B2,m2,e2⟩),F,by rw [H3.out],by rw [H3.out];exact Bu.set4 (F:=F) (x:=Z) (s:=(⟨B1,m1,e1⟩,⟨B2,m2,e2⟩)) oy en1,fun x hx=>by have:=hF.out.1 x hx;omega,?_⟩;repeat (first | (with_reducible exact hb) | refine Ae ?_ Bo _)
theorem Chg.more {b g:Nat} {w w1 w2:World} (h:Chg [b] w w1) (k:Chg [g] w1 w2) (hg:w<=g):Chg [b] w w2 :=
 ⟨k.os.trans h.os,k.tape.trans h.tape,k.output.trans h.output,Ai h.size k.size,fun i hi hn=>(k.block i (Aj hi h.size) (fun hx=>by (have h5:i=g:=Aw.1 hx);omega)).trans (h.block i hi hn)⟩
theorem DBox.row11d {b:Nat} {cs:List Value} {w:World} (h:DBox b cs w) (hn:cs.length=11) (u0 u1 u2 u3 u4 u5 u6 u7 u8 u9 u10:Value) :
  DBox b [u0,u1,u2,u3,u4,u5,u6,u7,u8,u9,u10] (((((((((((w.setCell ⟨b,0,Ac⟩ u0).setCell ⟨b,1,Ac⟩ u1).setCell ⟨b,2,Ac⟩ u2).setCell ⟨b,3,Ac⟩ u3).setCell ⟨b,4,Ac⟩ u4).setCell ⟨b,5,Ac⟩ u5).setCell ⟨b,6,Ac⟩ u6).setCell ⟨b,7,Ac⟩ u7).setCell ⟨b,8,Ac⟩ u8).setCell ⟨b,9,Ac⟩ u9).setCell ⟨b,10,Ac⟩ u10):=by
 obtain ⟨c0,c1,c2,c3,c4,c5,c6,c7,c8,c9,c10,rfl⟩:∃ c0 c1 c2 c3 c4 c5 c6 c7 c8 c9 c10,cs=[c0,c1,c2,c3,c4,c5,c6,c7,c8,c9,c10]:=by
  match cs,hn with
  | [c0,c1,c2,c3,c4,c5,c6,c7,c8,c9,c10],_=>exact ⟨c0,c1,c2,c3,c4,c5,c6,c7,c8,c9,c10,rfl⟩
 exact ((((((((((h.set 0 Bn u0).set 1 Bn u1).set 2 Bn u2).set 3 Bn u3).set 4 Bn u4).set 5 Bn u5).set 6 Bn u6).set 7 Bn u7).set 8 Bn u8).set 9 Bn u9).set 10 Bn u10
theorem Ku {b:Nat} {w:World} {u0 u1 u2 u3 u4 u5 u6 u7 u8 u9 u10:Value} (X:DBox b [u0,u1,u2,u3,u4,u5,u6,u7,u8,u9,u10] w) {v0 v1 v2 v3:Value} {rest:List Value} :
  (results Tryz.f157 (v0 :: v1 :: v2 :: v3 :: .pointer (Ad ⟨b,0,Ac⟩) :: rest).toArray).run An w = .ok (.agg #[u0,u1,u2,u3,u4,u5,u6,u7,u8,u9,u10]) w:=by
 have c0:=X.cell 0 _ rfl;have c1:=X.cell 1 _ rfl;have c2:=X.cell 2 _ rfl;have c3:=X.cell 3 _ rfl;have c4:=X.cell 4 _ rfl;have c5:=X.cell 5 _ rfl;have c6:=X.cell 6 _ rfl;have c7:=X.cell 7 _ rfl;have c8:=X.cell 8 _ rfl;have c9:=X.cell 9 _ rfl;have c10:=X.cell 10 _ rfl;simp [results,results157,go_sem,c0,c1,c2,c3,c4,c5,c6,c7,c8,c9,c10]
def Jn:Plan:=⟨0,0,0,0,[]⟩
def Et (code:List UInt8) (y:Yard) (c:Cur):Deed×Cur :=
 let k:=Bw code 20 c
 if k.1<6 then
  let a:=Bw code 8 k.2
  let d:=Bw code 7 a.2
  (⟨2,0,Jn,0,0,a.1,d.1⟩,d.2)
 else if k.1<10 then
  let a:=Bw code 9 k.2
  let q:=Hu code a.2
  (⟨1,1+a.1,q.1,0,0,0,0⟩,q.2)
 else if k.1<15 then
  let a:=Fj code y.runs k.2
  (⟨3,a.1.1,Jn,E6 a.1.2.1 0 99,E6 a.1.2.2 0 99,0,0⟩,a.2)
 else if k.1=15 then
  let a:=Fj code y.runs k.2
  (⟨4,a.1.1,Jn,E6 a.1.2.1 0 99,E6 a.1.2.2 0 99,0,0⟩,a.2)
 else if k.1=16 then (⟨5,0,Jn,0,0,0,0⟩,k.2)
 else if k.1=17 then
  let a:=Bw code 9 k.2
  (⟨6,1+a.1,Jn,0,0,0,0⟩,a.2)
 else if k.1=18 then
  let a:=Bw code 9 k.2
  (⟨7,1+a.1,Jn,0,0,0,0⟩,a.2)
 else
  let o:=Ex code 3 k.2
  if o.1=true then (⟨8,0,Jn,0,0,0,0⟩,o.2) else (⟨5,0,Jn,0,0,0,0⟩,o.2)
def Ajn (b:Nat) (v:Value) (code:List UInt8) (r:Deed×Cur) (w:World) (e:Ending) (w':World):Prop :=
 ∃ (s:Sl) (F:List Nat),e = .returned (Dw r.1 s)/\Ck.ow w' F r.1.plan s/\(∀ x∈F,w<=x)/\Drw b v code r.2 w'/\Chg [b] w w'
theorem Ah1 (b:Nat) (v:Value) (code:List UInt8) (c:Cur) (y:Yard) (s:Sl×Sl) (F:List Nat) (w:World) (hl:Cf y<=2000000) (h:Drw b v code c w) (hy:Bu.ow w F y s) (bT:b∉F) :
  Calls An 157 #[.pointer (Ad ⟨b,0,Ac⟩),Dh y s] w (Ajn b v code (Et code y c) w):=by
 obtain ⟨⟨A1,n1,c1⟩,⟨A2,n2,c2⟩⟩:=s;have hb:=h.box.lt;have aV:=Bq (show ∀ x,x∈[b]->x=b from fun x hx=>by simpa using hx);have X:=(DBox.new 31 [J Ab y.now,J Ab y.seq,Aa A1 n1 c1,Aa A2 n2 c2] w (b:=w) rfl).below ((Br _ _).alloc (Bs _) (.cells #[J Ab 0,J Ab 0,J Ab 0,J Ab 0,J Ab 0,J Ab 0,Aa Ac 0 0,J Ab 0,J Ab 0,J Ab 0,J Ab 0] 45));have RES:=DBox.new 45 [J Ab 0,J Ab 0,J Ab 0,J Ab 0,J Ab 0,J Ab 0,Aa Ac 0 0,J Ab 0,J Ab 0,J Ab 0,J Ab 0] (w.alloc (.cells #[J Ab y.now,J Ab y.seq,Aa A1 n1 c1,Aa A2 n2 c2] 31)) (b:=w+1) Bn;have B0:Below w w ((w.alloc (.cells #[J Ab y.now,J Ab y.seq,Aa A1 n1 c1,Aa A2 n2 c2] 31)).alloc (.cells #[J Ab 0,J Ab 0,J Ab 0,J Ab 0,J Ab 0,J Ab 0,Aa Ac 0 0,J Ab 0,J Ab 0,J Ab 0,J Ab 0] 45)):=by repeat (first | exact Br _ _ | refine Below.alloc ?_ Bo _)
 replace h:=h.below B0;replace hy:Bu.ow _ F y (⟨A1,n1,c1⟩,⟨A2,n2,c2⟩):=owB hy B0;have hC:=Chg.of_below [b] B0;go_enter func157,ntmps157;go_wp2_with fail
 generalize ((w.alloc (.cells #[J Ab y.now,J Ab y.seq,Aa A1 n1 c1,Aa A2 n2 c2] 31)).alloc (.cells #[J Ab 0,J Ab 0,J Ab 0,J Ab 0,J Ab 0,J Ab 0,Aa Ac 0 0,J Ab 0,J Ab 0,J Ab 0,J Ab 0] 45))=W at *
 have hWl:w.heap.size+1<W.heap.size:=RES.lt;refine (E8 20 b _ code c W Bp h ).mono ?_;rintro e_w1 w1 ⟨rfl,h1,cc1⟩;replace RES:=RES.chg cc1 (fun hx=>by have:=aV.out _ hx;omega);replace X:=X.chg cc1 (fun hx=>by have:=aV.out _ hx;omega);replace hy:Bu.ow w1 F y (⟨A1,n1,c1⟩,⟨A2,n2,c2⟩):=owC hy cc1 (fun x hx hx2=>by have h1:=aV.out x hx2;subst h1;exact bT hx);replace hC:=hC.trans cc1;have hk:=Dz code (n:=20) c Bp;have HD:Hid (Et code y c=Et code y c):=rfl;by_cases q6:(Bw code 20 c).1<6
 ·have H:=Bq (show Et code y c=(⟨2,0,Jn,0,0,(Bw code 8 (Bw code 20 c).2).1,(Bw code 7 (Bw code 8 (Bw code 20 c).2).2).1⟩,(Bw code 7 (Bw code 8 (Bw code 20 c).2).2).2) from if_pos q6);generalize Bw code 20 c=k at *
  go_wp2_with fail
  refine (E8 8 b _ code k.2 w1 Bp h1 ).mono ?_;rintro e_w2 w2 ⟨rfl,h2,cc2⟩;replace RES:=RES.chg cc2 (fun hx=>by have:=aV.out _ hx;omega);replace X:=X.chg cc2 (fun hx=>by have:=aV.out _ hx;omega);replace hy:Bu.ow w2 F y (⟨A1,n1,c1⟩,⟨A2,n2,c2⟩):=owC hy cc2 (fun x hx hx2=>by have h1:=aV.out x hx2;subst h1;exact bT hx);replace hC:=hC.trans cc2;go_wp2_with fail
  refine (E8 7 b _ code (Bw code 8 k.2).2 w2 Bp h2 ).mono ?_;rintro e_w3 w3 ⟨rfl,h3,cc3⟩;replace RES:=RES.chg cc3 (fun hx=>by have:=aV.out _ hx;omega);replace X:=X.chg cc3 (fun hx=>by have:=aV.out _ hx;omega);replace hy:Bu.ow w3 F y (⟨A1,n1,c1⟩,⟨A2,n2,c2⟩):=owC hy cc3 (fun x hx hx2=>by have h1:=aV.out x hx2;subst h1;exact bT hx);replace hC:=hC.trans cc3;have eN:Chg [w.heap.size+1] w3 (((((((((((w3.setCell ⟨w+1,0,Ac⟩ (J Ab 2)).setCell ⟨w+1,1,Ac⟩ (J Ab 0)).setCell ⟨w+1,2,Ac⟩ (J Ab 0)).setCell ⟨w+1,3,Ac⟩ (J Ab 0)).setCell ⟨w+1,4,Ac⟩ (J Ab 0)).setCell ⟨w+1,5,Ac⟩ (J Ab 0)).setCell ⟨w+1,6,Ac⟩ (Aa Ac 0 0)).setCell ⟨w+1,7,Ac⟩ (J Ab 0)).setCell ⟨w+1,8,Ac⟩ (J Ab 0)).setCell ⟨w+1,9,Ac⟩ (J Ab (Bw code 8 k.2).1)).setCell ⟨w+1,10,Ac⟩ (J Ab (Bw code 7 (Bw code 8 k.2).2).1)):=Fn [J Ab 2,J Ab 0,J Ab 0,J Ab 0,J Ab 0,J Ab 0,Aa Ac 0 0,J Ab 0,J Ab 0,J Ab (Bw code 8 k.2).1,J Ab (Bw code 7 (Bw code 8 k.2).2).1] w3 (w+1) 0;have RES2:=DBox.row11d RES rfl (J Ab 2) (J Ab 0) (J Ab 0) (J Ab 0) (J Ab 0) (J Ab 0) (Aa Ac 0 0) (J Ab 0) (J Ab 0) (J Ab (Bw code 8 k.2).1) (J Ab (Bw code 7 (Bw code 8 k.2).2).1);have h9:=h3.chg eN (fun x hx=>by (have h5:x=w.heap.size+1:=Aw.1 hx);omega);have jB:=hC.more eN (Nat.le_succ _);have RES_:=RES.g11;have rf:=RES.free;go_wp2;refine Ak (Ku RES2) rfl ⟨⟨Ac,0,0⟩,[],by rw [H.out]<;>rfl,by rw [H.out];exact OwL.nil Kj _ Ac 0,(fun _ h=>by cases h),by rw [H.out];exact h9,jB⟩
 by_cases q10:(Bw code 20 c).1<10
 ·have H:=Bq (show Et code y c=(⟨1,1+(Bw code 9 (Bw code 20 c).2).1,(Hu code (Bw code 9 (Bw code 20 c).2).2).1,0,0,0,0⟩,(Hu code (Bw code 9 (Bw code 20 c).2).2).2) by unfold Et;rw [if_neg q6,if_pos q10]);have b9:=Dz code (n:=9) (Bw code 20 c).2 Bp;have wr1:Ab.wrap (1+(Bw code 9 (Bw code 20 c).2).1)=1+(Bw code 9 (Bw code 20 c).2).1:=Ar _ Bl;clear b9;generalize Bw code 20 c=k at *
  go_wp2_with fail
  refine (E8 9 b _ code k.2 w1 Bp h1 ).mono ?_;rintro e_w2 w2 ⟨rfl,h2,cc2⟩;replace RES:=RES.chg cc2 (fun hx=>by have:=aV.out _ hx;omega);replace X:=X.chg cc2 (fun hx=>by have:=aV.out _ hx;omega);replace hy:Bu.ow w2 F y (⟨A1,n1,c1⟩,⟨A2,n2,c2⟩):=owC hy cc2 (fun x hx hx2=>by have h1:=aV.out x hx2;subst h1;exact bT hx);replace hC:=hC.trans cc2;go_wp2_with fail
  refine (Ry b _ code (Bw code 9 k.2).2 w2 h2 ).mono ?_;rintro e_w3 w3 ⟨pu,rfl,po,h3,cc3⟩;replace RES:=RES.chg cc3 (fun hx=>by have:=aV.out _ hx;omega);replace X:=X.chg cc3 (fun hx=>by have:=aV.out _ hx;omega);replace hy:Bu.ow w3 F y (⟨A1,n1,c1⟩,⟨A2,n2,c2⟩):=owC hy cc3 (fun x hx hx2=>by have h1:=aV.out x hx2;subst h1;exact bT hx);replace hC:=hC.trans cc3;obtain ⟨⟨pa,pn,pc⟩,Fp,rfl,po1,pn1⟩:=Afg po;have cN:=cc2.size;have bG:=cc1.size;have gA:=B0.size;have hR1:w.heap.size+1<w2.heap.size:=Bl;have po2:=po1.chg (show Chg [w.heap.size+1] w3 _ from Fn [J Ab 1,J Ab (1+(Bw code 9 k.2).1),J Ab (Hu code (Bw code 9 k.2).2).1.prio,J Ab (Hu code (Bw code 9 k.2).2).1.most,J Ab (Hu code (Bw code 9 k.2).2).1.wait,J Ab (Hu code (Bw code 9 k.2).2).1.tasks,Aa pa pn pc,J Ab 0,J Ab 0,J Ab 0,J Ab 0] w3 (w.heap.size+1) 0) (fun x hx hx2=>by (have h5:x=w.heap.size+1:=Aw.1 hx2);(have h6:=pn1 x hx);omega);generalize (Hu code (Bw code 9 k.2).2)=q at *
  have eN:Chg [w.heap.size+1] w3 (((((((((((w3.setCell ⟨w+1,0,Ac⟩ (J Ab 1)).setCell ⟨w+1,1,Ac⟩ (J Ab (1+(Bw code 9 k.2).1))).setCell ⟨w+1,2,Ac⟩ (J Ab q.1.prio)).setCell ⟨w+1,3,Ac⟩ (J Ab q.1.most)).setCell ⟨w+1,4,Ac⟩ (J Ab q.1.wait)).setCell ⟨w+1,5,Ac⟩ (J Ab q.1.tasks)).setCell ⟨w+1,6,Ac⟩ (Aa pa pn pc)).setCell ⟨w+1,7,Ac⟩ (J Ab 0)).setCell ⟨w+1,8,Ac⟩ (J Ab 0)).setCell ⟨w+1,9,Ac⟩ (J Ab 0)).setCell ⟨w+1,10,Ac⟩ (J Ab 0)):=Fn [J Ab 1,J Ab (1+(Bw code 9 k.2).1),J Ab q.1.prio,J Ab q.1.most,J Ab q.1.wait,J Ab q.1.tasks,Aa pa pn pc,J Ab 0,J Ab 0,J Ab 0,J Ab 0] w3 (w+1) 0;have RES2:=DBox.row11d RES rfl (J Ab 1) (J Ab (1+(Bw code 9 k.2).1)) (J Ab q.1.prio) (J Ab q.1.most) (J Ab q.1.wait) (J Ab q.1.tasks) (Aa pa pn pc) (J Ab 0) (J Ab 0) (J Ab 0) (J Ab 0);have h9:=h3.chg eN (fun x hx=>by (have h5:x=w.heap.size+1:=Aw.1 hx);omega);have jB:=hC.more eN (Nat.le_succ _);have RES_:=RES.g11;have rf:=RES.free;go_wp2;refine Ak (Ku RES2) rfl ⟨⟨pa,pn,pc⟩,Fp,by rw [H.out]<;>rfl,by rw [H.out];exact po2,fun x hx=>by have:=pn1 x hx;omega,by rw [H.out];exact h9,jB⟩
 by_cases q15:(Bw code 20 c).1<15
 ·have H:=Bq (show Et code y c=(⟨3,(Fj code y.runs (Bw code 20 c).2).1.1,Jn,E6 (Fj code y.runs (Bw code 20 c).2).1.2.1 0 99,E6 (Fj code y.runs (Bw code 20 c).2).1.2.2 0 99,0,0⟩,(Fj code y.runs (Bw code 20 c).2).2) by unfold Et;rw [if_neg q6,if_neg q10,if_pos q15]);skip;generalize Bw code 20 c=k at *
  have X_:=X.g4;go_wp2_with fail
  refine (Adj b _ code k.2 y (⟨A1,n1,c1⟩,⟨A2,n2,c2⟩) F w1 hl h1 hy bT ).mono ?_;rintro e_w2 w2 ⟨rfl,h2,cc2⟩;replace RES:=RES.chg cc2 (fun hx=>by have:=aV.out _ hx;omega);replace X:=X.chg cc2 (fun hx=>by have:=aV.out _ hx;omega);replace hy:Bu.ow w2 F y (⟨A1,n1,c1⟩,⟨A2,n2,c2⟩):=owC hy cc2 (fun x hx hx2=>by have h1:=aV.out x hx2;subst h1;exact bT hx);replace hC:=hC.trans cc2;generalize Fj code y.runs k.2=hh at *
  clear X_;have eN:Chg [w.heap.size+1] w2 (((((((((((w2.setCell ⟨w+1,0,Ac⟩ (J Ab 3)).setCell ⟨w+1,1,Ac⟩ (J Ab hh.1.1)).setCell ⟨w+1,2,Ac⟩ (J Ab 0)).setCell ⟨w+1,3,Ac⟩ (J Ab 0)).setCell ⟨w+1,4,Ac⟩ (J Ab 0)).setCell ⟨w+1,5,Ac⟩ (J Ab 0)).setCell ⟨w+1,6,Ac⟩ (Aa Ac 0 0)).setCell ⟨w+1,7,Ac⟩ (J Ab (E6 hh.1.2.1 0 99))).setCell ⟨w+1,8,Ac⟩ (J Ab (E6 hh.1.2.2 0 99))).setCell ⟨w+1,9,Ac⟩ (J Ab 0)).setCell ⟨w+1,10,Ac⟩ (J Ab 0)):=Fn [J Ab 3,J Ab hh.1.1,J Ab 0,J Ab 0,J Ab 0,J Ab 0,Aa Ac 0 0,J Ab (E6 hh.1.2.1 0 99),J Ab (E6 hh.1.2.2 0 99),J Ab 0,J Ab 0] w2 (w+1) 0;have RES2:=DBox.row11d RES rfl (J Ab 3) (J Ab hh.1.1) (J Ab 0) (J Ab 0) (J Ab 0) (J Ab 0) (Aa Ac 0 0) (J Ab (E6 hh.1.2.1 0 99)) (J Ab (E6 hh.1.2.2 0 99)) (J Ab 0) (J Ab 0);have h9:=h2.chg eN (fun x hx=>by (have h5:x=w.heap.size+1:=Aw.1 hx);omega);have jB:=hC.more eN (Nat.le_succ _);have RES_:=RES.g11;have rf:=RES.free;go_wp2_with (go_at_call 231;refine (Lp _ 0 99 _ Bp).mono ?_;rintro e w9 ⟨rfl,rfl⟩)
  refine Ak (Ku RES2) rfl ⟨⟨Ac,0,0⟩,[],by rw [H.out]<;>rfl,by rw [H.out];exact OwL.nil Kj _ Ac 0,(fun _ h=>by cases h),by rw [H.out];exact h9,jB⟩
 by_cases q15e:(Bw code 20 c).1=15
 ·have H:=Bq (show Et code y c=(⟨4,(Fj code y.runs (Bw code 20 c).2).1.1,Jn,E6 (Fj code y.runs (Bw code 20 c).2).1.2.1 0 99,E6 (Fj code y.runs (Bw code 20 c).2).1.2.2 0 99,0,0⟩,(Fj code y.runs (Bw code 20 c).2).2) by unfold Et;rw [if_neg q6,if_neg q10,if_neg q15,if_pos q15e]);have r15:((Bw code 20 c).1 == 15)=true:=by simp [q15e]
  clear q15e;generalize Bw code 20 c=k at *
  have X_:=X.g4;go_wp2_with fail
  refine (Adj b _ code k.2 y (⟨A1,n1,c1⟩,⟨A2,n2,c2⟩) F w1 hl h1 hy bT ).mono ?_;rintro e_w2 w2 ⟨rfl,h2,cc2⟩;replace RES:=RES.chg cc2 (fun hx=>by have:=aV.out _ hx;omega);replace X:=X.chg cc2 (fun hx=>by have:=aV.out _ hx;omega);replace hy:Bu.ow w2 F y (⟨A1,n1,c1⟩,⟨A2,n2,c2⟩):=owC hy cc2 (fun x hx hx2=>by have h1:=aV.out x hx2;subst h1;exact bT hx);replace hC:=hC.trans cc2;generalize Fj code y.runs k.2=hh at *
  clear X_;have eN:Chg [w.heap.size+1] w2 (((((((((((w2.setCell ⟨w+1,0,Ac⟩ (J Ab 4)).setCell ⟨w+1,1,Ac⟩ (J Ab hh.1.1)).setCell ⟨w+1,2,Ac⟩ (J Ab 0)).setCell ⟨w+1,3,Ac⟩ (J Ab 0)).setCell ⟨w+1,4,Ac⟩ (J Ab 0)).setCell ⟨w+1,5,Ac⟩ (J Ab 0)).setCell ⟨w+1,6,Ac⟩ (Aa Ac 0 0)).setCell ⟨w+1,7,Ac⟩ (J Ab (E6 hh.1.2.1 0 99))).setCell ⟨w+1,8,Ac⟩ (J Ab (E6 hh.1.2.2 0 99))).setCell ⟨w+1,9,Ac⟩ (J Ab 0)).setCell ⟨w+1,10,Ac⟩ (J Ab 0)):=Fn [J Ab 4,J Ab hh.1.1,J Ab 0,J Ab 0,J Ab 0,J Ab 0,Aa Ac 0 0,J Ab (E6 hh.1.2.1 0 99),J Ab (E6 hh.1.2.2 0 99),J Ab 0,J Ab 0] w2 (w+1) 0;have RES2:=DBox.row11d RES rfl (J Ab 4) (J Ab hh.1.1) (J Ab 0) (J Ab 0) (J Ab 0) (J Ab 0) (Aa Ac 0 0) (J Ab (E6 hh.1.2.1 0 99)) (J Ab (E6 hh.1.2.2 0 99)) (J Ab 0) (J Ab 0);have h9:=h2.chg eN (fun x hx=>by (have h5:x=w.heap.size+1:=Aw.1 hx);omega);have jB:=hC.more eN (Nat.le_succ _);have RES_:=RES.g11;have rf:=RES.free;go_wp2_with (go_at_call 231;refine (Lp _ 0 99 _ Bp).mono ?_;rintro e w9 ⟨rfl,rfl⟩)
  refine Ak (Ku RES2) rfl ⟨⟨Ac,0,0⟩,[],by rw [H.out]<;>rfl,by rw [H.out];exact OwL.nil Kj _ Ac 0,(fun _ h=>by cases h),by rw [H.out];exact h9,jB⟩
 by_cases q16:(Bw code 20 c).1=16
 ·have H:=Bq (show Et code y c=(⟨5,0,Jn,0,0,0,0⟩,(Bw code 20 c).2) by unfold Et;rw [if_neg q6,if_neg q10,if_neg q15,if_neg q15e,if_pos q16]);have r15:((Bw code 20 c).1 == 15)=false:=beq_eq_false_iff_ne.2 Bl;have r16:((Bw code 20 c).1 == 16)=true:=by simp [q16]
  clear q16;generalize Bw code 20 c=k at *
  have eN:Chg [w.heap.size+1] w1 (((((((((((w1.setCell ⟨w+1,0,Ac⟩ (J Ab 5)).setCell ⟨w+1,1,Ac⟩ (J Ab 0)).setCell ⟨w+1,2,Ac⟩ (J Ab 0)).setCell ⟨w+1,3,Ac⟩ (J Ab 0)).setCell ⟨w+1,4,Ac⟩ (J Ab 0)).setCell ⟨w+1,5,Ac⟩ (J Ab 0)).setCell ⟨w+1,6,Ac⟩ (Aa Ac 0 0)).setCell ⟨w+1,7,Ac⟩ (J Ab 0)).setCell ⟨w+1,8,Ac⟩ (J Ab 0)).setCell ⟨w+1,9,Ac⟩ (J Ab 0)).setCell ⟨w+1,10,Ac⟩ (J Ab 0)):=Fn [J Ab 5,J Ab 0,J Ab 0,J Ab 0,J Ab 0,J Ab 0,Aa Ac 0 0,J Ab 0,J Ab 0,J Ab 0,J Ab 0] w1 (w+1) 0;have RES2:=DBox.row11d RES rfl (J Ab 5) (J Ab 0) (J Ab 0) (J Ab 0) (J Ab 0) (J Ab 0) (Aa Ac 0 0) (J Ab 0) (J Ab 0) (J Ab 0) (J Ab 0);have h9:=h1.chg eN (fun x hx=>by (have h5:x=w.heap.size+1:=Aw.1 hx);omega);have jB:=hC.more eN (Nat.le_succ _);have RES_:=RES.g11;have rf:=RES.free;go_wp2;refine Ak (Ku RES2) rfl ⟨⟨Ac,0,0⟩,[],by rw [H.out]<;>rfl,by rw [H.out];exact OwL.nil Kj _ Ac 0,(fun _ h=>by cases h),by rw [H.out];exact h9,jB⟩
 by_cases q17:(Bw code 20 c).1=17
 ·have H:=Bq (show Et code y c=(⟨6,1+(Bw code 9 (Bw code 20 c).2).1,Jn,0,0,0,0⟩,(Bw code 9 (Bw code 20 c).2).2) by unfold Et;rw [if_neg q6,if_neg q10,if_neg q15,if_neg q15e,if_neg q16,if_pos q17]);have b9:=Dz code (n:=9) (Bw code 20 c).2 Bp;have wr1:Ab.wrap (1+(Bw code 9 (Bw code 20 c).2).1)=1+(Bw code 9 (Bw code 20 c).2).1:=Ar _ Bl;clear b9;have r15:((Bw code 20 c).1 == 15)=false:=beq_eq_false_iff_ne.2 Bl;have r16:((Bw code 20 c).1 == 16)=false:=beq_eq_false_iff_ne.2 Bl;have r17:((Bw code 20 c).1 == 17)=true:=by simp [q17]
  clear q17;generalize Bw code 20 c=k at *
  go_wp2_with fail
  refine (E8 9 b _ code k.2 w1 Bp h1 ).mono ?_;rintro e_w2 w2 ⟨rfl,h2,cc2⟩;replace RES:=RES.chg cc2 (fun hx=>by have:=aV.out _ hx;omega);replace X:=X.chg cc2 (fun hx=>by have:=aV.out _ hx;omega);replace hy:Bu.ow w2 F y (⟨A1,n1,c1⟩,⟨A2,n2,c2⟩):=owC hy cc2 (fun x hx hx2=>by have h1:=aV.out x hx2;subst h1;exact bT hx);replace hC:=hC.trans cc2;have eN:Chg [w.heap.size+1] w2 (((((((((((w2.setCell ⟨w+1,0,Ac⟩ (J Ab 6)).setCell ⟨w+1,1,Ac⟩ (J Ab (1+(Bw code 9 k.2).1))).setCell ⟨w+1,2,Ac⟩ (J Ab 0)).setCell ⟨w+1,3,Ac⟩ (J Ab 0)).setCell ⟨w+1,4,Ac⟩ (J Ab 0)).setCell ⟨w+1,5,Ac⟩ (J Ab 0)).setCell ⟨w+1,6,Ac⟩ (Aa Ac 0 0)).setCell ⟨w+1,7,Ac⟩ (J Ab 0)).setCell ⟨w+1,8,Ac⟩ (J Ab 0)).setCell ⟨w+1,9,Ac⟩ (J Ab 0)).setCell ⟨w+1,10,Ac⟩ (J Ab 0)):=Fn [J Ab 6,J Ab (1+(Bw code 9 k.2).1),J Ab 0,J Ab 0,J Ab 0,J Ab 0,Aa Ac 0 0,J Ab 0,J Ab 0,J Ab 0,J Ab 0] w2 (w+1) 0;have RES2:=DBox.row11d RES rfl (J Ab 6) (J Ab (1+(Bw code 9 k.2).1)) (J Ab 0) (J Ab 0) (J Ab 0) (J Ab 0) (Aa Ac 0 0) (J Ab 0) (J Ab 0) (J Ab 0) (J Ab 0);have h9:=h2.chg eN (fun x hx=>by (have h5:x=w.heap.size+1:=Aw.1 hx);omega);have jB:=hC.more eN (Nat.le_succ _);have RES_:=RES.g11;have rf:=RES.free;go_wp2;refine Ak (Ku RES2) rfl ⟨⟨Ac,0,0⟩,[],by rw [H.out]<;>rfl,by rw [H.out];exact OwL.nil Kj _ Ac 0,(fun _ h=>by cases h),by rw [H.out];exact h9,jB⟩
 by_cases q18:(Bw code 20 c).1=18
 ·have H:=Bq (show Et code y c=(⟨7,1+(Bw code 9 (Bw code 20 c).2).1,Jn,0,0,0,0⟩,(Bw code 9 (Bw code 20 c).2).2) by unfold Et;rw [if_neg q6,if_neg q10,if_neg q15,if_neg q15e,if_neg q16,if_neg q17,if_pos q18]);have b9:=Dz code (n:=9) (Bw code 20 c).2 Bp;have wr1:Ab.wrap (1+(Bw code 9 (Bw code 20 c).2).1)=1+(Bw code 9 (Bw code 20 c).2).1:=Ar _ Bl;clear b9;have r15:((Bw code 20 c).1 == 15)=false:=beq_eq_false_iff_ne.2 Bl;have r16:((Bw code 20 c).1 == 16)=false:=beq_eq_false_iff_ne.2 Bl;have r17:((Bw code 20 c).1 == 17)=false:=beq_eq_false_iff_ne.2 Bl;have r18:((Bw code 20 c).1 == 18)=true:=by simp [q18]
  clear q18;generalize Bw code 20 c=k at *
  go_wp2_with fail
  refine (E8 9 b _ code k.2 w1 Bp h1 ).mono ?_;rintro e_w2 w2 ⟨rfl,h2,cc2⟩;replace RES:=RES.chg cc2 (fun hx=>by have:=aV.out _ hx;omega);replace X:=X.chg cc2 (fun hx=>by have:=aV.out _ hx;omega);replace hy:Bu.ow w2 F y (⟨A1,n1,c1⟩,⟨A2,n2,c2⟩):=owC hy cc2 (fun x hx hx2=>by have h1:=aV.out x hx2;subst h1;exact bT hx);replace hC:=hC.trans cc2;have eN:Chg [w.heap.size+1] w2 (((((((((((w2.setCell ⟨w+1,0,Ac⟩ (J Ab 7)).setCell ⟨w+1,1,Ac⟩ (J Ab (1+(Bw code 9 k.2).1))).setCell ⟨w+1,2,Ac⟩ (J Ab 0)).setCell ⟨w+1,3,Ac⟩ (J Ab 0)).setCell ⟨w+1,4,Ac⟩ (J Ab 0)).setCell ⟨w+1,5,Ac⟩ (J Ab 0)).setCell ⟨w+1,6,Ac⟩ (Aa Ac 0 0)).setCell ⟨w+1,7,Ac⟩ (J Ab 0)).setCell ⟨w+1,8,Ac⟩ (J Ab 0)).setCell ⟨w+1,9,Ac⟩ (J Ab 0)).setCell ⟨w+1,10,Ac⟩ (J Ab 0)):=Fn [J Ab 7,J Ab (1+(Bw code 9 k.2).1),J Ab 0,J Ab 0,J Ab 0,J Ab 0,Aa Ac 0 0,J Ab 0,J Ab 0,J Ab 0,J Ab 0] w2 (w+1) 0;have RES2:=DBox.row11d RES rfl (J Ab 7) (J Ab (1+(Bw code 9 k.2).1)) (J Ab 0) (J Ab 0) (J Ab 0) (J Ab 0) (Aa Ac 0 0) (J Ab 0) (J Ab 0) (J Ab 0) (J Ab 0);have h9:=h2.chg eN (fun x hx=>by (have h5:x=w.heap.size+1:=Aw.1 hx);omega);have jB:=hC.more eN (Nat.le_succ _);have RES_:=RES.g11;have rf:=RES.free;go_wp2;refine Ak (Ku RES2) rfl ⟨⟨Ac,0,0⟩,[],by rw [H.out]<;>rfl,by rw [H.out];exact OwL.nil Kj _ Ac 0,(fun _ h=>by cases h),by rw [H.out];exact h9,jB⟩
 have H0:=Bq (show Et code y c=(if (Ex code 3 (Bw code 20 c).2).1=true then (⟨8,0,Jn,0,0,0,0⟩,(Ex code 3 (Bw code 20 c).2).2) else (⟨5,0,Jn,0,0,0,0⟩,(Ex code 3 (Bw code 20 c).2).2)) by unfold Et;rw [if_neg q6,if_neg q10,if_neg q15,if_neg q15e,if_neg q16,if_neg q17,if_neg q18]);have r15:((Bw code 20 c).1 == 15)=false:=beq_eq_false_iff_ne.2 Bl;have r16:((Bw code 20 c).1 == 16)=false:=beq_eq_false_iff_ne.2 Bl;have r17:((Bw code 20 c).1 == 17)=false:=beq_eq_false_iff_ne.2 Bl;have r18:((Bw code 20 c).1 == 18)=false:=beq_eq_false_iff_ne.2 Bl;generalize Bw code 20 c=k at *
 go_wp2_with fail
 refine (Ru 3 b _ code k.2 w1 Bp h1 ).mono ?_;rintro e_w2 w2 ⟨rfl,h2,cc2⟩;replace RES:=RES.chg cc2 (fun hx=>by have:=aV.out _ hx;omega);replace X:=X.chg cc2 (fun hx=>by have:=aV.out _ hx;omega);replace hy:Bu.ow w2 F y (⟨A1,n1,c1⟩,⟨A2,n2,c2⟩):=owC hy cc2 (fun x hx hx2=>by have h1:=aV.out x hx2;subst h1;exact bT hx);replace hC:=hC.trans cc2;cases o3:(Ex code 3 k.2).1
 ·have H:=Bq (H0.out.trans (if_neg (by rw [o3];simp)));have eN:Chg [w.heap.size+1] w2 (((((((((((w2.setCell ⟨w+1,0,Ac⟩ (J Ab 5)).setCell ⟨w+1,1,Ac⟩ (J Ab 0)).setCell ⟨w+1,2,Ac⟩ (J Ab 0)).setCell ⟨w+1,3,Ac⟩ (J Ab 0)).setCell ⟨w+1,4,Ac⟩ (J Ab 0)).setCell ⟨w+1,5,Ac⟩ (J Ab 0)).setCell ⟨w+1,6,Ac⟩ (Aa Ac 0 0)).setCell ⟨w+1,7,Ac⟩ (J Ab 0)).setCell ⟨w+1,8,Ac⟩ (J Ab 0)).setCell ⟨w+1,9,Ac⟩ (J Ab 0)).setCell ⟨w+1,10,Ac⟩ (J Ab 0)):=Fn [J Ab 5,J Ab 0,J Ab 0,J Ab 0,J Ab 0,J Ab 0,Aa Ac 0 0,J Ab 0,J Ab 0,J Ab 0,J Ab 0] w2 (w+1) 0;have RES2:=DBox.row11d RES rfl (J Ab 5) (J Ab 0) (J Ab 0) (J Ab 0) (J Ab 0) (J Ab 0) (Aa Ac 0 0) (J Ab 0) (J Ab 0) (J Ab 0) (J Ab 0);have h9:=h2.chg eN (fun x hx=>by (have h5:x=w.heap.size+1:=Aw.1 hx);omega);have jB:=hC.more eN (Nat.le_succ _);have RES_:=RES.g11;have rf:=RES.free;go_wp2;refine Ak (Ku RES2) rfl ⟨⟨Ac,0,0⟩,[],by rw [H.out]<;>rfl,by rw [H.out];exact OwL.nil Kj _ Ac 0,(fun _ h=>by cases h),by rw [H.out];exact h9,jB⟩
 ·have H:=Bq (H0.out.trans (if_pos o3));have eN:Chg [w.heap.size+1] w2 (((((((((((w2.setCell ⟨w+1,0,Ac⟩ (J Ab 8)).setCell ⟨w+1,1,Ac⟩ (J Ab 0)).setCell ⟨w+1,2,Ac⟩ (J Ab 0)).setCell ⟨w+1,3,Ac⟩ (J Ab 0)).setCell ⟨w+1,4,Ac⟩ (J Ab 0)).setCell ⟨w+1,5,Ac⟩ (J Ab 0)).setCell ⟨w+1,6,Ac⟩ (Aa Ac 0 0)).setCell ⟨w+1,7,Ac⟩ (J Ab 0)).setCell ⟨w+1,8,Ac⟩ (J Ab 0)).setCell ⟨w+1,9,Ac⟩ (J Ab 0)).setCell ⟨w+1,10,Ac⟩ (J Ab 0)):=Fn [J Ab 8,J Ab 0,J Ab 0,J Ab 0,J Ab 0,J Ab 0,Aa Ac 0 0,J Ab 0,J Ab 0,J Ab 0,J Ab 0] w2 (w+1) 0;have RES2:=DBox.row11d RES rfl (J Ab 8) (J Ab 0) (J Ab 0) (J Ab 0) (J Ab 0) (J Ab 0) (Aa Ac 0 0) (J Ab 0) (J Ab 0) (J Ab 0) (J Ab 0);have h9:=h2.chg eN (fun x hx=>by (have h5:x=w.heap.size+1:=Aw.1 hx);omega);have jB:=hC.more eN (Nat.le_succ _);have RES_:=RES.g11;have rf:=RES.free;go_wp2;refine Ak (Ku RES2) rfl ⟨⟨Ac,0,0⟩,[],by rw [H.out]<;>rfl,by rw [H.out];exact OwL.nil Kj _ Ac 0,(fun _ h=>by cases h),by rw [H.out];exact h9,jB⟩
def Ads (r:Run):Prop:=Gr r /\ ∀ t,t<r.tasks.length->(By r t).state=1->(By r t).try_<r.plan.most
def Lq (l:List Run):Nat:=(l.map fun r=>Cp r.tasks 2).sum
def Ky (r:Run):Nat:=if r.state=1 then r.tasks.length else 0
theorem Lb:∀ l:List Run,Gk l=(l.map Ky).sum
 | []=>rfl
 | r :: l=>by
  have ih:=Lb l;unfold Gk at *
  by_cases h:r.state=1
  ·simp [Ky,h,ih]
  ·simp [Ky,h,ih]
theorem Sr {α:Type} (f:α->Nat) (x:α):∀ (l:List α) (k:Nat) (hk:k<l.length),((l.set k x).map f).sum+f l[k]=(l.map f).sum+f x
 | a :: l,0,_=>by simp;omega
 | a :: l,k+1,hk=>by
  have:=Sr f x l k (by simpa using hk)
  simp only [List.set_cons_succ,List.map_cons,List.sum_cons,List.getElem_cons_succ];omega
def Ai9 (now:Int) (r:Run) (es:List Entry) (t:Nat):Prop :=
 ((By r t).state=2->(∀ e∈es,Gy r.id t e=true->e.prio=r.plan.prio)/\Ec r.id t es=1) /\
 ((By r t).state=1\/(By r t).state=3->Ec r.id t es=0) /\
 ((By r t).state=3->now+1<=(By r t).until_/\(By r t).until_<=now+r.plan.wait)
structure Core (now seq:Int) (es:List Entry) (runs:List Run):Prop where
 le8:runs.length<=8
 ids:(runs.map (·.id)).Nodup
 run:∀ r∈runs,Ads r
 seqs:∀ e∈es,1<=e.seq/\e.seq<seq
 nodup:(es.map (·.seq)).Nodup
 home:∀ e∈es,∃ r∈runs,∃ t,t<r.tasks.length/\Gy r.id t e=true
 laid:∀ r∈runs,∀ t,t<r.tasks.length->Ai9 now r es t
 slots:Gk runs+es.length<=40+Lq runs
structure Sound (y:Yard):Prop where
 sh:Shelves y.shelf
 core:Core y.now y.seq y.shelf.flatten y.runs
theorem X8 {es es':List Entry} (h:es.Perm es') (id:Int) (t:Nat):Ec id t es=Ec id t es':=(h.filter _).length_eq
theorem Core.perm {now seq:Int} {es es':List Entry} {runs:List Run} (h:Core now seq es runs) (p:es.Perm es'):Core now seq es' runs :=
 ⟨h.le8,h.ids,h.run,fun e he=>h.seqs e (p.mem_iff.2 he),(p.map _).nodup_iff.1 h.nodup,fun e he=>h.home e (p.mem_iff.2 he),fun r hr t ht=>by
  obtain ⟨a,b,c⟩:=h.laid r hr t ht;refine ⟨fun hs=>⟨fun e he=>(a hs).1 e (p.mem_iff.2 he),by rw [<-X8 p];exact (a hs).2⟩,fun hs=>by rw [<-X8 p];exact b hs,c⟩,by rw [<-p.length_eq];exact h.slots⟩
theorem Qe {r:Run} (h:Gr r) (hs:r.state≠1):Cp r.tasks 1=0/\Cp r.tasks 2=0/\Cp r.tasks 3=0:=by
 obtain ⟨_,_,_,h4,h5,h6⟩:=h;have hA:=R8 (l:=r.tasks) (fun x hx=>by
  obtain ⟨k,hk,rfl⟩:=List.getElem_of_mem hx
  have:=h4 k hk
  unfold Gz at this;rw [Co hk] at this;exact this.1)
 unfold stL at h5;unfold Km at *
 split at h5
 ·omega
 ·split at h5
  ·omega
  ·split at h5
   ·omega
   ·split at h5
    ·exact absurd h5 hs
    ·exact absurd h5 h6
theorem Pm {r:Run} (h:Gr r) (hs:r.state=1) {t:Nat} (ht:t<r.tasks.length):1<=(By r t).state/\(By r t).state<=4:=by
 obtain ⟨_,_,_,h4,h5,h6⟩:=h;have h1:=h4 t ht;unfold Gz at h1;have h2:=h1.1;rw [Co ht] at h2 ⊢;rw [hs] at h5;unfold stL at h5;split at h5
 ·omega
 ·split at h5
  ·omega
  ·split at h5
   ·omega
   ·split at h5
    ·next hc =>
     have a5:r.tasks[t].state≠5:=fun e=>by have:=J0 ht e;omega
     have a6:r.tasks[t].state≠6:=fun e=>by have:=J0 ht e;omega
     omega
    ·omega
theorem Adt {r:Run} (h:Gr r) (hs:r.state≠1) {t:Nat} (ht:t<r.tasks.length):(By r t).state≠1/\(By r t).state≠2/\(By r t).state≠3:=by
 obtain ⟨a,b,c⟩:=Qe h hs;rw [Co ht];exact ⟨fun e=>by have:=J0 ht e;omega,fun e=>by have:=J0 ht e;omega,fun e=>by have:=J0 ht e;omega⟩
theorem Ah2 {r:Run} (h:Gr r):Cp r.tasks 2<=Ky r:=by
 unfold Ky;by_cases hs:r.state=1
 ·rw [if_pos hs];exact Ia _ _
 ·rw [if_neg hs];exact Nat.le_of_eq (Qe h hs).2.1
theorem Ah3 {α:Type} (f g:α->Nat):∀ l:List α,(∀ x∈l,f x<=g x)->(l.map f).sum<=(l.map g).sum
 | [],_=>Bs _
 | x :: l,h=>by
  have:=Ah3 f g l (fun y hy=>h y (List.mem_cons_of_mem _ hy))
  have:=h x (List.mem_cons_self ..)
  simp only [List.map_cons,List.sum_cons];omega
theorem Core.few {now seq:Int} {es:List Entry} {runs:List Run} (h:Core now seq es runs):es.length<=40:=by
 have h1:=Ah3 (fun r=>Cp r.tasks 2) Ky runs (fun r hr=>Ah2 (h.run r hr).1);have h2:=h.slots;rw [Lb] at h2;unfold Lq at h2;omega
theorem Og (r:Run) (s:Int):((List.range r.tasks.length).filter fun t=>(By r t).state == s).length=Cp r.tasks s:=by
 have h:∀ k,k<=r.tasks.length->((List.range k).filter fun t=>(By r t).state == s).length=Cp (r.tasks.take k) s:=by
  intro k;induction k with
  | zero=>intro _;simp [Cp]
  | succ k ih =>
   intro hk;have bE:k<r.tasks.length:=Bl;rw [List.range_succ,List.filter_append,Bd,ih Bl];by_cases e:r.tasks[k].state=s
   ·rw [Wc bE e];simp [Co bE,e]
   ·rw [Aao bE e];simp [Co bE,e]
 have:=h r.tasks.length (Bs _)
 rwa [List.take_length] at this
theorem Ss {α:Type} (p q:α->Bool):∀ l:List α,(∀ x∈l,p x=true->q x=true)->(l.filter q).length=(l.filter fun x=>q x && !p x).length+(l.filter p).length
 | [],_=>rfl
 | x :: l,h=>by
  have ih:=Ss p q l (fun y hy=>h y (List.mem_cons_of_mem _ hy));have hx:=h x (List.mem_cons_self ..);cases hp:p x<;>cases hq:q x<;>simp [hp,hq,ih]<;>simp_all<;>omega
theorem Core.index {now seq:Int} {es:List Entry} {runs:List Run} (h:Core now seq es runs) {k:Nat} (hk:k<runs.length) {r:Run} (hr:r∈runs) (he:r.id=runs[k].id):r=runs[k]:=by
 obtain ⟨j,hj,rfl⟩:=List.getElem_of_mem hr;have h1:=List.getElem_inj (xs:=runs.map (·.id)) (h₀:=by simpa using hj) (h₁:=by simpa using hk) h.ids;simp only [List.getElem_map] at h1
 have:=h1.1 he
 subst this;rfl
structure StepR (r r':Run):Prop where
 id:r'.id=r.id
 plan:r'.plan=r.plan
 len:r'.tasks.length=r.tasks.length
 ok:Ads r'
 live:r.state=1
 task:∀ t,t<r.tasks.length->((By r' t).state=2->(By r t).state=1\/(By r t).state=2\/(By r t).state=3)/\((By r' t).state=1->(By r t).state=1) /\
  ((By r' t).state=3->(By r t).state=3/\(By r' t).until_=(By r t).until_)/\(r'.state=1->(By r t).state=2->(By r' t).state=2)
theorem Jv (id:Int) (t:Nat) (l l':List Entry):Ec id t (l ++ l')=Ec id t l+Ec id t l':=by unfold Ec;rw [List.filter_append,Bd]
theorem Jw {r r':Run} {n t:Nat} : t∈Gt r r' n ↔ t<n/\(By r' t).state=2 /\ ¬ (By r t).state=2:=by
 unfold Gt;simp
theorem Um (r r':Run) (n:Nat):(Gt r r' n).Nodup:=List.nodup_range.filter _
theorem Oh {α:Type} {l:List α} {k:Nat} {x y:α} (hn:l.Nodup) (hk:k<l.length) (h:y∈l.set k x):y=x\/(y∈l/\y≠l[k]):=by
 obtain ⟨j,hj,rfl⟩:=List.getElem_of_mem h;rw [Bh] at hj;rw [List.getElem_set];by_cases e:k=j
 ·rw [if_pos e];exact .inl rfl
 ·rw [if_neg e];exact .inr ⟨Ax hj,fun h2=>e ((List.getElem_inj (h₀:=hk) (h₁:=hj) hn).1 h2.symm)⟩
theorem Core.runs_nodup {now seq:Int} {es:List Entry} {runs:List Run} (h:Core now seq es runs):runs.Nodup:=(List.pairwise_map.1 h.ids).imp (fun h e=>h (by rw [e]))
theorem Afs {runs:List Run} {k:Nat} (hk:k<runs.length) {r':Run} (he:r'.id=runs[k].id):(runs.set k r').map (·.id)=runs.map (·.id):=by
 rw [List.map_set,he];have:runs[k].id=(runs.map (·.id))[k]'(by simpa using hk):=by rw [List.getElem_map]
 rw [this,List.set_getElem_self]
theorem Core.turn {now seq:Int} {es:List Entry} {runs:List Run} (h:Core now seq es runs) (hq:1<=seq) {k:Nat} (hk:k<runs.length) {r':Run} (hS:StepR runs[k] r') :
  Core now (seq+(Gt runs[k] r' r'.tasks.length).length) (Nu seq r' (Gt runs[k] r' r'.tasks.length) ++ es) (runs.set k r'):=by
 have bI:=h.runs_nodup;have bR:=Ax hk;have aK:=hS.len;refine ⟨by rw [Bh];exact h.le8,by rw [Afs hk hS.id];exact h.ids,fun r hr=>?_,fun e he=>?_,?_,fun e he=>?_,fun r hr t ht=>?_,?_⟩
 ·rcases Oh bI hk hr with rfl | ⟨h1,_⟩
  ·exact hS.ok
  ·exact h.run r h1
 ·rcases Bi.1 he with he | he
  ·have:=Ir he;omega
  ·have:=h.seqs e he;omega
 ·rw [List.map_append,Ay];refine ⟨Ri _ _ _,h.nodup,fun a ha b hb e=>?_⟩;obtain ⟨x,hx,rfl⟩:=List.mem_map.1 ha;obtain ⟨z,hz,rfl⟩:=List.mem_map.1 hb;have h1:=(Ir hx).2.2.1;have h2:=h.seqs z hz;omega
 ·have tB:r'∈runs.set k r':=by
   rw [List.mem_iff_getElem];exact ⟨k,by rw [Bh];exact hk,List.getElem_set_self _⟩
  rcases Bi.1 he with he | he
  ·obtain ⟨h1,h2,h3,h4,t,ht,h5⟩:=Ir he;refine ⟨r',tB,t,(Jw.1 ht).1,?_⟩;unfold Gy;simp [h2,h5]
  ·obtain ⟨r,hr,t,ht,hm⟩:=h.home e he;by_cases bP:r=runs[k]
   ·subst bP;exact ⟨r',tB,t,by rw [aK];exact ht,by rw [hS.id];exact hm⟩
   ·refine ⟨r,?_,t,ht,hm⟩;obtain ⟨j,hj,rfl⟩:=List.getElem_of_mem hr;have fM:k≠j:=fun e=>bP (by subst e;rfl);rw [List.mem_iff_getElem];exact ⟨j,by rw [Bh];exact hj,by rw [List.getElem_set_ne fM]⟩
 ·rcases Oh bI hk hr with rfl | ⟨h1,h2⟩
  ·have eI:t<runs[k].tasks.length:=Bl;obtain ⟨a,b,c⟩:=h.laid _ bR t eI;obtain ⟨s1,s2,s3,s4⟩:=hS.task t eI;have hN:=Tm r t (Gt runs[k] r r.tasks.length) seq (Um _ _ _);have hM:Ec r.id t (Nu seq r (Gt runs[k] r r.tasks.length) ++ es)=(if t∈Gt runs[k] r r.tasks.length then 1 else 0)+Ec runs[k].id t es:=by
    rw [Jv,hN,hS.id]
   refine ⟨fun hs=>?_,fun hs=>?_,fun hs=>?_⟩
   ·refine ⟨fun e he hm=>?_,?_⟩
    ·rcases Bi.1 he with he | he
     ·exact (Ir he).1
     ·by_cases q:(By runs[k] t).state=2
      ·rw [hS.plan];exact (a q).1 e he (by rw [<-hS.id];exact hm)
      ·exfalso;have h0:=b (by rcases s1 hs with e | e | e;exact .inl e;exact absurd e q;exact .inr e);unfold Ec at h0;rw [List.length_eq_zero_iff,List.filter_eq_nil_iff] at h0;exact h0 e he (by rw [<-hS.id];exact hm)
    ·rw [hM];by_cases q:(By runs[k] t).state=2
     ·rw [if_neg (fun hm=>(Jw.1 hm).2.2 q),(a q).2]
     ·rw [if_pos (Jw.2 ⟨ht,hs,q⟩),b (by rcases s1 hs with e | e | e;exact .inl e;exact absurd e q;exact .inr e)]
   ·rw [hM,if_neg (fun hm=>by have:=(Jw.1 hm).2.1;rcases hs with e | e<;>rw [e] at this<;>cases this),b (by rcases hs with e | e;exact .inl (s2 e);exact .inr (s3 e).1)]
   ·obtain ⟨e1,e2⟩:=s3 hs;rw [e2,hS.plan];exact c e1
  ·have aE:r.id≠r'.id:=fun e=>h2 (h.index hk h1 (by rw [e,hS.id]));obtain ⟨a,b,c⟩:=h.laid r h1 t ht;have hM:Ec r.id t (Nu seq r' (Gt runs[k] r' r'.tasks.length) ++ es)=Ec r.id t es:=by
    rw [Jv,Xx aE,Nat.zero_add]
   refine ⟨fun hs=>⟨fun e he hm=>?_,by rw [hM];exact (a hs).2⟩,fun hs=>by rw [hM];exact b hs,c⟩;rcases Bi.1 he with he | he
   ·exfalso
    have:=(Ir he).2.1
    unfold Gy at hm;simp at hm;exact aE (hm.1.symm.trans this)
   ·exact (a hs).1 e he hm
 ·have e1:=Sr Ky r' runs k hk;have e2:=Sr (fun r=>Cp r.tasks 2) r' runs k hk;have e3:=h.slots;rw [Lb] at e3 ⊢;rw [Bd,Xw];show _<=40+((runs.set k r').map fun r=>Cp r.tasks 2).sum;unfold Lq at e3;have hL:Ky runs[k]=runs[k].tasks.length:=if_pos hS.live;have hc:=Ia runs[k].tasks 2;by_cases hv:r'.state=1
  ·have hL':Ky r'=r'.tasks.length:=if_pos hv;have hf:=Ss (fun t=>(By runs[k] t).state == 2) (fun t=>(By r' t).state == 2) (List.range r'.tasks.length) (fun t ht hp=>by
    have eI:t<runs[k].tasks.length:=by have:=List.mem_range.1 ht;omega
    simp only [beq_iff_eq] at hp ⊢;exact (hS.task t eI).2.2.2 hv hp)
   rw [Og,aK,Og] at hf;unfold Gt;rw [aK]
   (try dsimp only at e2)
   omega
  ·have hL':Ky r'=0:=if_neg hv;have hz:Gt runs[k] r' r'.tasks.length=[]:=by
    rw [List.eq_nil_iff_forall_not_mem];intro t ht;obtain ⟨h1,h2,_⟩:=Jw.1 ht;exact (Adt hS.ok.1 hv h1).2.1 h2
   have aR:=(Qe hS.ok.1 hv).2.1;rw [hz];simp only [List.length_nil]
   (try dsimp only at e2)
   omega
end Go.Proofs.YtecnbnbopcblgaaGreat
