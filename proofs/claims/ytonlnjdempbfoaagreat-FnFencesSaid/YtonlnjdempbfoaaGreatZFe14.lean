/-
  Poll of the program. Written by program (ipo.py). What a deed leaves of a yard (plain): shelves under entries that come and go. A yard does not grow without bou
-/
import Derived.Test.YtonlnjdempbfoaaGreatZFe10
import Derived.Test.YtonlnjdempbfoaaGreatZFe11
import Derived.Test.YtonlnjdempbfoaaGreatZFe13
namespace Go.Proofs.YtonlnjdempbfoaaGreat
open Go.RowKit
set_option maxRecDepth 100000
set_option maxHeartbeats 4000000
set_option linter.unusedVariables false
set_option linter.unusedSimpArgs false
open Value renaming int->J,slice->Aa
open IntKind renaming i64->U
open Option renaming none->Ab,some->Ac
open Below renaming setCell->Ad
open Go renaming bodyPost_ret->Aj
open Go.Proofs.Tryz renaming prog->An
open Int renaming toNat_natCast->Ap,eq_ofNat_of_zero_le->Aq
open IntWalk renaming i64_in->Ar
open List renaming mem_singleton->Av,getElem_mem->Aw,nodup_append->Ax,length_set->Bg,mem_append->Bh
theorem Oh {b c:Nat} {w:World} {u0 u1 u2 u3 v0 v1 v2 v3:Value} (X:DBox b [u0,u1,u2,u3] w) (Y:DBox c [v0,v1,v2,v3] w) {x0 x1 x2 x3 x4 x5:Value} {rest:List Value} :
  (results Tryz.f25 (x0 :: x1 :: x2 :: x3 :: x4 :: x5 :: .pointer (Ac ⟨b,0,Ab⟩) :: .pointer (Ac ⟨c,0,Ab⟩) :: rest).toArray).run An w = .ok (.tuple #[.agg #[u0,u1,u2,u3],.agg #[v0,v1,v2,v3]]) w:=by
 have c0:=X.cell 0 _ rfl;have c1:=X.cell 1 _ rfl;have c2:=X.cell 2 _ rfl;have c3:=X.cell 3 _ rfl;have d0:=Y.cell 0 _ rfl;have d1:=Y.cell 1 _ rfl;have d2:=Y.cell 2 _ rfl;have d3:=Y.cell 3 _ rfl;simp [results,Tryz.results25,go_sem,c0,c1,c2,c3,d0,d1,d2,d3]
theorem Yu (y:Yard) (s:Sl×Sl) (worker:Int) (d:Nat) (w:World) (hl:Ci y<=2000000) (hd:d<=1000000000) (h:Bu.rd w w y s) :
  Calls An 25 #[Du y s,J U worker,J U (d:Int)] w (T0 (Gv y worker d) w):=by
 have HR:=Bp (show ∀ W,Below w w W->Bu.rd W W y s from fun W hW=>Bu.rd_more (Bu.rd_below h hW) hW.size);obtain ⟨⟨A1,n1,c1⟩,⟨A2,n2,c2⟩⟩:=s;have CC:=Bp (fun W hW=>L8 y (⟨A1,n1,c1⟩,⟨A2,n2,c2⟩) W hl (HR.out W hW));have CY:=Bp (fun W hW=>Vf y (⟨A1,n1,c1⟩,⟨A2,n2,c2⟩) W hl (HR.out W hW));clear h;obtain ⟨W,aH,X,RES,RP,B0⟩:=bx3 w 31 [J U y.now,J U y.seq,Aa A1 n1 c1,Aa A2 n2 c2] 31 [J U 0,J U 0,Aa Ab 0 0,Aa Ab 0 0] 69 [J U 0,J U 0,J U 0,J U 0];go_enter Tryz.func25,Tryz.ntmps25;go_wp2_with fail
 rw [<-aH.out];clear aH;have hPl:w.heap.size+1+1<W.heap.size:=RP.lt;refine (CY.out _ B0).mono ?_;rintro e1 w1 ⟨rfl,b1⟩;replace X:=X.below b1;replace RES:=RES.below b1;replace RP:=RP.below b1;have X_:=X.g4;obtain ⟨RES_0,RES_1,RES_2,RES_3,RES_l⟩:=RES.g4;obtain ⟨RP_0,RP_1,RP_2,RP_3,RP_l⟩:=RP.g4;have aQ:=Bs B0 b1;have hBs:=B0.size;have kL:=b1.size;clear B0 b1 CY;by_cases p0:Dn y;case neg =>
  have H:=Bp (show Gv y worker d=(y,⟨8,0,0,0⟩) from if_pos p0);rw [Ck p0];clear p0;clear RES_0 RES_1 RES_2 RES_3 RES_l;clear RP_0 RP_1 RP_2 RP_3 RP_l;go_wp2_with fail
  refine (CC.out _ aQ).mono ?_;rintro e1 w2 ⟨⟨⟨B1,m1,e1⟩,⟨B2,m2,e2⟩⟩,F,rfl,oy,nF,b2⟩;replace RES:=RES.below b2;replace RP:=RP.below b2;obtain ⟨RES_0,RES_1,RES_2,RES_3,RES_l⟩:=RES.g4;obtain ⟨RP_0,RP_1,RP_2,RP_3,RP_l⟩:=RP.g4;have rf:=RES.free;have pf:=RP.free;have aF:=Bs aQ b2;go_wp2;have en1:w.heap.size+1∉F:=fun hx=>by have:=nF _ hx;omega
  have en2:w.heap.size+1+1∉F:=fun hx=>by have:=nF _ hx;omega
  have aC:w.heap.size+1+1≠w.heap.size+1:=Bk;have RES2:=DBox.row4 RES rfl (J U y.now) (J U y.seq) (Aa B1 m1 e1) (Aa B2 m2 e2);have RP2:=DBox.row4 ((((RP.setOther (a:=⟨w.heap.size+1,0,Ab⟩) aC (J U y.now)).setOther (a:=⟨w.heap.size+1,1,Ab⟩) aC (J U y.seq)).setOther (a:=⟨w.heap.size+1,2,Ab⟩) aC (Aa B1 m1 e1)).setOther (a:=⟨w.heap.size+1,3,Ab⟩) aC (Aa B2 m2 e2)) rfl (J U 8) (J U 0) (J U 0) (J U 0);have RES3:=(((RES2.setOther (a:=⟨w.heap.size+1+1,0,Ab⟩) aC.symm (J U 8)).setOther (a:=⟨w.heap.size+1+1,1,Ab⟩) aC.symm (J U 0)).setOther (a:=⟨w.heap.size+1+1,2,Ab⟩) aC.symm (J U 0)).setOther (a:=⟨w.heap.size+1+1,3,Ab⟩) aC.symm (J U 0);refine Aj (Oh RES3 RP2) rfl ⟨(⟨B1,m1,e1⟩,⟨B2,m2,e2⟩),F,by rw [H.out],by rw [H.out];exact (by (repeat (refine Dt.ow_set Bu ?_ (by first | exact en1 | exact en2) _));exact (show Bu.ow _ F y (⟨B1,m1,e1⟩,⟨B2,m2,e2⟩) from oy)),fun x hx=>by have:=nF x hx;omega,?_⟩;repeat (first | (with_reducible exact aF) | refine Ad ?_ Bn _)
 rw [D6 p0];cases p1:inB worker 0 99;case false =>
  have H:=Bp (show Gv y worker d=(y,⟨5,0,0,0⟩) by unfold Gv;rw [if_neg (fun h=>h p0),if_pos p1]);clear p0;clear RES_0 RES_1 RES_2 RES_3 RES_l;clear RP_0 RP_1 RP_2 RP_3 RP_l;go_wp2_with (go_at_call 58;refine (Cs _ _ _ _).mono ?_;rintro e w9 ⟨rfl,rfl⟩;rw [p1])
  refine (CC.out _ aQ).mono ?_;rintro e1 w2 ⟨⟨⟨B1,m1,e1⟩,⟨B2,m2,e2⟩⟩,F,rfl,oy,nF,b2⟩;replace RES:=RES.below b2;replace RP:=RP.below b2;obtain ⟨RES_0,RES_1,RES_2,RES_3,RES_l⟩:=RES.g4;obtain ⟨RP_0,RP_1,RP_2,RP_3,RP_l⟩:=RP.g4;have rf:=RES.free;have pf:=RP.free;have aF:=Bs aQ b2;go_wp2;have en1:w.heap.size+1∉F:=fun hx=>by have:=nF _ hx;omega
  have en2:w.heap.size+1+1∉F:=fun hx=>by have:=nF _ hx;omega
  have aC:w.heap.size+1+1≠w.heap.size+1:=Bk;have RES2:=DBox.row4 RES rfl (J U y.now) (J U y.seq) (Aa B1 m1 e1) (Aa B2 m2 e2);have RP2:=DBox.row4 ((((RP.setOther (a:=⟨w.heap.size+1,0,Ab⟩) aC (J U y.now)).setOther (a:=⟨w.heap.size+1,1,Ab⟩) aC (J U y.seq)).setOther (a:=⟨w.heap.size+1,2,Ab⟩) aC (Aa B1 m1 e1)).setOther (a:=⟨w.heap.size+1,3,Ab⟩) aC (Aa B2 m2 e2)) rfl (J U 5) (J U 0) (J U 0) (J U 0);have RES3:=(((RES2.setOther (a:=⟨w.heap.size+1+1,0,Ab⟩) aC.symm (J U 5)).setOther (a:=⟨w.heap.size+1+1,1,Ab⟩) aC.symm (J U 0)).setOther (a:=⟨w.heap.size+1+1,2,Ab⟩) aC.symm (J U 0)).setOther (a:=⟨w.heap.size+1+1,3,Ab⟩) aC.symm (J U 0);refine Aj (Oh RES3 RP2) rfl ⟨(⟨B1,m1,e1⟩,⟨B2,m2,e2⟩),F,by rw [H.out],by rw [H.out];exact (by (repeat (refine Dt.ow_set Bu ?_ (by first | exact en1 | exact en2) _));exact (show Bu.ow _ F y (⟨B1,m1,e1⟩,⟨B2,m2,e2⟩) from oy)),fun x hx=>by have:=nF x hx;omega,?_⟩;repeat (first | (with_reducible exact aF) | refine Ad ?_ Bn _)
 have pp:=Cp.1 p1;have HP:=Bp p0;obtain ⟨wk,rfl⟩:=Aq pp.1;have hm:((wk:Int).tmod 4)=((wk % 4:Nat):Int):=by rw [Int.tmod_eq_emod_of_nonneg Bk];omega
 have hmw:U.wrap ((wk % 4:Nat):Int)=((wk % 4:Nat):Int):=Ar _ Bk;have jD:(wk:Int) % 4=((wk % 4:Nat):Int):=Bk;have hh:=Nat.mod_lt wk (show 0<4 by decide);have H:=Bp (show Gv y wk d=Lj (Ir y ((wk % 4:Nat):Int) d) (wk % 4) by unfold Gv;rw [if_neg (fun h=>h p0),if_neg (by rw [p1];simp),jD,Ap]);have aM:=Pol.start p0 hh;have h4:=p0.2.2.1;clear p0 pp jD;generalize wk % 4=home at *
 have CS:=Bp (fun W hW=>O4 y (⟨A1,n1,c1⟩,⟨A2,n2,c2⟩) home W Bk hl (HR.out W hW));have CV:=Bp (fun W=>Tr home d W hh hd);have HG:Hid (Ir y (home:Int) d=(Dz home d).foldl (D4 home) (By y home)):=by
  show Ir y (home:Int) d=_;unfold Ir;rw [Ap]
 clear RES_0 RES_1 RES_2 RES_3 RES_l;clear RP_0 RP_1 RP_2 RP_3 RP_l;go_wp2_with (go_at_call 58;refine (Cs _ _ _ _).mono ?_;rintro e w9 ⟨rfl,rfl⟩;rw [p1])
 refine (CS.out _ aQ).mono ?_;rintro e1 w2 ⟨s2,F,rfl,oy,nF,b2⟩;clear X_;clear X CC HR CS;replace RES:=RES.below b2;replace RP:=RP.below b2;have aF:=Bs aQ b2;have hb2s:=b2.size;clear aQ b2 hm hmw;have cL:=Bu.ow_lt oy;have hseq:Hid (By y home=By y home):=rfl;go_upto_region 7 with fail
 have OB:=DBox.new 31 (Gz (By y home) s2) w2 (b:=w2.heap.size) rfl;have b3:Below w2 w2 (w2.alloc (.cells (Gz (By y home) s2).toArray 31)):=(Bq _ _).alloc (Br _) _;replace RES:=RES.below b3;replace RP:=RP.below b3;replace oy:=Bu.ow_below oy b3;have bY:=Bs aF b3;have hb3s:=b3.size;have gP:=OB.lt;have hPl2:w.heap.size+1+1<w2.heap.size:=Bk;generalize w2.alloc (.cells (Gz (By y home) s2).toArray 31)=w3 at *
 go_wp2_with fail
 refine (CV.out _).mono ?_;rintro e1 w4 ⟨v,rfl,ov,b4⟩;replace RES:=RES.below b4;replace RP:=RP.below b4;replace OB:=OB.below b4;replace oy:=Bu.ow_below oy b4;have cB:=Bs bY b4;obtain ⟨eP,qK⟩:=Hw.of_ow ov;obtain ⟨A9,c9,rfl,-⟩:=id (Rd.of_own ov);have rM:=Sm home d;have eH:=Bp (K2 (home:=(home:Int)) (draw:=d));have eU:=Bp (show ∀ v∈Dz home d,v≠home from fun v hv=>by have:=K3 (home:=(home:Int)) (draw:=d) Bk Bk v hv;omega);have dQ:w2.heap.size<w3.heap.size:=gP;have aC:∀ x∈Eh (Aa A9 (Dz home d).length c9) (Dz home d).length,x∉F/\w2<x:=fun x hx=>⟨fun hF=>by have h1:=qK x hx;have h2:=cL x hF;omega,by have:=qK x hx;omega⟩
 have jE:(∀ x∈F,w.heap.size+1+1<x)/\w2.heap.size∉F:=⟨fun x hx=>by have:=nF x hx;omega,fun hx=>by have:=cL _ hx;omega⟩
 generalize Eh (Aa A9 (Dz home d).length c9) (Dz home d).length=Fv at *
 generalize Dz home d=L at *
 rw [rM] at eP;rw [rM];generalize By y home=Z0 at *
 have qT:w.heap.size+1+1<w2.heap.size:=hPl2;generalize w2.heap.size=ob at *
 clear cL nF qK;go_wp2;go_loopw [11,12,13,42] (fun u0 u1 u2 i wr=>∃ (k:Nat) (s:Sl×Sl) (F:List Nat),k<=3/\i = J U k/\Hid (Pol y home ((L.take k).foldl (D4 home) Z0))/\Hid (Bu.ow wr F ((L.take k).foldl (D4 home) Z0) s)/\Hid ((∀ x∈F,w.heap.size+1+1<x)/\ob∉F /\ ∀ x∈Fv,x∉F)/\Hid (Hw Em wr Fv (Aa A9 3 c9) L)/\DBox ob (Gz ((L.take k).foldl (D4 home) Z0) s) wr/\DBox (w.heap.size+1) [J U 0,J U 0,Aa Ab 0 0,Aa Ab 0 0] wr/\DBox (w.heap.size+1+1) [J U 0,J U 0,J U 0,J U 0] wr/\Below w w wr) (fun _ _ _ i _=>3 - (intOf i).toNat);case atStart=>exact ⟨0,s2,F,Nat.zero_le _,rfl,aM,oy,⟨jE.1,jE.2,fun x hx=>(aC x hx).1⟩,eP,OB,RES,RP,cB⟩
 case round =>
  have qX:∀ x∈Fv,ob<x:=fun x hx=>(aC x hx).2;clear aM oy jE eP OB RES RP cB aC ov b4;obtain ⟨k,s,F,hk,rfl,aM,oy,hF,eP,OB,RES,RP,hb⟩:=hrel;have aE:Hid (∀ h:k<L.length,(L.take (k+1)).foldl (D4 home) Z0=D4 home ((L.take k).foldl (D4 home) Z0) L[k]):=fun h=>Ko (D4 home) Z0 L k h;have bU:Hid ((k=3 \/ ¬ (((L.take k).foldl (D4 home) Z0).shelf.getD home []).length=0)->L.foldl (D4 home) Z0=(L.take k).foldl (D4 home) Z0):=by
   intro h;rcases h with h | h
   ·rw [List.take_of_length_le Bk]
   ·have e:L.foldl (D4 home) Z0=(L.drop k).foldl (D4 home) ((L.take k).foldl (D4 home) Z0):=by
     rw [<-List.foldl_append,List.take_append_drop]
    rw [e];exact Lr _ _ h
  generalize (L.take k).foldl (D4 home) Z0=Zk at *
  obtain ⟨⟨B1,m1,e1⟩,⟨B2,m2,e2⟩⟩:=s;have qZ:=aM.out.four;have oyr:=Bu.ow_rd oy.out;have eY:home<Zk.shelf.length:=Bk;obtain rfl:m1=4:=(RdL.at1 (s:=⟨B1,m1,e1⟩) oyr.1).trans qZ;obtain ⟨g,o,⟨xa,xn,xc⟩,rfl,gV,dU,ch⟩:=RdL.entryS (show RdL (Dt.list Cg) wr wr.heap.size (Aa B1 4 e1) Zk.shelf from oyr.1) eY;obtain rfl:xn=Zk.shelf[home].length:=RdL.at1 (s:=⟨xa,xn,xc⟩) dU;have hhI:(home:Int)<4:=Bk;have hh0:(0:Int)<=(home:Int):=Bk;have qP:=aM.out.all _ (Aw eY);obtain ⟨OB_0,OB_1,OB_2,OB_3,OB_l⟩:=OB.g4;have bW:=Bp (Es eY);have hwrs:=hb.size;have hRPl:=RP.lt;have hobl:=OB.lt;rcases (show (k<3/\Zk.shelf[home].length=0)\/(k<3 /\ ¬ Zk.shelf[home].length=0) \/ ¬ k<3 by by_cases k<3<;>by_cases Zk.shelf[home].length=0<;>simp [*]) with ⟨aA,hq⟩ | ⟨aA,hq⟩ | aA
  ·have aB:(k:Int)<3:=Bk
   ·have nT:((Zk.shelf[home].length:Int) == 0)=true:=by simp [hq]
    have kI:k<L.length:=Bk;have kB:L[k]<4:=eH.out _ (Aw kI);have kP:L[k]≠home:=eU.out _ (Aw kI);obtain ⟨gv,ov,rfl,hgv,cv⟩:=eP.out.rd.nat kI;replace aE:=Bp (aE.out kI);have bF:=eP.out.block Bk;generalize L[k]=v at *
    have hP1:Hid (Pol y home (Jp home Zk v)):=by
     have h1:=aM.out.step hh kB kP;rw [Mf (by rw [bW.out];exact hq) kP] at h1;exact h1
    replace aE:=Bp (aE.out.trans (Mf (by rw [bW.out];exact hq) kP));have hE0:=Bp (show (By Zk v).shelf.getD home []=[] by rw [Ro kP,bW.out];exact List.eq_nil_of_length_eq_zero hq);have qS:=eP.out.lt;have hvI:(v:Int)<4:=Bk;have hv0:(0:Int)<=(v:Int):=Bk;have cS:(0:Int)<=(k:Int):=Bk;have hzc:=aM.out.cnt HP.out;have CS:=Bp (O4 Zk (⟨Ac ⟨g,o,Ab⟩,4,e1⟩,⟨B2,m2,e2⟩) v wr Bk hzc oyr);go_wp2_with fail
    clear hq;refine CS.out.mono ?_;rintro e w2 ⟨⟨⟨C1,p1,f1⟩,⟨C2,p2,f2⟩⟩,F2,rfl,oy2,n2,b2⟩;have OB2:=OB.below b2;have k0:=OB2.cell 0 _ rfl;have k1:=OB2.cell 1 _ rfl;have k2:=OB2.cell 2 _ rfl;have k3:=OB2.cell 3 _ rfl;have kf:=OB2.free;have kl:=OB2.lt;go_upto_region 12 with fail
    have b2':Below wr wr w2:=b2;clear k0 k1 k2 k3 kf kl;have OB3:=DBox.row4 OB2 rfl (J U (By Zk v).now) (J U (By Zk v).seq) (Aa C1 p1 f1) (Aa C2 p2 f2);have gD:=Chg.cells4 w2 ob 0 1 2 3 (J U (By Zk v).now) (J U (By Zk v).seq) (Aa C1 p1 f1) (Aa C2 p2 f2);have dM:=Bp (show ∀ x,x∈[ob]->x=ob from fun x hx=>by simpa using hx);have RES3:=(RES.below b2').chg gD (fun hx=>by have:=dM.out _ hx;omega);have RP3:=(RP.below b2').chg gD (fun hx=>by have:=dM.out _ hx;omega);have dB:=(eP.out.below b2').chg gD (fun x hx aN=>by have h1:=dM.out _ aN;have h2:=qX x hx;omega);have dP:ob∉F2:=fun hx=>by have h1:=n2 _ hx;have h3:=OB_l;omega
    have oy3:=Bu.ow_chg (F:=F2) (x:=By Zk v) (s:=(⟨C1,p1,f1⟩,⟨C2,p2,f2⟩)) oy2 gD (fun x hx aN=>by have:=dM.out _ aN;subst this;exact dP hx);have bY:Below w w _:=(Bs hb b2').trans (gD.below (by have:=b2'.size;omega) (fun x hx=>by have:=dM.out _ hx;omega));have eX:∀ x∈F2,wr<=x:=n2;have cI:=b2'.size;have fV:=gD.size;replace cv:=(gD.cell (p:=⟨gv,_,Ab⟩) (by show gv<w2;omega) (fun hx=>by have h1:gv=ob:=dM.out _ hx;have h2:=qX gv (by rw [bF.1];simp);omega)).trans ((b2'.cell (p:=⟨gv,_,Ab⟩) (by show gv<wr;omega)).trans cv);have mL:∀ x∈F2,w.heap.size+1+1<x:=fun x hx=>by have h1:=eX x hx;have h2:=RP.lt;omega
    clear OB_0 OB_1 OB_2 OB_3 OB_l;clear OB RES RP eP oy oy2 n2 b2 b2' hb OB2 oyr dU ch hF CS;generalize (((w2.setCell ⟨ob,0,Ab⟩ (J U (By Zk v).now)).setCell ⟨ob,1,Ab⟩ (J U (By Zk v).seq)).setCell ⟨ob,2,Ab⟩ (Aa C1 p1 f1)).setCell ⟨ob,3,Ab⟩ (Aa C2 p2 f2)=w3 at *
    have OB:=OB3;clear OB3;obtain ⟨OB_0,OB_1,OB_2,OB_3,OB_l⟩:=OB.g4;have h41:(By Zk v).shelf.length=4:=by rw [Me];exact qZ
    have oyr3:=Bu.ow_rd (F:=F2) (x:=By Zk v) oy3;obtain rfl:p1=4:=(RdL.at1 (s:=⟨C1,p1,f1⟩) oyr3.1).trans h41;have fT:v<(By Zk v).shelf.length:=Bk;obtain ⟨g2,o2,⟨va,vn,vc⟩,rfl,gS,sG,cv2⟩:=RdL.entryS (show RdL (Dt.list Cg) w3 w3.heap.size (Aa C1 4 f1) (By Zk v).shelf from oyr3.1) fT;have fD:=Oe (i:=v) aM.out.all;have fW:=fD _ (Aw fT);have CH:=Bp (Yj (By Zk v).shelf[v] ⟨va,vn,vc⟩ w3 Bk sG);have hgvw:gv<w3:=Bk;go_wp2_with fail
    refine CH.out.mono ?_;rintro e w4 ⟨⟨qa1,qn1,qc1⟩,Fh1,⟨qa2,qn2,qc2⟩,Fh2,rfl,oh1,oh2,nh1,nh2,dh,b4⟩;go_upto_region 13 with fail
    have b4':Below w3 w3 w4:=b4;have jY:=b4'.size;have hnh1:∀ x∈Fh1,w3<=x:=nh1;have jJ:∀ x∈Fh2,w3<=x:=nh2;replace oy3:Bu.ow w3 F2 (By Zk v) (⟨Ac ⟨g2,o2,Ab⟩,4,f1⟩,⟨C2,p2,f2⟩):=oy3;have hfl2:=Bu.ow_lt (F:=F2) (x:=By Zk v) (s:=(⟨Ac ⟨g2,o2,Ab⟩,4,f1⟩,⟨C2,p2,f2⟩)) oy3;clear OB_0 OB_1 OB_2 OB_3 OB_l;replace OB:=OB.below b4';replace RES3:=RES3.below b4';replace RP3:=RP3.below b4';replace dB:=dB.below b4';replace oy3:Bu.ow w4 F2 (By Zk v) (⟨Ac ⟨g2,o2,Ab⟩,4,f1⟩,⟨C2,p2,f2⟩):=owB oy3 b4';replace bY:=Bs bY b4';replace cv:=(b4'.cell (p:=⟨gv,_,Ab⟩) (by show gv<w3;omega)).trans cv;replace cv2:=(b4'.cell (p:=⟨g2,_,Ab⟩) (by show g2<w3;omega)).trans cv2;clear nh1 nh2 b4 b4' CH oyr3 sG;obtain ⟨OB_0,OB_1,OB_2,OB_3,OB_l⟩:=OB.g4;have gL:∀ j,w4.frozen? ⟨g2,j,Ab⟩=false:=by
     obtain ⟨G1,G2,_,_,os,_⟩:=oy3;exact OwL.free0 (show OwL (Dt.list Cg) w4 G1 (Aa (Ac ⟨g2,o2,Ab⟩) 4 f1) (By Zk v).shelf from os) Bk
    have jI:g2<w4:=Bk;have sI:(By Zk v).shelf[home]' Bk=[]:=by
     have h1:=hE0.out;rw [Es Bk] at h1;exact h1
    have sQ:=Bp (show Jp home Zk v=⟨(By Zk v).now,(By Zk v).seq,((By Zk v).shelf.set home (Fg [] ((By Zk v).shelf[v].take (Cw (By Zk v).shelf[v])))).set v ((By Zk v).shelf[v].drop (Cw (By Zk v).shelf[v])),(By Zk v).runs⟩ by
     unfold Jp;rw [Es fT,List.set_comm _ _ kP];rfl)
    obtain ⟨_,_,⟨xa2,xn2,xc2⟩,bX,_,fE,cx⟩:=RdL.entryS (show RdL (Dt.list Cg) w4 w4.heap.size (Aa (Ac ⟨g2,o2,Ab⟩) 4 f1) (By Zk v).shelf from (Bu.ow_rd (F:=F2) (x:=By Zk v) oy3).1) (k:=home) Bk;simp only [Option.some.injEq,Addr.mk.injEq,and_true] at bX;obtain ⟨rfl,rfl⟩:=bX;replace fE:RdL Cg w4 w4 (Aa xa2 xn2 xc2) ((By Zk v).shelf[home]' Bk):=fE;rw [sI] at fE;obtain rfl:xn2=0:=RdL.at1 (s:=⟨xa2,xn2,xc2⟩) fE;have cU:((By Zk v).shelf[v].take (Cw (By Zk v).shelf[v])).length<=80:=Lq _ fW;have CM:=Bp (Vm [] ((By Zk v).shelf[v].take (Cw (By Zk v).shelf[v])) ⟨xa2,0,xc2⟩ ⟨qa1,qn1,qc1⟩ w4.drew Bm Bk (RdL.below fE (Bq _ _).drew) (RdL.below oh1.rd (Bq _ _).drew));have hobw4:ob<w4:=OB_l;have hobF2':=dP;clear sI fE fW;generalize (By Zk v).shelf[v].take (Cw (By Zk v).shelf[v])=lt_ at *
    generalize hlr:(By Zk v).shelf[v].drop (Cw (By Zk v).shelf[v])=lr_ at *
    replace hlr:=Bp hlr;refine Dj (fun w'=>w'.cell? ⟨ob,2,Ab⟩=Ac (Aa (Ac ⟨g2,o2,Ab⟩) 4 f1)/\w'.cell? ⟨g2,o2+home,Ab⟩=Ac (Aa xa2 0 xc2)) 11 Bl ?_ (fun hHeld=>?_)
    ·exact ⟨OB_2,cx⟩
    refine aT 0 hHeld ?_;try simp only [pS]
    refine aT 1 hHeld ?_;try simp only [pS]
    refine aT 2 hHeld ?_;try simp only [pS]
    refine aT 3 hHeld ?_;try simp only [pS]
    refine aT 4 hHeld ?_;try simp only [pS]
    refine aT 5 hHeld ?_;try simp only [pS]
    refine aT 6 hHeld ?_;try simp only [pS]
    refine aT 7 hHeld ?_;try simp only [pS]
    refine aT 8 hHeld ?_;try simp only [pS]
    refine oT 9 (fun K hK=>?_)
    (go_simp;refine CM.out.mono ?_;rintro e w6 ⟨⟨ma,mn,mc⟩,Fm,rfl,om,nm,b6⟩;have hgc:w6.cell? ⟨g2,o2+home,Ab⟩=Ac (Aa xa2 0 xc2):=(b6.cell (p:=⟨_,_,Ab⟩) (by show g2<w4;omega)).trans cx;have pV:∀ j,w6.frozen? ⟨g2,j,Ab⟩=false:=fun j=>(b6.frozen (p:=⟨_,_,Ab⟩) (by show g2<w4;omega)).trans (gL j))
    have HSx:w6.cell? ⟨ob,2,Ab⟩=Ac (Aa (Ac ⟨g2,o2,Ab⟩) 4 f1)/\w6.cell? ⟨g2,o2+home,Ab⟩=Ac (Aa xa2 0 xc2):=⟨(b6.cell (p:=⟨_,_,Ab⟩) (by show ob<w4;omega)).trans OB_2,hgc⟩
    refine hK.out _ _ (fun _=>HSx) ?_;clear hK K;try simp only [pS]
    refine oT 10 (fun K hK=>?_);go_simp;refine hK.out _ _ (fun _=>HSx) ?_;clear hK K;try simp only [pS]
    refine oT 11 (fun K hK=>?_);go_simp;refine hK.out _ _ (fun aC=>absurd rfl aC) ?_;clear hK K HSx;try simp only [pS]
    refine Ec Bl ?_ _;have b6':Below w4 w4 w6:=Bs (Bq _ _).drew b6;have nD:=b6'.size;have rK:∀ x∈Fm,w4<=x:=nm;have jN:=Bu.ow_lt (F:=F2) (x:=By Zk v) (s:=(⟨Ac ⟨g2,o2,Ab⟩,4,f1⟩,⟨C2,p2,f2⟩)) oy3;have oy6:=Bu.ow_below (F:=F2) (x:=By Zk v) (s:=(⟨Ac ⟨g2,o2,Ab⟩,4,f1⟩,⟨C2,p2,f2⟩)) oy3 b6';have oh2':=oh2.below b6';obtain ⟨F5,oy5,hF5,gT⟩:=Gf oy6 (i:=home) Bk (l:=Fg [] lt_) (t:=⟨ma,mn,mc⟩) om (fun x hx bF=>by have h1:=rK x hx;have h2:=jN x bF;omega);have cX:Chg [g2] w6 (w6.setCell ⟨g2,o2+home,Ab⟩ (Aa ma mn mc)):=Chg.setCell w6 g2 _ _;have bK:=Bp (show ∀ x,x∈[g2]->x=g2 from fun x hx=>by simpa using hx);have hg2gt:=mL _ gT;have hg2n:=eX _ gT;have eF:ob≠g2:=fun h=>dP (by rw [h];exact gT);clear OB_0 OB_1 OB_2 OB_3 OB_l;replace OB:=(OB.below b6').chg cX (fun hx=>eF (bK.out _ hx));replace RES3:=(RES3.below b6').chg cX (fun hx=>by have:=bK.out _ hx;omega);replace RP3:=(RP3.below b6').chg cX (fun hx=>by have:=bK.out _ hx;omega);replace dB:=(dB.below b6').chg cX (fun x hx aN=>by have h1:=bK.out _ aN;have h2:=qS x hx;omega);have oh3:=oh2'.chg cX (fun x hx aN=>by have h1:=bK.out _ aN;have h2:=jJ x hx;omega);replace bY:=(Bs bY b6').trans (cX.below (by have:=(Bs bY b6').size;omega) (fun x hx=>by have:=bK.out _ hx;omega));have hfg5:∀ j,(w6.setCell ⟨g2,o2+home,Ab⟩ (Aa ma mn mc)).frozen? ⟨g2,j,Ab⟩=false:=fun j=>(Hz w6 _ _ _).trans (pV j);have nJ:=cX.size;have hFm5:∀ x∈Fh2,x<w4:=fun x hx=>oh2.lt x hx;clear cX hHeld oy3 oy6 oh1 oh2 oh2' gL cv cv2 b6 b6' nm om CM cx hgc pV;generalize w6.setCell ⟨g2,o2+home,Ab⟩ (Aa ma mn mc)=w5 at *
    replace oy5:Bu.ow w5 F5 ⟨(By Zk v).now,(By Zk v).seq,(By Zk v).shelf.set home (Fg [] lt_),(By Zk v).runs⟩ (⟨Ac ⟨g2,o2,Ab⟩,4,f1⟩,⟨C2,p2,f2⟩):=oy5;obtain ⟨_,_,⟨xa3,xn3,xc3⟩,bX,_,_,cx3⟩:=RdL.entryS (show RdL (Dt.list Cg) w5 w5.heap.size (Aa (Ac ⟨g2,o2,Ab⟩) 4 f1) ((By Zk v).shelf.set home (Fg [] lt_)) from (Bu.ow_rd (F:=F5) (x:=⟨(By Zk v).now,(By Zk v).seq,(By Zk v).shelf.set home (Fg [] lt_),(By Zk v).runs⟩) oy5).1) (k:=v) (by rw [Bg];omega);simp only [Option.some.injEq,Addr.mk.injEq,and_true] at bX;obtain ⟨rfl,rfl⟩:=bX;obtain ⟨F7,oy7,pE,-⟩:=Gf oy5 (i:=v) (by show v<(List.set _ _ _).length;rw [Bg];omega) (l:=lr_) (t:=⟨qa2,qn2,qc2⟩) oh3 (fun x hx bF=>by
     rcases hF5 x bF with h | h
     ·have h1:=jJ x hx;have h2:=hfl2 x h;omega
     ·have h1:=hFm5 x hx;have h2:=rK x h;omega)
    have fX:Chg [g2] w5 (w5.setCell ⟨g2,o2+v,Ab⟩ (Aa qa2 qn2 qc2)):=Chg.setCell w5 g2 _ _;have hg2w5:g2<w5:=Bk;obtain ⟨OB_0,OB_1,OB_2,OB_3,OB_l⟩:=OB.g4;go_upto_region 15 with fail
    clear OB_0 OB_1 OB_2 OB_3 OB_l;replace OB:=OB.chg fX (fun hx=>eF (bK.out _ hx));replace RES3:=RES3.chg fX (fun hx=>by have:=bK.out _ hx;omega);replace RP3:=RP3.chg fX (fun hx=>by have:=bK.out _ hx;omega);replace dB:=dB.chg fX (fun x hx aN=>by have h1:=bK.out _ aN;have h2:=qS x hx;omega);replace bY:=bY.trans (fX.below (by have:=bY.size;omega) (fun x hx=>by have:=bK.out _ hx;omega));have gG:∀ x∈F7,x∈F2\/w3<=x:=fun x hx=>by
     rcases pE x hx with h | h
     ·rcases hF5 x h with h' | h'
      ·exact .inl h'
      ·right;have:=rK x h';omega
     ·exact .inr (jJ x h)
    clear oy5 fX cx3 hfg5;generalize w5.setCell ⟨g2,o2+v,Ab⟩ (Aa qa2 qn2 qc2)=w7 at *
    go_wp2;exact ⟨⟨k+1,(⟨Ac ⟨g2,o2,Ab⟩,4,f1⟩,⟨C2,p2,f2⟩),F7,Bk,by go_num,by rw [aE.out];exact hP1,by rw [aE.out,sQ.out];exact oy7,⟨fun x hx=>by (rcases gG x hx with h | h);exact mL x h;omega,fun hx=>by (rcases gG _ hx with h | h);exact dP h;omega,fun x hx bF=>by have h1:=qS x hx;(rcases gG x bF with h | h);have:=eX x h;omega;omega⟩,dB,by rw [aE.out,sQ.out];exact OB,RES3,RP3,bY⟩,by simp [intOf];omega⟩
  have aB:(k:Int)<3:=Bk;have nT:(0:Int)<(Zk.shelf[home].length:Int):=Bk;have hqn:0<Zk.shelf[home].length:=Bk;have hqe:¬ Zk.shelf[home]=[]:=fun h=>hq (by rw [h];rfl);have kI:k<L.length:=Bk;obtain ⟨gv,ov,rfl,hgv,cv⟩:=eP.out.rd.nat kI;have cS:(0:Int)<=(k:Int):=Bk;generalize L[k]=v at *
  replace bU:=Bp (bU.out (.inr (by rw [bW.out];exact hq)));clear hq;rotate_left;have aB:¬ (k:Int)<3:=Bk;have nT:True:=trivial;replace bU:=Bp (bU.out (.inl Bk));all_goals
   have HZ:=Bp (show Gv y (wk:Int) d=Lj Zk home by rw [H.out,HG.out,bU.out]);have gI:∀ e∈Zk.shelf[home],Pi Zk e:=fun e he=>by
    have h1:=aM.out.fresh e (by rw [bW.out];exact he);rw [<-Li aM.out.runs] at h1;exact Kw.1 h1
   replace dU:RdL Cg wr wr (Aa xa Zk.shelf[home].length xc) Zk.shelf[home]:=dU;have mZ:=aM.out.all _ (Aw eY);have nI:Hid (Lj Zk home=Sn Zk home Zk.shelf[home]):=by
    show Lj Zk home=_;unfold Lj;rw [bW.out]
   have CT:=Bp (Qo Zk.shelf[home] ⟨xa,Zk.shelf[home].length,xc⟩ wr Bk dU);clear aE bW eP eH eU hseq qX H HG bU;generalize Zk.shelf[home]=SH at *
   go_wp2_with fail
   refine CT.out.mono ?_
   (try clear hqe)
   (try clear hqn)
   (try clear nT)
   have nT:True:=trivial;rintro e9 w2 ⟨⟨ta,tn,tc⟩,Ft,rfl,ot,nt,b2⟩;replace oy:Bu.ow wr F Zk (⟨Ac ⟨g,o,Ab⟩,4,e1⟩,⟨B2,m2,e2⟩):=oy.out;have kC:=Bu.ow_lt (F:=F) (x:=Zk) (s:=(⟨Ac ⟨g,o,Ab⟩,4,e1⟩,⟨B2,m2,e2⟩)) oy;replace oy:Bu.ow w2 F Zk (⟨Ac ⟨g,o,Ab⟩,4,e1⟩,⟨B2,m2,e2⟩):=owB oy b2;clear OB_0 OB_1 OB_2 OB_3 OB_l;replace OB:=OB.below b2;replace RES:=RES.below b2;replace RP:=RP.below b2;have aF:=Bs hb b2;have cI:=b2.size;clear b2 CT ch dU hb oyr;have aC:w.heap.size+1+1≠w.heap.size+1:=Bk;cases SH with
   | nil =>
    have HF:=Bp (HZ.out.trans nI.out);clear HZ nI gI ot;have EB0:Below w2 w2 (w2.alloc (.cells #[J U 0,J U 0,J U 0,J U 0] 93)):=(Bq _ _).alloc (Br _) _;go_upto_region 17 with fail
    replace oy:Bu.ow _ F Zk (⟨Ac ⟨g,o,Ab⟩,4,e1⟩,⟨B2,m2,e2⟩):=owB oy EB0;replace OB:=OB.below EB0;replace RES:=RES.below EB0;replace RP:=RP.below EB0;replace aF:=Bs aF EB0;clear EB0;generalize w2.alloc (.cells #[J U 0,J U 0,J U 0,J U 0] 93)=w3 at *
    obtain ⟨OB_0,OB_1,OB_2,OB_3,OB_l⟩:=OB.g4;obtain ⟨RES_0,RES_1,RES_2,RES_3,RES_l⟩:=RES.g4;obtain ⟨RP_0,RP_1,RP_2,RP_3,RP_l⟩:=RP.g4;have rf:=RES.free;have pf:=RP.free;go_wp2;have en1:w.heap.size+1∉F:=fun hx=>by have:=hF.out.1 _ hx;omega
    have en2:w.heap.size+1+1∉F:=fun hx=>by have:=hF.out.1 _ hx;omega
    have RES2:=DBox.row4 RES rfl (J U Zk.now) (J U Zk.seq) (Aa (Ac ⟨g,o,Ab⟩) 4 e1) (Aa B2 m2 e2);have RP2:=DBox.row4 ((((RP.setOther (a:=⟨w.heap.size+1,0,Ab⟩) aC (J U Zk.now)).setOther (a:=⟨w.heap.size+1,1,Ab⟩) aC (J U Zk.seq)).setOther (a:=⟨w.heap.size+1,2,Ab⟩) aC (Aa (Ac ⟨g,o,Ab⟩) 4 e1)).setOther (a:=⟨w.heap.size+1,3,Ab⟩) aC (Aa B2 m2 e2)) rfl (J U 9) (J U 0) (J U 0) (J U 0);have RES3:=(((RES2.setOther (a:=⟨w.heap.size+1+1,0,Ab⟩) aC.symm (J U 9)).setOther (a:=⟨w.heap.size+1+1,1,Ab⟩) aC.symm (J U 0)).setOther (a:=⟨w.heap.size+1+1,2,Ab⟩) aC.symm (J U 0)).setOther (a:=⟨w.heap.size+1+1,3,Ab⟩) aC.symm (J U 0);refine Aj (Oh RES3 RP2) rfl ⟨(⟨Ac ⟨g,o,Ab⟩,4,e1⟩,⟨B2,m2,e2⟩),F,by rw [HF.out];rfl,by rw [HF.out];exact (by (repeat (refine Dt.ow_set Bu ?_ (by first | exact en1 | exact en2) _));exact (show Bu.ow _ F Zk (⟨Ac ⟨g,o,Ab⟩,4,e1⟩,⟨B2,m2,e2⟩) from oy)),fun x hx=>by have:=hF.out.1 x hx;omega,?_⟩;repeat (first | (with_reducible exact aF) | refine Ad ?_ Bn _)
   | cons e rest =>
    obtain ⟨qV,⟨gQ,qH⟩,bV⟩:=gI e (List.mem_cons_self ..);obtain ⟨pr,sq,rn,tk⟩:=e;dsimp only at qV gQ qH bV;obtain ⟨t,rfl⟩:=Aq gQ;rcases Eu Zk rn with eB | ⟨j,hj,eB⟩
    ·exact absurd qV Bk
    have bP:=Gq hj eB;rw [bP] at qH bV;have sC:j<y.runs.length:=by rw [<-aM.out.runs];exact hj
    have qB:Hid (Gg Zk.runs[j]):=by
     have e:Zk.runs[j]=y.runs[j]:=by simp only [aM.out.runs]
     show Gg Zk.runs[j];rw [e];exact E0 HP.out sC
    have HF:=Bp (HZ.out.trans (nI.out.trans (show _=((⟨Zk.now,Zk.seq,Zk.shelf.set home rest,Zk.runs.set j (Cv Zk.runs[j] t Zk.now)⟩:Yard),(⟨0,rn,t,(Bx Zk.runs[j] t).try_+1⟩:Reply)) by show Sn _ _ (_ :: _)=_;unfold Sn;dsimp only;rw [eB,bP,Ap,Ap])));have kR:=Bp (show 0<=Zk.now/\Zk.now<=999999980 by rw [aM.out.now];exact HP.out.1);have hrun8:Zk.runs.length<=8:=by rw [aM.out.runs];exact HP.out.2.2.2.2.2.2.1
    have cU:t<Zk.runs[j].tasks.length:=Bk;have qG:=Cn cU;have kW:=Bp (show Dh ⟨Zk.now,Zk.seq,Zk.shelf.set home rest,Zk.runs⟩ rn=j from (Mt (y:=Zk) rfl rn).trans eB);have nM:=Bp (show Ci ⟨Zk.now,Zk.seq,Zk.shelf.set home rest,Zk.runs⟩<=2000000 by
     have:=N9 (y:=⟨Zk.now,Zk.seq,Zk.shelf.set home rest,Zk.runs⟩) (M:=80) (by simpa using qZ) (fun s hs=>by
      rcases List.mem_or_eq_of_mem_set hs with h | h
      ·exact aM.out.all s h
      ·subst h;simp at mZ;omega) hrun8 (fun k hk=>by
       have aZ:k<y.runs.length:=by rw [<-aM.out.runs];exact hk
       have e:Zk.runs[k]=y.runs[k]:=by simp only [aM.out.runs]
       show Gg Zk.runs[k];rw [e];exact E0 HP.out aZ)
     omega)
    clear HZ nI gI eB bP qV gQ qH bV sC qP nT;replace ot:OwL Cg w2 Ft (Aa ta tn tc) rest:=ot;have gW:∀ x∈Ft,wr<=x/\x<w2:=fun x hx=>⟨nt x hx,ot.lt x hx⟩
    have EB:=DBox.new 93 [J U pr,J U sq,J U rn,J U (t:Int)] w2 (b:=w2.heap.size) rfl;have EB0:Below w2 w2 (w2.alloc (.cells #[J U pr,J U sq,J U rn,J U (t:Int)] 93)):=(Bq _ _).alloc (Br _) _;go_upto_region 17 with fail
    replace oy:Bu.ow _ F Zk (⟨Ac ⟨g,o,Ab⟩,4,e1⟩,⟨B2,m2,e2⟩):=owB oy EB0;replace ot:=ot.below EB0;replace OB:=OB.below EB0;replace RES:=RES.below EB0;replace RP:=RP.below EB0;replace aF:=Bs aF EB0;clear nt EB0;generalize w2.alloc (.cells #[J U pr,J U sq,J U rn,J U (t:Int)] 93)=w3 at *
    have hebl:=EB.lt;generalize w2.heap.size=eb at *
    obtain ⟨OB_0,OB_1,OB_2,OB_3,OB_l⟩:=OB.g4;have EB_:=EB.g4;replace oy:Bu.ow w3 F Zk (⟨Ac ⟨g,o,Ab⟩,4,e1⟩,⟨B2,m2,e2⟩):=oy;have gL:∀ j,w3.frozen? ⟨g,j,Ab⟩=false:=by
     obtain ⟨G1,G2,_,_,os,_⟩:=oy;exact OwL.free0 (show OwL (Dt.list Cg) w3 G1 (Aa (Ac ⟨g,o,Ab⟩) 4 e1) Zk.shelf from os) Bk
    obtain ⟨_,_,⟨xa3,xn3,xc3⟩,bX,jX,_,ch⟩:=RdL.entryS (show RdL (Dt.list Cg) w3 w3.heap.size (Aa (Ac ⟨g,o,Ab⟩) 4 e1) Zk.shelf from (Bu.ow_rd (F:=F) (x:=Zk) oy).1) eY;simp only [Option.some.injEq,Addr.mk.injEq,and_true] at bX;obtain ⟨rfl,rfl⟩:=bX;obtain ⟨F4,oy4,rV,fJ⟩:=Gf oy eY (l:=rest) (t:=⟨ta,tn,tc⟩) ot (fun x hx bF=>by have h1:=(gW x hx).1;have h2:=kC x bF;omega);go_upto_region 20 with fail
    have gN:Chg [g] w3 (w3.setCell ⟨g,o+home,Ab⟩ (Aa ta tn tc)):=Chg.setCell w3 g _ _;have bK:=Bp (show ∀ x,x∈[g]->x=g from fun x hx=>by simpa using hx);have hgF2:=hF.out.1 g fJ;have eF:ob≠g:=fun h=>hF.out.2.1 (by rw [h];exact fJ);clear OB_0 OB_1 OB_2 OB_3 OB_l;clear EB_;replace OB:=OB.chg gN (fun hx=>eF (bK.out _ hx));replace EB:=EB.chg gN (fun hx=>by have:=bK.out _ hx;omega);replace RES:=RES.chg gN (fun hx=>by have:=bK.out _ hx;omega);replace RP:=RP.chg gN (fun hx=>by have:=bK.out _ hx;omega);have jY:=gN.size;replace aF:=aF.trans (gN.below (by have:=aF.size;omega) (fun x hx=>by have:=bK.out _ hx;omega));clear gN oy gL ch ot;generalize w3.setCell ⟨g,o+home,Ab⟩ (Aa ta tn tc)=w4 at *
    replace oy4:Bu.ow w4 F4 ⟨Zk.now,Zk.seq,Zk.shelf.set home rest,Zk.runs⟩ (⟨Ac ⟨g,o,Ab⟩,4,e1⟩,⟨B2,m2,e2⟩):=oy4;have fP:∀ x∈F4,(x∈F\/(wr<=x/\x<eb)):=fun x hx=>(rV x hx).imp id (fun h=>gW x h);have CA:=Bp (fun W (hW:Below w4 w4 W)=>Jt ⟨Zk.now,Zk.seq,Zk.shelf.set home rest,Zk.runs⟩ (⟨Ac ⟨g,o,Ab⟩,4,e1⟩,⟨B2,m2,e2⟩) rn W nM.out (Bu.rd_more (Bu.rd_below (Bu.ow_rd (F:=F4) (x:=⟨Zk.now,Zk.seq,Zk.shelf.set home rest,Zk.runs⟩) oy4) hW) hW.size));rw [kW.out] at CA;have oyr:=(Bu.ow_rd (F:=F4) (x:=⟨Zk.now,Zk.seq,Zk.shelf.set home rest,Zk.runs⟩) oy4).2;have eN:m2=Zk.runs.length:=RdL.at1 (s:=⟨B2,m2,e2⟩) oyr;subst eN;have gF:(j:Int)<(Zk.runs.length:Int):=Bk;have bS:(0:Int)<=(j:Int):=Bk;have hobw4:ob<w4:=OB.lt;have hebw4:eb<w4:=EB.lt;obtain ⟨gr0,orr0,-,rfl,hgrw0,-⟩:=RdL.run (show RdL Co w4 w4.heap.size (Aa B2 Zk.runs.length e2) Zk.runs from oyr) hj;obtain ⟨OB_0,OB_1,OB_2,OB_3,OB_l⟩:=OB.g4;have EB_:=EB.g4;have aJ:=Cy w4;refine Bv Bl Bl ?_;repeat (go_big_quiet_step ((go_at_call 75;rename_i x;exact Ea (CA.out x.1 x.2))))
    refine wpQuiet_nil ?_;rintro w5 ⟨⟨_,b5⟩,rfl⟩;clear OB_0 OB_1 OB_2 OB_3 OB_l;clear EB_;replace OB:=OB.below b5;replace EB:=EB.below b5;replace RES:=RES.below b5;replace RP:=RP.below b5;replace aF:=Bs aF b5;replace oy4:Bu.ow w5 F4 ⟨Zk.now,Zk.seq,Zk.shelf.set home rest,Zk.runs⟩ (⟨Ac ⟨g,o,Ab⟩,4,e1⟩,⟨Ac ⟨gr0,orr0,Ab⟩,Zk.runs.length,e2⟩):=owB oy4 b5;have nJ:=b5.size;clear b5 CA kW nM aJ oyr;obtain ⟨G1,G2,qQ,bM,osS,osR⟩:=oy4;replace osS:OwL (Dt.list Cg) w5 G1 (Aa (Ac ⟨g,o,Ab⟩) 4 e1) (Zk.shelf.set home rest):=osS;replace osR:OwL Co w5 G2 (Aa (Ac ⟨gr0,orr0,Ab⟩) Zk.runs.length e2) Zk.runs:=osR;obtain ⟨gr,orr,rs,sr,Ga,Fx,Gb,hAe,hG2,hmr,F5_⟩:=osR.foc hj;simp only [Option.some.injEq,Addr.mk.injEq,and_true] at hAe;obtain ⟨rfl,rfl⟩:=hAe;generalize mV:Zk.runs[j]=r at *
    obtain ⟨Fp,gt,ot2,tc2,mW,hnx,cI,op,oh,hgg,hgp⟩:=F5_.atRun Bk;obtain ⟨sr1,sr2⟩:=sr;obtain rfl:sr2=_:=cI;have nK:-1000000<=r.tasks[t].try_/\r.tasks[t].try_<=2000000000/\0<=r.plan.wait/\r.plan.wait<=2000000000:=by
     have h1:=qB.out.2.2.2.1 t cU;have h2:=(C8.1 qB.out.2.1).1;simp only [D7,Bool.and_eq_true] at h2;have h3:=Cp.1 h2.1.2;have h4:=Cp.1 h2.2;unfold Gl Lh at h1;rw [qG] at h1;omega
    have hmemF:gt∈F4/\gr0∈F4:=by
     rw [qQ,hG2,mW];exact ⟨Bm,Bm⟩
    have hdF:∀ x∈G1,x≠gt:=fun x hx e=>by
     rw [qQ,Ax] at bM;exact bM.2.2 x hx gt (by rw [hG2,mW];simp) e
    have fM:∀ x∈F4,w.heap.size+1+1<x/\x≠ob/\x≠eb:=fun x hx=>by
     rcases fP x hx with h1 | h1
     ·refine ⟨hF.out.1 x h1,fun e=>hF.out.2.1 (by rw [<-e];exact h1),fun e=>?_⟩
      have:=kC x h1
      omega
     ·omega
    have hgt4:=fM gt hmemF.1;have hgr5:=F5_.blk;have jU:(t:Int)<(r.tasks.length:Int):=Bk;have gQ:(0:Int)<=(t:Int):=Bk;have hgtw:gt<w5:=(oh.block Bk).2.1;have kX:=(oh.block Bk).2.2;obtain ⟨c0,c1,c2,c3,c4,c5,c6,c7⟩:=F5_.run;have hobw5:ob<w5:=Bk;have hebw5:eb<w5:=Bk;obtain ⟨OB_0,OB_1,OB_2,OB_3,OB_l⟩:=OB.g4;have EB_:=EB.g4;have aJ:=Cy w5;go_upto_region 21 with fail
    refine Bv Bl Bl ?_;repeat (go_big_quiet_step (fail))
    refine wpQuiet_nil ?_;rintro w6 ⟨⟨_,b6⟩,rfl⟩;have hB6:Below w4 w4 w4:=Bq _ _;replace F5_:=F5_.sub (w':=w6) (y:=r) (Chg.of_below _ b6) (Co.ow_below (F:=Fx) (x:=r) (s:=(sr1,⟨Ac ⟨gt,ot2,Ab⟩,r.tasks.length,tc2⟩)) F5_.here b6) rfl;replace oh:=oh.below b6;replace op:=Cm.ow_below (F:=Fp) (x:=r.plan) (s:=sr1) op b6;replace osS:=osS.below b6;clear OB_0 OB_1 OB_2 OB_3 OB_l;clear EB_;replace OB:=OB.below b6;replace EB:=EB.below b6;replace RES:=RES.below b6;replace RP:=RP.below b6;replace aF:=Bs aF b6;have nD:=b6.size;clear c0 c1 c2 c3 c4 c5 c6 c7 aJ b6 hB6 kX;have kX:=(oh.block Bk).2.2;have hgtw6:gt<w6:=Bk;have hgrw6:gr0<w6:=Bk;obtain ⟨_,_,bX,_,d0,d1,d2,d3⟩:=oh.rd.tsk cU;simp only [Option.some.injEq,Addr.mk.injEq,and_true] at bX;obtain ⟨rfl,rfl⟩:=bX;have hw24:U.wrap (r.tasks[t].try_+1)=r.tasks[t].try_+1:=Ar _ Bk;have hww:U.wrap (Zk.now+r.plan.wait)=Zk.now+r.plan.wait:=Ar _ (by have:=kR.out;omega);have fK:=(Chg.setCell w6 gt (ot2+t * 4) (J U 3)).trans (Chg.setCell _ gt (ot2+t * 4+2) (J U (r.tasks[t].try_+1)));have c3:w6.cell? ⟨gr0,orr0+j * 8+3,Ab⟩=Ac (J U r.plan.wait):=F5_.cells 3 _ rfl;have bK:=Bp (show ∀ x,x∈[gt]->x=gt from fun x hx=>by simpa using hx);have e3:∀ W:World,Chg [gt] w6 W->W.cell? ⟨gr0,orr0+j * 8+3,Ab⟩=Ac (J U r.plan.wait):=fun W hW=>(hW.cell (p:=⟨gr0,_,Ab⟩) hgrw6 (fun hx=>hgg (bK.out _ hx))).trans c3;have oh2:Hw G4 ((w6.setCell ⟨gt,ot2+t * 4,Ab⟩ (J U 3)).setCell ⟨gt,ot2+t * 4+2,Ab⟩ (J U (r.tasks[t].try_+1))) [gt] (Aa (Ac ⟨gt,ot2,Ab⟩) r.tasks.length tc2) (r.tasks.set t ⟨3,r.tasks[t].need,r.tasks[t].try_+1,r.tasks[t].until_⟩):=by
     have h1:=oh.part cU ⟨3,r.tasks[t].need,r.tasks[t].try_,r.tasks[t].until_⟩ 0 [J U 3] (show 0+1<=4 by omega) (fun i hi=>by simp at hi;subst hi;rfl) (fun i hi ho=>by
      have:i<4:=hi;rcases (show i=1\/i=2\/i=3 by simp at ho;omega) with rfl | rfl | rfl<;>rfl)
     have h2:=h1.part (j:=t) (by rw [Bg];exact cU) ⟨3,r.tasks[t].need,r.tasks[t].try_+1,r.tasks[t].until_⟩ 2 [J U (r.tasks[t].try_+1)] (show 2+1<=4 by omega) (fun i hi=>by simp at hi;subst hi;rfl) (fun i hi ho=>by
      have:i<4:=hi;rw [List.getElem_set_self];rcases (show i=0\/i=1\/i=3 by simp at ho;omega) with rfl | rfl | rfl<;>rfl)
     rw [List.set_set] at h2;exact h2
    go_upto_region 24 with fail
    generalize (w6.setCell ⟨gt,ot2+t * 4,Ab⟩ (J U 3)).setCell ⟨gt,ot2+t * 4+2,Ab⟩ (J U (r.tasks[t].try_+1))=w7 at *
    have OB7:=OB.chg fK (fun hx=>hgt4.2.1 (bK.out _ hx).symm);have c37:=e3 w7 fK;have hs7:=fK.size;clear d0 d1 d2 d3 kX oh;refine Go.wp_region_noPanic ?_;refine wp_region_held_drew (S:=(fun w'=>DBox ob [J U Zk.now,J U Zk.seq,Aa (Ac ⟨g,o,Ab⟩) 4 e1,Aa (Ac ⟨gr0,orr0,Ab⟩) Zk.runs.length e2] w'/\w'.cell? ⟨gr0,orr0+j * 8+3,Ab⟩=Ac (J U r.plan.wait))) Bl ⟨DBox.drew4 OB7,c37⟩ (fun hHeld=>?_);replace oh2:=oh2.below (Bq w7 w7).drew;replace fK:=fK.drew;have hs8:w7.drew.heap.size=w7.heap.size:=rfl;clear OB7 c37;generalize w7.drew=w8 at *
    refine tV 0 ?_
    (try simp only [pS])
    refine tV 1 ?_
    (try simp only [pS])
    refine tV 2 ?_
    (try simp only [pS])
    refine tV 3 ?_
    (try simp only [pS])
    refine tV 4 ?_
    (try simp only [pS])
    refine tV 5 ?_
    (try simp only [pS])
    refine tV 6 ?_
    (try simp only [pS])
    refine tV 7 ?_
    (try simp only [pS])
    refine tV 8 ?_
    (try simp only [pS])
    refine tV 9 ?_
    (try simp only [pS])
    refine tV 10 ?_
    (try simp only [pS])
    have dS:t<(r.tasks.set t ⟨3,r.tasks[t].need,r.tasks[t].try_+1,r.tasks[t].until_⟩).length:=by rw [Bg];exact cU
    obtain ⟨_,_,bX,_,d0,d1,d2,d3⟩:=oh2.rd.tsk dS;simp only [Option.some.injEq,Addr.mk.injEq,and_true] at bX;obtain ⟨rfl,rfl⟩:=bX;have kX:=(oh2.block (by rw [Bg];omega)).2.2;have hC2:=Chg.setCell w8 gt (ot2+t * 4+3) (J U (Zk.now+r.plan.wait));refine rC 11 (fun K_ hK=>?_);go_simp;refine hK.out _ _ ⟨hHeld.1.chg hC2 (fun hx=>hgt4.2.1 (bK.out _ hx).symm),e3 _ (fK.trans hC2)⟩ (fun hHeld=>?_);clear hK K_ hHeld
    (try simp only [pS])
    refine wpAnyH_done Bl ?_ _;refine NoPanic.normal ?_;have oh3:=oh2.part (j:=t) dS ⟨3,r.tasks[t].need,r.tasks[t].try_+1,Zk.now+r.plan.wait⟩ 3 [J U (Zk.now+r.plan.wait)] (show 3+1<=4 by omega) (fun i hi=>by simp at hi;subst hi;rfl) (fun i hi ho=>by
     have:i<4:=hi;rw [List.getElem_set_self];rcases (show i=0\/i=1\/i=2 by simp at ho;omega) with rfl | rfl | rfl<;>rfl)
    rw [List.set_set] at oh3;replace oh3:Hw G4 (w8.setCell ⟨gt,ot2+t * 4+3,Ab⟩ (J U (Zk.now+r.plan.wait))) [gt] (Aa (Ac ⟨gt,ot2,Ab⟩) r.tasks.length tc2) (r.tasks.set t ⟨3,r.tasks[t].need,r.tasks[t].try_+1,Zk.now+r.plan.wait⟩):=oh3;replace fK:=fK.trans hC2;have hE:=Bp (show Cv r t Zk.now=⟨r.id,r.plan,r.state,r.tasks.set t ⟨3,r.tasks[t].need,r.tasks[t].try_+1,Zk.now+r.plan.wait⟩⟩ by unfold Cv;rw [Ie cU]);clear d0 d1 d2 d3 kX oh2 hC2;generalize w8.setCell ⟨gt,ot2+t * 4+3,Ab⟩ (J U (Zk.now+r.plan.wait))=w9 at *
    have hxm:∀ x∈[gt],x∈Fx:=fun x hx=>by rw [bK.out x hx,mW];simp
    replace op:=Cm.ow_chg (F:=Fp) (x:=r.plan) (s:=sr1) op fK (fun x hx h=>hgp (by rw [<-bK.out x h];exact hx));have F9_:=F5_.sub (w':=w9) (y:=Cv r t Zk.now) (fK.mono hxm) (by
     rw [hE.out];exact ⟨Fp,[gt],mW,hnx,op,K1 oh3⟩) (by rw [hE.out])
    have osR9:=F9_.owl hmr;rw [<-hG2] at osR9;have osS9:=osS.chg fK (fun x hx h=>hdF x hx (bK.out x h));have oy8:Bu.ow w9 F4 ⟨Zk.now,Zk.seq,Zk.shelf.set home rest,Zk.runs.set j (Cv r t Zk.now)⟩ (⟨Ac ⟨g,o,Ab⟩,4,e1⟩,⟨Ac ⟨gr0,orr0,Ab⟩,Zk.runs.length,e2⟩):=⟨G1,G2,qQ,bM,osS9,osR9⟩
    replace OB:=OB.chg fK (fun hx=>hgt4.2.1 (bK.out _ hx).symm);replace EB:=EB.chg fK (fun hx=>hgt4.2.2 (bK.out _ hx).symm);replace RES:=RES.chg fK (fun hx=>by have:=bK.out _ hx;omega);replace RP:=RP.chg fK (fun hx=>by have:=bK.out _ hx;omega);replace aF:=aF.trans (fK.below (by have:=aF.size;omega) (fun x hx=>by have:=bK.out _ hx;omega));have pA:t<(r.tasks.set t ⟨3,r.tasks[t].need,r.tasks[t].try_+1,Zk.now+r.plan.wait⟩).length:=by rw [Bg];exact cU
    obtain ⟨_,_,bX,_,-,-,cY,-⟩:=oh3.rd.tsk pA;simp only [Option.some.injEq,Addr.mk.injEq,and_true] at bX;obtain ⟨rfl,rfl⟩:=bX;rw [List.getElem_set_self] at cY;have sL:=fK.size;have hgt9:gt<w9:=Bk;have HFF:=Bp (show Gv y (wk:Int) d=((⟨Zk.now,Zk.seq,Zk.shelf.set home rest,Zk.runs.set j (Cv r t Zk.now)⟩:Yard),(⟨0,rn,t,r.tasks[t].try_+1⟩:Reply)) by rw [HF.out,qG]);have en1:w.heap.size+1∉F4:=fun hx=>by have:=(fM _ hx).1;omega
    have en2:w.heap.size+1+1∉F4:=fun hx=>by have:=(fM _ hx).1;omega
    have mT:∀ x∈F4,w<=x:=fun x hx=>by have:=(fM x hx).1;omega
    have gn1:gt≠w.heap.size+1:=Bk;have gn2:gt≠w.heap.size+1+1:=Bk;clear HF fP gW rV kC qG hE oh3 op F9_ F5_ osR9 osS9 osS osR fK e3 c3 bM qQ hG2 hmr hdF fM hmemF;go_upto_region 25 with fail
    refine Go.wp_region_noPanic ?_;refine wp_region_held_drew (S:=(fun w'=>DBox ob [J U Zk.now,J U Zk.seq,Aa (Ac ⟨g,o,Ab⟩) 4 e1,Aa (Ac ⟨gr0,orr0,Ab⟩) Zk.runs.length e2] w'/\DBox eb [J U pr,J U sq,J U rn,J U (t:Int)] w'/\w'.cell? ⟨gt,ot2+t * 4+2,Ab⟩=Ac (J U (r.tasks[t].try_+1)))) Bl ⟨DBox.drew4 OB,DBox.drew4 EB,cY⟩ (fun hHeld=>?_);replace oy8:Bu.ow w9.drew F4 ⟨Zk.now,Zk.seq,Zk.shelf.set home rest,Zk.runs.set j (Cv r t Zk.now)⟩ (⟨Ac ⟨g,o,Ab⟩,4,e1⟩,⟨Ac ⟨gr0,orr0,Ab⟩,Zk.runs.length,e2⟩):=owB oy8 (Bq _ _).drew;replace RES:DBox _ _ w9.drew:=DBox.drew4 RES;replace RP:DBox _ _ w9.drew:=DBox.drew4 RP;replace aF:=aF.drew;have mH:w9.drew.heap.size=w9.heap.size:=rfl;rw [<-mH] at hgt9;clear OB EB cY mH;generalize w9.drew=w8d at *
    refine tV 0 ?_
    (try simp only [pS])
    refine tV 1 ?_
    (try simp only [pS])
    refine tV 2 ?_
    (try simp only [pS])
    refine tV 3 ?_
    (try simp only [pS])
    refine tV 4 ?_
    (try simp only [pS])
    refine tV 5 ?_
    (try simp only [pS])
    refine tV 6 ?_
    (try simp only [pS])
    refine tV 7 ?_
    (try simp only [pS])
    refine tV 8 ?_
    (try simp only [pS])
    refine tV 9 ?_
    (try simp only [pS])
    have RES_0:=RES.cell 0 _ rfl;have RES_1:=RES.cell 1 _ rfl;have RES_2:=RES.cell 2 _ rfl;have RES_3:=RES.cell 3 _ rfl;have rf:=RES.free;have dA:=Bp (show ∀ x,x∈[w.heap.size+1]->x=w.heap.size+1 from fun x hx=>by simpa using hx);have hm2':=Bp (show ∀ x,x∈[w.heap.size+1+1]->x=w.heap.size+1+1 from fun x hx=>by simpa using hx);have fH:=Chg.cells4 w8d (w.heap.size+1) 0 1 2 3 (J U Zk.now) (J U Zk.seq) (Aa (Ac ⟨g,o,Ab⟩) 4 e1) (Aa (Ac ⟨gr0,orr0,Ab⟩) Zk.runs.length e2);refine rC 10 (fun K_ hK=>?_);go_simp;have pZ:=fH.size;have RES2:=DBox.row4 RES rfl (J U Zk.now) (J U Zk.seq) (Aa (Ac ⟨g,o,Ab⟩) 4 e1) (Aa (Ac ⟨gr0,orr0,Ab⟩) Zk.runs.length e2);have RP2:=RP.chg fH (fun hx=>by have:=dA.out _ hx;omega);replace oy8:Bu.ow _ F4 ⟨Zk.now,Zk.seq,Zk.shelf.set home rest,Zk.runs.set j (Cv r t Zk.now)⟩ (⟨Ac ⟨g,o,Ab⟩,4,e1⟩,⟨Ac ⟨gr0,orr0,Ab⟩,Zk.runs.length,e2⟩):=owC oy8 fH (fun x hx aN=>by have h1:=dA.out _ aN;subst h1;exact en1 hx);replace aF:=aF.trans (fH.below (by have:=aF.size;omega) (fun x hx=>by have:=dA.out _ hx;omega));refine hK.out _ _ ⟨hHeld.1.chg fH (fun hx=>by have:=dA.out _ hx;omega),hHeld.2.1.chg fH (fun hx=>by have:=dA.out _ hx;omega),(fH.cell (p:=⟨gt,_,Ab⟩) hgt9 (fun hx=>gn1 (dA.out _ hx))).trans hHeld.2.2⟩ (fun hHeld=>?_);clear hK K_ rf RES_0 RES_1 RES_2 RES_3 fH
    (try simp only [pS])
    generalize (((w8d.setCell ⟨w.heap.size+1,0,Ab⟩ (J U Zk.now)).setCell ⟨w.heap.size+1,1,Ab⟩ (J U Zk.seq)).setCell ⟨w.heap.size+1,2,Ab⟩ (Aa (Ac ⟨g,o,Ab⟩) 4 e1)).setCell ⟨w.heap.size+1,3,Ab⟩ (Aa (Ac ⟨gr0,orr0,Ab⟩) Zk.runs.length e2)=wA at *
    have RP_0:=RP2.cell 0 _ rfl;have RP_1:=RP2.cell 1 _ rfl;have RP_2:=RP2.cell 2 _ rfl;have RP_3:=RP2.cell 3 _ rfl;have pf:=RP2.free;have jB:=Chg.cells4 wA (w.heap.size+1+1) 0 1 2 3 (J U 0) (J U rn) (J U (t:Int)) (J U (r.tasks[t].try_+1));refine rC 11 (fun K_ hK=>?_);go_simp;refine hK.out _ _ ⟨hHeld.1.chg jB (fun hx=>by have:=hm2'.out _ hx;omega),hHeld.2.1.chg jB (fun hx=>by have:=hm2'.out _ hx;omega),(jB.cell (p:=⟨gt,_,Ab⟩) (by show gt<wA;omega) (fun hx=>gn2 (hm2'.out _ hx))).trans hHeld.2.2⟩ (fun hHeld=>?_);clear hK K_ hHeld
    (try simp only [pS])
    refine wpAnyH_done Bl ?_ _;refine NoPanic.normal ?_;have RES3:=RES2.chg jB (fun hx=>by have:=hm2'.out _ hx;omega);have RP3:=DBox.row4 RP2 rfl (J U 0) (J U rn) (J U (t:Int)) (J U (r.tasks[t].try_+1));replace oy8:Bu.ow _ F4 ⟨Zk.now,Zk.seq,Zk.shelf.set home rest,Zk.runs.set j (Cv r t Zk.now)⟩ (⟨Ac ⟨g,o,Ab⟩,4,e1⟩,⟨Ac ⟨gr0,orr0,Ab⟩,Zk.runs.length,e2⟩):=owC oy8 jB (fun x hx aN=>by have h1:=hm2'.out _ aN;subst h1;exact en2 hx);replace aF:=aF.trans (jB.below (by have:=aF.size;omega) (fun x hx=>by have:=hm2'.out _ hx;omega));clear RP_0 RP_1 RP_2 RP_3 pf;go_wp2;exact Aj (Oh RES3 RP3) rfl ⟨(⟨Ac ⟨g,o,Ab⟩,4,e1⟩,⟨Ac ⟨gr0,orr0,Ab⟩,Zk.runs.length,e2⟩),F4,by rw [HFF.out],by rw [HFF.out];exact oy8,mT,aF⟩
theorem Xj {a b:Entry} : Dm a b=true ↔ b.prio<a.prio\/(a.prio=b.prio/\a.seq<b.seq):=by
 unfold Dm;simp
theorem Aat {a b c:Entry} (h:Dm a b=true) (k:Dm b c=true):Dm a c=true:=by
 rw [Xj] at *
 omega
theorem Aau {a b:Entry} (h:a.seq≠b.seq) (k:¬ Dm a b=true):Dm b a=true:=by
 rw [Xj] at *
 omega
abbrev Ls (l:List Entry):Prop:=l.Pairwise fun a b=>Dm a b=true
theorem Xk (l:List Entry) (e:Entry):(Hu l e).Perm (e :: l):=by
 unfold Hu;refine List.perm_middle.trans ?_;rw [List.takeWhile_append_dropWhile]
theorem O6 {α:Type} {p:α->Bool} : ∀ {l:List α} {x:α},x∈l.takeWhile p->p x=true
 | a :: l,x,h=>by
  rw [List.takeWhile_cons] at h;split at h
  ·rcases List.mem_cons.1 h with rfl | h
   ·assumption
   ·exact O6 h
  ·cases h
theorem V0 {l:List Entry} {e:Entry} (h:Ls l) (hs:∀ x∈l,x.seq≠e.seq):Ls (Hu l e):=by
 unfold Hu;have hl:=h;rw [<-List.takeWhile_append_dropWhile (p:=fun x=>Dm x e) (l:=l)] at hl;obtain ⟨h1,h2,h3⟩:=List.pairwise_append.1 hl;have hT:∀ x∈l.takeWhile (fun x=>Dm x e),Dm x e=true:=fun x hx=>O6 (p:=fun x=>Dm x e) hx;have hD:∀ x∈l.dropWhile (fun x=>Dm x e),Dm e x=true:=by
  intro x hx;cases hd:l.dropWhile (fun x=>Dm x e) with
  | nil=>rw [hd] at hx;cases hx
  | cons a d =>
   have ha:¬ Dm a e=true:=by
    have:=List.head_dropWhile_not (fun x=>Dm x e) (l:=l) (by rw [hd];simp)
    simp only [hd,List.head_cons] at this;simp [this]
   have ham:a∈l:=(List.dropWhile_suffix _).sublist.subset (by rw [hd];exact List.mem_cons_self ..);have h0:=Aau (hs a ham) ha;rw [hd] at hx h2;rcases List.mem_cons.1 hx with rfl | hx
   ·exact h0
   ·exact Aat h0 ((List.pairwise_cons.1 h2).1 x hx)
 refine List.pairwise_append.2 ?_;refine ⟨h1,List.Pairwise.cons hD h2,fun a ha b hb=>?_⟩;rcases List.mem_cons.1 hb with rfl | hb
 ·exact hT a ha
 ·exact h3 a ha b hb
theorem V1:∀ (b a:List Entry),Ls a->((a ++ b).map (·.seq)).Nodup->Ls (b.foldl Hu a)/\(b.foldl Hu a).Perm (a ++ b)
 | [],a,h,_=>⟨h,Bm⟩
 | e :: b,a,h,hn=>by
  rw [List.foldl_cons];have hp:(Hu a e ++ b).Perm (a ++ e :: b):=by
   refine ((Xk a e).append_right b).trans ?_;rw [List.cons_append];exact List.perm_middle.symm
  have h1:=V1 b (Hu a e) (V0 h (fun x hx he=>by
   rw [List.map_append,List.map_cons,Ax] at hn;exact hn.2.2 _ (List.mem_map_of_mem hx) _ (List.mem_cons_self ..) he)) ((hp.map _).nodup_iff.2 hn)
  exact ⟨h1.1,h1.2.trans hp⟩
theorem Ab1 {a b:List Entry} (h:Ls a) (hn:((a ++ b).map (·.seq)).Nodup) (hl:a.length+b.length<=80):Ls (Fg a b)/\(Fg a b).Perm (a ++ b):=by
 unfold Fg;rw [if_neg Bk];exact V1 b a h hn
theorem Mi {α:Type} (s:List (List α)) (i:Nat) (hi:i<s.length):∃ R,s.flatten.Perm (s[i] ++ R) /\ ∀ l',(s.set i l').flatten.Perm (l' ++ R):=by
 refine ⟨(s.take i).flatten ++ (s.drop (i+1)).flatten,?_,fun l'=>?_⟩
 ·have e:s=s.take i ++ s[i] :: s.drop (i+1):=by rw [List.getElem_cons_drop hi,List.take_append_drop]
  have:s.flatten=(s.take i).flatten ++ (s[i] ++ (s.drop (i+1)).flatten):=by
   conv=>lhs;rw [e]
   rw [List.flatten_append,List.flatten_cons]
  rw [this];exact List.perm_append_comm_assoc _ _ _
 ·rw [List.set_eq_take_append_cons_drop,if_pos hi,List.flatten_append,List.flatten_cons];exact List.perm_append_comm_assoc _ _ _
structure Shelves (s:List (List Entry)):Prop where
 four:s.length=4
 sort:∀ l∈s,Ls l
theorem Shelves.set {s:List (List Entry)} (h:Shelves s) {l:List Entry} (hl:Ls l) (i:Nat):Shelves (s.set i l) :=
 ⟨by rw [Bg];exact h.four,fun x hx=>by rcases List.mem_or_eq_of_mem_set hx with h1 | rfl;exact h.sort x h1;exact hl⟩
theorem Shelves.at_ {s:List (List Entry)} (h:Shelves s) (i:Nat):Ls (s.getD i []):=by
 rw [List.getD_eq_getElem?_getD];cases q:s[i]? with
 | none=>exact List.Pairwise.nil
 | some l=>exact h.sort l (List.mem_of_getElem? q)
def Mj (s:Int) (r:Run):List Nat->List Entry
 | []=>[]
 | t :: L=>⟨r.plan.prio,s,r.id,t⟩ :: Mj (s+1) r L
theorem He {r:Run} : ∀ {L:List Nat} {s:Int} {e:Entry},e∈Mj s r L->e.prio=r.plan.prio/\e.run=r.id/\s<=e.seq/\e.seq<s+L.length /\ ∃ t∈L,e.task=(t:Int)
 | [],_,_,h=>by cases h
 | t :: L,s,e,h=>by
  rcases List.mem_cons.1 h with rfl | h
  ·refine ⟨rfl,rfl,Int.le_refl _,?_,t,List.mem_cons_self ..,rfl⟩;simp only [List.length_cons];omega
  ·obtain ⟨h1,h2,h3,h4,u,hu,h5⟩:=He h;refine ⟨h1,h2,Bk,?_,u,List.mem_cons_of_mem _ hu,h5⟩;simp only [List.length_cons];omega
theorem V2 (r:Run):∀ (L:List Nat) (s:Int),(Mj s r L).length=L.length
 | [],_=>rfl
 | t :: L,s=>by simp [Mj,V2 r L (s+1)]
theorem Pr (r:Run):∀ (L:List Nat) (s:Int),((Mj s r L).map (·.seq)).Nodup
 | [],_=>List.nodup_nil
 | t :: L,s=>by
  simp only [Mj,List.map_cons,List.nodup_cons];refine ⟨fun h=>?_,Pr r L (s+1)⟩;obtain ⟨e,he,h1⟩:=List.mem_map.1 h
  have:=(He he).2.2.1
  omega
theorem Rs (r:Run) (t:Nat):∀ (L:List Nat) (s:Int),L.Nodup->Dy r.id t (Mj s r L)=if t∈L then 1 else 0
 | [],_,_=>rfl
 | u :: L,s,hn=>by
  obtain ⟨h1,h2⟩:=List.nodup_cons.1 hn;have ih:=Rs r t L (s+1) h2;unfold Dy at *
  by_cases e:u=t
  ·subst e;simp [Mj,Fn,ih,h1]
  ·have e':¬ t=u:=fun h=>e h.symm;have e2:¬ ((u:Int)=(t:Int)):=Bk;simp [Mj,Fn,ih,e',e2]
theorem V3 {r:Run} {id:Int} (h:id≠r.id) (t:Nat) (L:List Nat) (s:Int):Dy id t (Mj s r L)=0:=by
 unfold Dy;rw [List.length_eq_zero_iff,List.filter_eq_nil_iff];intro e he hm;unfold Fn at hm;simp at hm;exact h (hm.1.symm.trans (He he).2.1)
theorem V4 (r:Run):∀ (L:List Nat) (y:Yard),Shelves y.shelf->(∀ e∈y.shelf.flatten,e.seq<y.seq) ->
  Shelves (L.foldl (fun y t=>J3 y r t) y).shelf/\(L.foldl (fun y t=>J3 y r t) y).shelf.flatten.Perm (Mj y.seq r L ++ y.shelf.flatten)
 | [],y,h,_=>⟨h,by simp [Mj]⟩
 | t :: L,y,h,hs=>by
  rw [List.foldl_cons];have h4:Cz r.id<y.shelf.length:=by rw [h.four];exact Vd _
  have hg:y.shelf.getD (Cz r.id) []=y.shelf[Cz r.id]:=by rw [List.getD_eq_getElem?_getD,List.getElem?_eq_getElem h4];rfl
  obtain ⟨R,hR,hS⟩:=Mi y.shelf (Cz r.id) h4;have hp:(J3 y r t).shelf.flatten.Perm (⟨r.plan.prio,y.seq,r.id,t⟩ :: y.shelf.flatten):=by
   unfold J3;refine (hS _).trans ?_;rw [hg];refine ((Xk _ _).append_right R).trans ?_;rw [List.cons_append];exact hR.symm.cons _
  have h1:=V4 r L (J3 y r t) (by
   unfold J3;refine h.set (V0 (h.at_ _) (fun x hx e=>?_)) _;rw [hg] at hx
   have:=hs x (hR.mem_iff.2 (List.mem_append_left _ hx))
   dsimp only at e;omega) (fun e he=>by
   show e.seq<y.seq+1;rcases List.mem_cons.1 (hp.mem_iff.1 he) with rfl | he
   ·show y.seq<y.seq+1;omega
   ·have:=hs e he;omega)
  refine ⟨h1.1,h1.2.trans ?_⟩;show (Mj (y.seq+1) r L ++ _).Perm (_ :: Mj (y.seq+1) r L ++ _);exact (hp.append_left _).trans List.perm_middle
theorem Ig (r:Run):C9 r=r.plan.edges.length+r.tasks.length:=by
 have e1:Js r.plan=r.plan.edges.length:=Iz (fun _=>rfl) _;have e2:Jx G8 r.tasks=r.tasks.length:=Iz (fun _=>rfl) _;unfold C9;omega
theorem La {y:Yard} {M:Nat} (h4:y.shelf.length=4) (hM:∀ s∈y.shelf,s.length<=M) (h8:y.runs.length<=8) (hr:∀ r∈y.runs,C9 r<=42):Ci y<=4 * (M+1)+344:=by
 have h1:Jx De y.shelf<=y.shelf.length * (M+1):=Qs (fun s hs=>by
  have e:De s=s.length:=Iz (fun _=>rfl) _;rw [e];exact hM s hs)
 have h2:Jx C9 y.runs<=y.runs.length * (42+1):=Qs hr;rw [h4] at h1;have h3:y.runs.length * (42+1)<=8 * 43:=Nat.mul_le_mul_right _ h8;unfold Ci;omega
theorem Ey {y:Yard} (h:Dn y):∀ r∈y.runs,C9 r<=42:=fun r hr=>by
 obtain ⟨k,hk,rfl⟩:=List.getElem_of_mem hr
 exact Kp (E0 h hk)
theorem Aav {y:Yard} {k:Nat} {r:Run} (hy:Dn y) (hk:k<y.runs.length) (hc:C9 r<=42) (hT:r.tasks.length<=12):Ci (Gr y k r)<=2000000:=by
 rw [Xg _ _ _ hk];have hF:=Rm (y:=⟨y.now,y.seq,y.shelf,y.runs.set k r⟩) (was:=y.runs[k]) (r:=r) (M:=80) (fun s hs=>(hy.2.2.2.1 s hs).1) r.tasks.length
 have:=La (M:=92) (hF.len.trans hy.2.2.1) (fun s hs=>by have:=hF.all s hs;omega) (by rw [hF.runs];simp;exact hy.2.2.2.2.2.2.1) (fun x hx=>by
  rw [hF.runs] at hx;rcases List.mem_or_eq_of_mem_set hx with h | h
  ·exact Ey hy x h
  ·rw [h];exact hc)
 omega
theorem Trn.folds {y:Yard} (hy:Dn y):∀ (l:List (Nat×Nat)) (z:Yard) (m:Nat),Trn y m z->(∀ p∈l,p.1<y.runs.length/\p.2<(Gp y p.1).tasks.length)->Trn y (m+l.length) (Fz z l)
 | [],z,m,h,_=>h
 | p :: l,z,m,h,hl=>by
  have hp:=hl p (List.mem_cons_self ..);have hk:p.1<z.runs.length:=by rw [h.len];exact hp.1
  have h1:=h.fail hk (t:=p.2) (by rw [(h.run p.1 hk hp.1).2.2,<-Fq hp.1];exact hp.2);have h2:=Trn.folds hy l (Il z p.1 p.2) (m+1) h1 (fun q hq=>hl q (List.mem_cons_of_mem _ hq));rw [List.length_cons,show m+(l.length+1)=m+1+l.length by omega];exact h2
theorem V5 {y:Yard} {n:Nat} {p:Nat×Nat} (h:p∈Im y n):p.1<n/\p.2<(Gp y p.1).tasks.length:=by
 unfold Im at h;obtain ⟨j,hj,hp⟩:=List.mem_flatMap.1 h;unfold J6 at hp;obtain ⟨t,ht,rfl⟩:=List.mem_map.1 hp;exact ⟨List.mem_range.1 hj,List.mem_range.1 ht⟩
theorem Ps {y:Yard} (h:∀ j,(Gp y j).tasks.length<=12):∀ k,(Im y k).length<=12 * k
 | 0=>by simp [Im]
 | k+1=>by
  rw [Sr,List.length_append];have h1:=Ps h k;have h3:=h k;have h2:(J6 k (Gp y k).tasks.length).length=(Gp y k).tasks.length:=by unfold J6;simp
  omega
theorem Ab2 {y:Yard} {id tk tr:Int} (q:Iq y id tk tr=0):Dn y /\ ∃ k,∃ hk:k<y.runs.length,Dh y id=(k:Int)/\Ip y id=y.runs[k]:=by
 unfold Iq at q;by_cases p0:Dn y
 ·by_cases p1:Dh y id<0
  ·rw [if_neg (fun h=>h p0),if_pos p1] at q;cases q
  ·rcases Eu y id with hr | ⟨k,hk,hr⟩
   ·omega
   ·exact ⟨p0,k,hk,hr,Gq hk hr⟩
 ·rw [if_pos p0] at q;cases q
theorem Acr {y:Yard} {d:Deed} (h:Ci y<=2000000):Ci (doO y d).1<=2000000:=by
 unfold doO;split
 ·exact h
 split
 ·show Ci (Mg y d.run d.plan)<=_;unfold Mg;split
  ·next q =>
   unfold Mu at q;by_cases p0:Dn y
   ·rw [if_neg (fun h=>h p0)] at q;split at q
    ·cases q
    split at q
    ·cases q
    split at q
    ·next hf=>exact absurd q hf
    next hf =>
    split at q
    ·cases q
    next hr =>
    have hf0:Cr d.plan=0:=Classical.not_not.1 hf;have hm:=C8.1 hf0;have hT:=Ee hm.1;have hE:=E9 hm.1;have qU:=Hb d.run d.plan;have hr8:y.runs.length<8:=by
     have jW:M8 y d.plan=true:=by cases e:M8 y d.plan<;>simp_all
     unfold M8 at jW;simp only [Bool.and_eq_true,decide_eq_true_eq] at jW;exact jW.1
    have hF:=Rm (y:=⟨y.now,y.seq,y.shelf,y.runs ++ [Cl d.run d.plan]⟩) (was:=Ez) (r:=Cl d.run d.plan) (M:=80) (fun s hs=>(p0.2.2.2.1 s hs).1) (Cl d.run d.plan).tasks.length
    have:=La (y:=Qk ⟨y.now,y.seq,y.shelf,y.runs ++ [Cl d.run d.plan]⟩ Ez (Cl d.run d.plan)) (M:=92) (hF.len.trans p0.2.2.1) (fun s hs=>by have:=hF.all s hs;omega) (by
     show (Hr _ _ _ _).runs.length<=8;rw [hF.runs];simp;omega) (fun x hx=>by
     have cD:x∈(Hr ⟨y.now,y.seq,y.shelf,y.runs ++ [Cl d.run d.plan]⟩ Ez (Cl d.run d.plan) (Cl d.run d.plan).tasks.length).runs:=hx;rw [hF.runs] at cD;rcases Bh.1 cD with h1 | h1
     ·exact Ey p0 x h1
     ·rw [Av.1 h1,Ig];show d.plan.edges.length+_<=42;omega)
    omega
   ·rw [if_pos p0] at q;cases q
  ·exact h
 ·show Ci (Gv y d.worker d.draw).1<=_;unfold Gv;by_cases p0:Dn y;case neg=>rw [if_pos p0];exact h
  rw [if_neg (fun h=>h p0)];split
  ·exact h
  ·next hw =>
   have gJ:=Cp.1 (show inB d.worker 0 99=true by cases e:inB d.worker 0 99<;>simp_all);have hh:(d.worker % 4).toNat<4:=Bk;have hP:Pol y (d.worker % 4).toNat (Ir y (d.worker % 4) d.draw):=by
    unfold Ir;refine Pol.fold hh _ _ (Pol.start p0 hh) (fun v hv=>⟨K2 v hv,K3 Bk Bk v hv⟩)
   have hc:=hP.cnt p0;unfold Lj Sn;split
   ·exact hc
   ·next e rest heq =>
    have h80:∀ s∈(Ir y (d.worker % 4) d.draw).shelf.set (d.worker % 4).toNat rest,s.length<=80:=fun s hs=>by
     rcases List.mem_or_eq_of_mem_set hs with h1 | h1
     ·exact hP.all s h1
     ·have h2:=hP.all _ (Aw (show (d.worker % 4).toNat<(Ir y (d.worker % 4) d.draw).shelf.length by rw [hP.four];exact hh));rw [Es (by rw [hP.four];exact hh)] at heq;rw [heq] at h2;rw [h1];simp at h2;omega
    have:=La (y:=⟨(Ir y (d.worker % 4) d.draw).now,(Ir y (d.worker % 4) d.draw).seq,(Ir y (d.worker % 4) d.draw).shelf.set (d.worker % 4).toNat rest,(Ir y (d.worker % 4) d.draw).runs.set (Dh (Ir y (d.worker % 4) d.draw) e.run).toNat (Cv (Ip (Ir y (d.worker % 4) d.draw) e.run) e.task.toNat (Ir y (d.worker % 4) d.draw).now)⟩) (M:=80) (by simpa using hP.four) h80 (by simp;rw [hP.runs];exact p0.2.2.2.2.2.2.1) (fun x hx=>by
     rcases List.mem_or_eq_of_mem_set hx with h1 | h1
     ·rw [hP.runs] at h1;exact Ey p0 x h1
     ·rw [h1,Ig,K5];show (Ip (Ir y (d.worker % 4) d.draw) e.run).plan.edges.length+_<=42;rw [<-Ig];unfold Ip;rw [List.getD_eq_getElem?_getD];cases q:(Ir y (d.worker % 4) d.draw).runs[(Dh (Ir y (d.worker % 4) d.draw) e.run).toNat]? with
      | none=>decide
      | some r =>
       have h2:=List.mem_of_getElem? q;rw [hP.runs] at h2;exact Ey p0 r h2)
    dsimp only;omega
 ·show Ci (M9 y d.run d.task d.try_)<=_;unfold M9;split
  ·next q =>
   obtain ⟨p0,k,hk,e1,e2⟩:=Ab2 q;rw [e1,e2,Ap];have hs:=Ey p0 _ (Aw hk);have hl:=Fo (E0 p0 hk);exact Aav p0 hk (by rw [Ig,Of];rw [Ig] at hs;exact hs) (by rw [Of];exact hl.2)
  ·exact h
 ·show Ci (M7 y d.run d.task d.try_)<=_;unfold M7;split
  ·next q =>
   obtain ⟨p0,k,hk,e1,e2⟩:=Ab2 q;rw [e1,e2,Ap];have hs:=Ey p0 _ (Aw hk);have hl:=Fo (E0 p0 hk);exact Aav p0 hk (by rw [Ig,Ho,(Md _ _).2];rw [Ig] at hs;exact hs) (by rw [Ho];exact hl.2)
  ·exact h
 ·show Ci (K9 y)<=_;unfold K9;split
  ·next q =>
   unfold Na at q;by_cases p0:Dn y
   ·have hT:=Trn.folds p0 (Gm y y.runs.length) y 0 (Trn.start p0) (fun p hp=>Rr hp);have hl:=Mh (Qv p0) y.runs.length;have h8:=p0.2.2.2.2.2.2.1;exact hT.cnt Bk
   ·rw [if_pos p0] at q;cases q
  ·exact h
 ·show Ci (Ka y d.run)<=_;unfold Ka;split
  ·next q =>
   unfold K6 at q;by_cases p0:Dn y
   ·rw [if_neg (fun h=>h p0)] at q;split at q
    ·cases q
    next hr =>
    rcases Eu y d.run with e | ⟨k,hk,e⟩
    ·omega
    ·have cV:=Gq hk e
     have:=La (y:=⟨y.now,y.seq,y.shelf,y.runs.set (Dh y d.run).toNat (Dp (Ip y d.run) 4)⟩) (M:=80) p0.2.2.1 (fun s hs=>(p0.2.2.2.1 s hs).1) (by simp;exact p0.2.2.2.2.2.2.1) (fun x hx=>by
      rcases List.mem_or_eq_of_mem_set hx with h1 | h1
      ·exact Ey p0 x h1
      ·have hs:=Ey p0 _ (Aw hk);rw [Ig] at hs;rw [h1,cV,Ig];show y.runs[k].plan.edges.length+(y.runs[k].tasks.map D9).length<=42;rw [List.length_map];exact hs)
     omega
   ·rw [if_pos p0] at q;cases q
  ·exact h
 ·show Ci (Kb y d.run)<=_;unfold Kb;split
  ·next q =>
   unfold K7 at q;by_cases p0:Dn y
   ·have:=La (y:=⟨y.now,y.seq,y.shelf.map (Di d.run),y.runs.take (Dh y d.run).toNat ++ y.runs.drop ((Dh y d.run).toNat+1)⟩) (M:=80) (by simp;exact p0.2.2.1) (fun s hs=>by
     obtain ⟨l,hl,rfl⟩:=List.mem_map.1 hs;exact Nat.le_trans (List.length_filter_le _ _) (p0.2.2.2.1 l hl).1) (by have:=p0.2.2.2.2.2.2.1;simp;omega) (fun x hx=>by
     rcases Bh.1 hx with h1 | h1
     ·exact Ey p0 x (List.mem_of_mem_take h1)
     ·exact Ey p0 x (List.mem_of_mem_drop h1))
    omega
   ·rw [if_pos p0] at q;cases q
  ·exact h
 ·show Ci (Nt y)<=_;unfold Nt;split
  ·next p0 =>
   have hT:=Trn.folds p0 (Im y y.runs.length) y 0 (Trn.start p0) (fun p hp=>V5 hp);have hl:=Ps (Qv p0) y.runs.length;have h8:=p0.2.2.2.2.2.2.1;exact hT.cnt Bk
  ·exact h
theorem Chg.more {b g:Nat} {w w1 w2:World} (h:Chg [b] w w1) (k:Chg [g] w1 w2) (hg:w<=g):Chg [b] w w2 :=
 ⟨k.os.trans h.os,k.tape.trans h.tape,k.output.trans h.output,Nat.le_trans h.size k.size,fun i hi hn=>(k.block i (Nat.lt_of_lt_of_le hi h.size) (fun hx=>by (have h5:i=g:=Av.1 hx);omega)).trans (h.block i hi hn)⟩
theorem DBox.row11d {b:Nat} {cs:List Value} {w:World} (h:DBox b cs w) (hn:cs.length=11) (u0 u1 u2 u3 u4 u5 u6 u7 u8 u9 u10:Value) :
  DBox b [u0,u1,u2,u3,u4,u5,u6,u7,u8,u9,u10] (((((((((((w.setCell ⟨b,0,Ab⟩ u0).setCell ⟨b,1,Ab⟩ u1).setCell ⟨b,2,Ab⟩ u2).setCell ⟨b,3,Ab⟩ u3).setCell ⟨b,4,Ab⟩ u4).setCell ⟨b,5,Ab⟩ u5).setCell ⟨b,6,Ab⟩ u6).setCell ⟨b,7,Ab⟩ u7).setCell ⟨b,8,Ab⟩ u8).setCell ⟨b,9,Ab⟩ u9).setCell ⟨b,10,Ab⟩ u10):=by
 obtain ⟨c0,c1,c2,c3,c4,c5,c6,c7,c8,c9,c10,rfl⟩:∃ c0 c1 c2 c3 c4 c5 c6 c7 c8 c9 c10,cs=[c0,c1,c2,c3,c4,c5,c6,c7,c8,c9,c10]:=by
  match cs,hn with
  | [c0,c1,c2,c3,c4,c5,c6,c7,c8,c9,c10],_=>exact ⟨c0,c1,c2,c3,c4,c5,c6,c7,c8,c9,c10,rfl⟩
 exact ((((((((((h.set 0 Bm u0).set 1 Bm u1).set 2 Bm u2).set 3 Bm u3).set 4 Bm u4).set 5 Bm u5).set 6 Bm u6).set 7 Bm u7).set 8 Bm u8).set 9 Bm u9).set 10 Bm u10
theorem Je {b:Nat} {w:World} {u0 u1 u2 u3 u4 u5 u6 u7 u8 u9 u10:Value} (X:DBox b [u0,u1,u2,u3,u4,u5,u6,u7,u8,u9,u10] w) {v0 v1 v2 v3:Value} {rest:List Value} :
  (results Tryz.f159 (v0 :: v1 :: v2 :: v3 :: .pointer (Ac ⟨b,0,Ab⟩) :: rest).toArray).run An w = .ok (.agg #[u0,u1,u2,u3,u4,u5,u6,u7,u8,u9,u10]) w:=by
 have c0:=X.cell 0 _ rfl;have c1:=X.cell 1 _ rfl;have c2:=X.cell 2 _ rfl;have c3:=X.cell 3 _ rfl;have c4:=X.cell 4 _ rfl;have c5:=X.cell 5 _ rfl;have c6:=X.cell 6 _ rfl;have c7:=X.cell 7 _ rfl;have c8:=X.cell 8 _ rfl;have c9:=X.cell 9 _ rfl;have c10:=X.cell 10 _ rfl;simp [results,Tryz.results159,go_sem,c0,c1,c2,c3,c4,c5,c6,c7,c8,c9,c10]
def Ib:Plan:=⟨0,0,0,0,[]⟩
def En (code:List UInt8) (y:Yard) (c:Cur):Deed×Cur :=
 let k:=Bt code 20 c
 if k.1<6 then
  let a:=Bt code 8 k.2
  let d:=Bt code 7 a.2
  (⟨2,0,Ib,0,0,a.1,d.1⟩,d.2)
 else if k.1<10 then
  let a:=Bt code 9 k.2
  let q:=Hj code a.2
  (⟨1,1+a.1,q.1,0,0,0,0⟩,q.2)
 else if k.1<15 then
  let a:=Et code y.runs k.2
  (⟨3,a.1.1,Ib,El a.1.2.1 0 99,El a.1.2.2 0 99,0,0⟩,a.2)
 else if k.1=15 then
  let a:=Et code y.runs k.2
  (⟨4,a.1.1,Ib,El a.1.2.1 0 99,El a.1.2.2 0 99,0,0⟩,a.2)
 else if k.1=16 then (⟨5,0,Ib,0,0,0,0⟩,k.2)
 else if k.1=17 then
  let a:=Bt code 9 k.2
  (⟨6,1+a.1,Ib,0,0,0,0⟩,a.2)
 else if k.1=18 then
  let a:=Bt code 9 k.2
  (⟨7,1+a.1,Ib,0,0,0,0⟩,a.2)
 else
  let o:=Ek code 3 k.2
  if o.1=true then (⟨8,0,Ib,0,0,0,0⟩,o.2) else (⟨5,0,Ib,0,0,0,0⟩,o.2)
def Af8 (b:Nat) (v:Value) (code:List UInt8) (r:Deed×Cur) (w:World) (e:Ending) (w':World):Prop :=
 ∃ (s:Sl) (F:List Nat),e = .returned (Nl r.1 s)/\Cm.ow w' F r.1.plan s/\(∀ x∈F,w<=x)/\Drw b v code r.2 w'/\Chg [b] w w'
theorem Aeo (b:Nat) (v:Value) (code:List UInt8) (c:Cur) (y:Yard) (s:Sl×Sl) (F:List Nat) (w:World) (hl:Ci y<=2000000) (h:Drw b v code c w) (hy:Bu.ow w F y s) (cN:b∉F) :
  Calls An 159 #[.pointer (Ac ⟨b,0,Ab⟩),Du y s] w (Af8 b v code (En code y c) w):=by
 obtain ⟨⟨A1,n1,c1⟩,⟨A2,n2,c2⟩⟩:=s;have hb:=h.box.lt;have aW:=Bp (show ∀ x,x∈[b]->x=b from fun x hx=>by simpa using hx);have X:=(DBox.new 31 [J U y.now,J U y.seq,Aa A1 n1 c1,Aa A2 n2 c2] w (b:=w.heap.size) rfl).below ((Bq _ _).alloc (Br _) (.cells #[J U 0,J U 0,J U 0,J U 0,J U 0,J U 0,Aa Ab 0 0,J U 0,J U 0,J U 0,J U 0] 45));have RES:=DBox.new 45 [J U 0,J U 0,J U 0,J U 0,J U 0,J U 0,Aa Ab 0 0,J U 0,J U 0,J U 0,J U 0] (w.alloc (.cells #[J U y.now,J U y.seq,Aa A1 n1 c1,Aa A2 n2 c2] 31)) (b:=w.heap.size+1) Bm;have B0:Below w w ((w.alloc (.cells #[J U y.now,J U y.seq,Aa A1 n1 c1,Aa A2 n2 c2] 31)).alloc (.cells #[J U 0,J U 0,J U 0,J U 0,J U 0,J U 0,Aa Ab 0 0,J U 0,J U 0,J U 0,J U 0] 45)):=by repeat (first | exact Bq _ _ | refine Below.alloc ?_ Bn _)
 replace h:=h.below B0;replace hy:Bu.ow _ F y (⟨A1,n1,c1⟩,⟨A2,n2,c2⟩):=owB hy B0;have hC:=Chg.of_below [b] B0;go_enter Tryz.func159,Tryz.ntmps159;go_wp2_with fail
 generalize ((w.alloc (.cells #[J U y.now,J U y.seq,Aa A1 n1 c1,Aa A2 n2 c2] 31)).alloc (.cells #[J U 0,J U 0,J U 0,J U 0,J U 0,J U 0,Aa Ab 0 0,J U 0,J U 0,J U 0,J U 0] 45))=W at *
 have hWl:w.heap.size+1<W.heap.size:=RES.lt;refine (Dw 20 b _ code c W Bo h ).mono ?_;rintro e_w1 w1 ⟨rfl,h1,cc1⟩;replace RES:=RES.chg cc1 (fun hx=>by have:=aW.out _ hx;omega);replace X:=X.chg cc1 (fun hx=>by have:=aW.out _ hx;omega);replace hy:Bu.ow w1 F y (⟨A1,n1,c1⟩,⟨A2,n2,c2⟩):=owC hy cc1 (fun x hx aN=>by have h1:=aW.out x aN;subst h1;exact cN hx);replace hC:=hC.trans cc1;have hk:=Db code (n:=20) c Bo;have HD:Hid (En code y c=En code y c):=rfl;by_cases q6:(Bt code 20 c).1<6
 ·have H:=Bp (show En code y c=(⟨2,0,Ib,0,0,(Bt code 8 (Bt code 20 c).2).1,(Bt code 7 (Bt code 8 (Bt code 20 c).2).2).1⟩,(Bt code 7 (Bt code 8 (Bt code 20 c).2).2).2) from if_pos q6);generalize Bt code 20 c=k at *
  go_wp2_with fail
  refine (Dw 8 b _ code k.2 w1 Bo h1 ).mono ?_;rintro e_w2 w2 ⟨rfl,h2,cc2⟩;replace RES:=RES.chg cc2 (fun hx=>by have:=aW.out _ hx;omega);replace X:=X.chg cc2 (fun hx=>by have:=aW.out _ hx;omega);replace hy:Bu.ow w2 F y (⟨A1,n1,c1⟩,⟨A2,n2,c2⟩):=owC hy cc2 (fun x hx aN=>by have h1:=aW.out x aN;subst h1;exact cN hx);replace hC:=hC.trans cc2;go_wp2_with fail
  refine (Dw 7 b _ code (Bt code 8 k.2).2 w2 Bo h2 ).mono ?_;rintro e_w3 w3 ⟨rfl,h3,cc3⟩;replace RES:=RES.chg cc3 (fun hx=>by have:=aW.out _ hx;omega);replace X:=X.chg cc3 (fun hx=>by have:=aW.out _ hx;omega);replace hy:Bu.ow w3 F y (⟨A1,n1,c1⟩,⟨A2,n2,c2⟩):=owC hy cc3 (fun x hx aN=>by have h1:=aW.out x aN;subst h1;exact cN hx);replace hC:=hC.trans cc3;have dR:Chg [w.heap.size+1] w3 (((((((((((w3.setCell ⟨w.heap.size+1,0,Ab⟩ (J U 2)).setCell ⟨w.heap.size+1,1,Ab⟩ (J U 0)).setCell ⟨w.heap.size+1,2,Ab⟩ (J U 0)).setCell ⟨w.heap.size+1,3,Ab⟩ (J U 0)).setCell ⟨w.heap.size+1,4,Ab⟩ (J U 0)).setCell ⟨w.heap.size+1,5,Ab⟩ (J U 0)).setCell ⟨w.heap.size+1,6,Ab⟩ (Aa Ab 0 0)).setCell ⟨w.heap.size+1,7,Ab⟩ (J U 0)).setCell ⟨w.heap.size+1,8,Ab⟩ (J U 0)).setCell ⟨w.heap.size+1,9,Ab⟩ (J U (Bt code 8 k.2).1)).setCell ⟨w.heap.size+1,10,Ab⟩ (J U (Bt code 7 (Bt code 8 k.2).2).1)):=Fb [J U 2,J U 0,J U 0,J U 0,J U 0,J U 0,Aa Ab 0 0,J U 0,J U 0,J U (Bt code 8 k.2).1,J U (Bt code 7 (Bt code 8 k.2).2).1] w3 (w.heap.size+1) 0;have RES2:=DBox.row11d RES rfl (J U 2) (J U 0) (J U 0) (J U 0) (J U 0) (J U 0) (Aa Ab 0 0) (J U 0) (J U 0) (J U (Bt code 8 k.2).1) (J U (Bt code 7 (Bt code 8 k.2).2).1);have h9:=h3.chg dR (fun x hx=>by (have h5:x=w.heap.size+1:=Av.1 hx);omega);have fN:=hC.more dR (Nat.le_succ _);have RES_:=RES.g11;have rf:=RES.free;go_wp2;refine Aj (Je RES2) rfl ⟨⟨Ab,0,0⟩,[],by rw [H.out]<;>rfl,by rw [H.out];exact OwL.nil Lz _ Ab 0,(fun _ h=>by cases h),by rw [H.out];exact h9,fN⟩
 by_cases q10:(Bt code 20 c).1<10
 ·have H:=Bp (show En code y c=(⟨1,1+(Bt code 9 (Bt code 20 c).2).1,(Hj code (Bt code 9 (Bt code 20 c).2).2).1,0,0,0,0⟩,(Hj code (Bt code 9 (Bt code 20 c).2).2).2) by unfold En;rw [if_neg q6,if_pos q10]);have b9:=Db code (n:=9) (Bt code 20 c).2 Bo;have wr1:U.wrap (1+(Bt code 9 (Bt code 20 c).2).1)=1+(Bt code 9 (Bt code 20 c).2).1:=Ar _ Bk;clear b9;generalize Bt code 20 c=k at *
  go_wp2_with fail
  refine (Dw 9 b _ code k.2 w1 Bo h1 ).mono ?_;rintro e_w2 w2 ⟨rfl,h2,cc2⟩;replace RES:=RES.chg cc2 (fun hx=>by have:=aW.out _ hx;omega);replace X:=X.chg cc2 (fun hx=>by have:=aW.out _ hx;omega);replace hy:Bu.ow w2 F y (⟨A1,n1,c1⟩,⟨A2,n2,c2⟩):=owC hy cc2 (fun x hx aN=>by have h1:=aW.out x aN;subst h1;exact cN hx);replace hC:=hC.trans cc2;go_wp2_with fail
  refine (Xy b _ code (Bt code 9 k.2).2 w2 h2 ).mono ?_;rintro e_w3 w3 ⟨pu,rfl,po,h3,cc3⟩;replace RES:=RES.chg cc3 (fun hx=>by have:=aW.out _ hx;omega);replace X:=X.chg cc3 (fun hx=>by have:=aW.out _ hx;omega);replace hy:Bu.ow w3 F y (⟨A1,n1,c1⟩,⟨A2,n2,c2⟩):=owC hy cc3 (fun x hx aN=>by have h1:=aW.out x aN;subst h1;exact cN hx);replace hC:=hC.trans cc3;obtain ⟨⟨pa,pn,pc⟩,Fp,rfl,po1,pn1⟩:=Aci po;have cI:=cc2.size;have bL:=cc1.size;have fQ:=B0.size;have hR1:w.heap.size+1<w2.heap.size:=Bk;have po2:=po1.chg (show Chg [w.heap.size+1] w3 _ from Fb [J U 1,J U (1+(Bt code 9 k.2).1),J U (Hj code (Bt code 9 k.2).2).1.prio,J U (Hj code (Bt code 9 k.2).2).1.most,J U (Hj code (Bt code 9 k.2).2).1.wait,J U (Hj code (Bt code 9 k.2).2).1.tasks,Aa pa pn pc,J U 0,J U 0,J U 0,J U 0] w3 (w.heap.size+1) 0) (fun x hx aN=>by (have h5:x=w.heap.size+1:=Av.1 aN);(have h6:=pn1 x hx);omega);generalize (Hj code (Bt code 9 k.2).2)=q at *
  have dR:Chg [w.heap.size+1] w3 (((((((((((w3.setCell ⟨w.heap.size+1,0,Ab⟩ (J U 1)).setCell ⟨w.heap.size+1,1,Ab⟩ (J U (1+(Bt code 9 k.2).1))).setCell ⟨w.heap.size+1,2,Ab⟩ (J U q.1.prio)).setCell ⟨w.heap.size+1,3,Ab⟩ (J U q.1.most)).setCell ⟨w.heap.size+1,4,Ab⟩ (J U q.1.wait)).setCell ⟨w.heap.size+1,5,Ab⟩ (J U q.1.tasks)).setCell ⟨w.heap.size+1,6,Ab⟩ (Aa pa pn pc)).setCell ⟨w.heap.size+1,7,Ab⟩ (J U 0)).setCell ⟨w.heap.size+1,8,Ab⟩ (J U 0)).setCell ⟨w.heap.size+1,9,Ab⟩ (J U 0)).setCell ⟨w.heap.size+1,10,Ab⟩ (J U 0)):=Fb [J U 1,J U (1+(Bt code 9 k.2).1),J U q.1.prio,J U q.1.most,J U q.1.wait,J U q.1.tasks,Aa pa pn pc,J U 0,J U 0,J U 0,J U 0] w3 (w.heap.size+1) 0;have RES2:=DBox.row11d RES rfl (J U 1) (J U (1+(Bt code 9 k.2).1)) (J U q.1.prio) (J U q.1.most) (J U q.1.wait) (J U q.1.tasks) (Aa pa pn pc) (J U 0) (J U 0) (J U 0) (J U 0);have h9:=h3.chg dR (fun x hx=>by (have h5:x=w.heap.size+1:=Av.1 hx);omega);have fN:=hC.more dR (Nat.le_succ _);have RES_:=RES.g11;have rf:=RES.free;go_wp2;refine Aj (Je RES2) rfl ⟨⟨pa,pn,pc⟩,Fp,by rw [H.out]<;>rfl,by rw [H.out];exact po2,fun x hx=>by have:=pn1 x hx;omega,by rw [H.out];exact h9,fN⟩
 by_cases q15:(Bt code 20 c).1<15
 ·have H:=Bp (show En code y c=(⟨3,(Et code y.runs (Bt code 20 c).2).1.1,Ib,El (Et code y.runs (Bt code 20 c).2).1.2.1 0 99,El (Et code y.runs (Bt code 20 c).2).1.2.2 0 99,0,0⟩,(Et code y.runs (Bt code 20 c).2).2) by unfold En;rw [if_neg q6,if_neg q10,if_pos q15]);skip;generalize Bt code 20 c=k at *
  have X_:=X.g4;go_wp2_with fail
  refine (Aap b _ code k.2 y (⟨A1,n1,c1⟩,⟨A2,n2,c2⟩) F w1 hl h1 hy cN ).mono ?_;rintro e_w2 w2 ⟨rfl,h2,cc2⟩;replace RES:=RES.chg cc2 (fun hx=>by have:=aW.out _ hx;omega);replace X:=X.chg cc2 (fun hx=>by have:=aW.out _ hx;omega);replace hy:Bu.ow w2 F y (⟨A1,n1,c1⟩,⟨A2,n2,c2⟩):=owC hy cc2 (fun x hx aN=>by have h1:=aW.out x aN;subst h1;exact cN hx);replace hC:=hC.trans cc2;generalize Et code y.runs k.2=hh at *
  clear X_;have dR:Chg [w.heap.size+1] w2 (((((((((((w2.setCell ⟨w.heap.size+1,0,Ab⟩ (J U 3)).setCell ⟨w.heap.size+1,1,Ab⟩ (J U hh.1.1)).setCell ⟨w.heap.size+1,2,Ab⟩ (J U 0)).setCell ⟨w.heap.size+1,3,Ab⟩ (J U 0)).setCell ⟨w.heap.size+1,4,Ab⟩ (J U 0)).setCell ⟨w.heap.size+1,5,Ab⟩ (J U 0)).setCell ⟨w.heap.size+1,6,Ab⟩ (Aa Ab 0 0)).setCell ⟨w.heap.size+1,7,Ab⟩ (J U (El hh.1.2.1 0 99))).setCell ⟨w.heap.size+1,8,Ab⟩ (J U (El hh.1.2.2 0 99))).setCell ⟨w.heap.size+1,9,Ab⟩ (J U 0)).setCell ⟨w.heap.size+1,10,Ab⟩ (J U 0)):=Fb [J U 3,J U hh.1.1,J U 0,J U 0,J U 0,J U 0,Aa Ab 0 0,J U (El hh.1.2.1 0 99),J U (El hh.1.2.2 0 99),J U 0,J U 0] w2 (w.heap.size+1) 0;have RES2:=DBox.row11d RES rfl (J U 3) (J U hh.1.1) (J U 0) (J U 0) (J U 0) (J U 0) (Aa Ab 0 0) (J U (El hh.1.2.1 0 99)) (J U (El hh.1.2.2 0 99)) (J U 0) (J U 0);have h9:=h2.chg dR (fun x hx=>by (have h5:x=w.heap.size+1:=Av.1 hx);omega);have fN:=hC.more dR (Nat.le_succ _);have RES_:=RES.g11;have rf:=RES.free;go_wp2_with (go_at_call 222;refine (J5 _ 0 99 _ Bo).mono ?_;rintro e w9 ⟨rfl,rfl⟩)
  refine Aj (Je RES2) rfl ⟨⟨Ab,0,0⟩,[],by rw [H.out]<;>rfl,by rw [H.out];exact OwL.nil Lz _ Ab 0,(fun _ h=>by cases h),by rw [H.out];exact h9,fN⟩
 by_cases q15e:(Bt code 20 c).1=15
 ·have H:=Bp (show En code y c=(⟨4,(Et code y.runs (Bt code 20 c).2).1.1,Ib,El (Et code y.runs (Bt code 20 c).2).1.2.1 0 99,El (Et code y.runs (Bt code 20 c).2).1.2.2 0 99,0,0⟩,(Et code y.runs (Bt code 20 c).2).2) by unfold En;rw [if_neg q6,if_neg q10,if_neg q15,if_pos q15e]);have r15:((Bt code 20 c).1 == 15)=true:=by simp [q15e]
  clear q15e;generalize Bt code 20 c=k at *
  have X_:=X.g4;go_wp2_with fail
  refine (Aap b _ code k.2 y (⟨A1,n1,c1⟩,⟨A2,n2,c2⟩) F w1 hl h1 hy cN ).mono ?_;rintro e_w2 w2 ⟨rfl,h2,cc2⟩;replace RES:=RES.chg cc2 (fun hx=>by have:=aW.out _ hx;omega);replace X:=X.chg cc2 (fun hx=>by have:=aW.out _ hx;omega);replace hy:Bu.ow w2 F y (⟨A1,n1,c1⟩,⟨A2,n2,c2⟩):=owC hy cc2 (fun x hx aN=>by have h1:=aW.out x aN;subst h1;exact cN hx);replace hC:=hC.trans cc2;generalize Et code y.runs k.2=hh at *
  clear X_;have dR:Chg [w.heap.size+1] w2 (((((((((((w2.setCell ⟨w.heap.size+1,0,Ab⟩ (J U 4)).setCell ⟨w.heap.size+1,1,Ab⟩ (J U hh.1.1)).setCell ⟨w.heap.size+1,2,Ab⟩ (J U 0)).setCell ⟨w.heap.size+1,3,Ab⟩ (J U 0)).setCell ⟨w.heap.size+1,4,Ab⟩ (J U 0)).setCell ⟨w.heap.size+1,5,Ab⟩ (J U 0)).setCell ⟨w.heap.size+1,6,Ab⟩ (Aa Ab 0 0)).setCell ⟨w.heap.size+1,7,Ab⟩ (J U (El hh.1.2.1 0 99))).setCell ⟨w.heap.size+1,8,Ab⟩ (J U (El hh.1.2.2 0 99))).setCell ⟨w.heap.size+1,9,Ab⟩ (J U 0)).setCell ⟨w.heap.size+1,10,Ab⟩ (J U 0)):=Fb [J U 4,J U hh.1.1,J U 0,J U 0,J U 0,J U 0,Aa Ab 0 0,J U (El hh.1.2.1 0 99),J U (El hh.1.2.2 0 99),J U 0,J U 0] w2 (w.heap.size+1) 0;have RES2:=DBox.row11d RES rfl (J U 4) (J U hh.1.1) (J U 0) (J U 0) (J U 0) (J U 0) (Aa Ab 0 0) (J U (El hh.1.2.1 0 99)) (J U (El hh.1.2.2 0 99)) (J U 0) (J U 0);have h9:=h2.chg dR (fun x hx=>by (have h5:x=w.heap.size+1:=Av.1 hx);omega);have fN:=hC.more dR (Nat.le_succ _);have RES_:=RES.g11;have rf:=RES.free;go_wp2_with (go_at_call 222;refine (J5 _ 0 99 _ Bo).mono ?_;rintro e w9 ⟨rfl,rfl⟩)
  refine Aj (Je RES2) rfl ⟨⟨Ab,0,0⟩,[],by rw [H.out]<;>rfl,by rw [H.out];exact OwL.nil Lz _ Ab 0,(fun _ h=>by cases h),by rw [H.out];exact h9,fN⟩
 by_cases q16:(Bt code 20 c).1=16
 ·have H:=Bp (show En code y c=(⟨5,0,Ib,0,0,0,0⟩,(Bt code 20 c).2) by unfold En;rw [if_neg q6,if_neg q10,if_neg q15,if_neg q15e,if_pos q16]);have r15:((Bt code 20 c).1 == 15)=false:=beq_eq_false_iff_ne.2 Bk;have r16:((Bt code 20 c).1 == 16)=true:=by simp [q16]
  clear q16;generalize Bt code 20 c=k at *
  have dR:Chg [w.heap.size+1] w1 (((((((((((w1.setCell ⟨w.heap.size+1,0,Ab⟩ (J U 5)).setCell ⟨w.heap.size+1,1,Ab⟩ (J U 0)).setCell ⟨w.heap.size+1,2,Ab⟩ (J U 0)).setCell ⟨w.heap.size+1,3,Ab⟩ (J U 0)).setCell ⟨w.heap.size+1,4,Ab⟩ (J U 0)).setCell ⟨w.heap.size+1,5,Ab⟩ (J U 0)).setCell ⟨w.heap.size+1,6,Ab⟩ (Aa Ab 0 0)).setCell ⟨w.heap.size+1,7,Ab⟩ (J U 0)).setCell ⟨w.heap.size+1,8,Ab⟩ (J U 0)).setCell ⟨w.heap.size+1,9,Ab⟩ (J U 0)).setCell ⟨w.heap.size+1,10,Ab⟩ (J U 0)):=Fb [J U 5,J U 0,J U 0,J U 0,J U 0,J U 0,Aa Ab 0 0,J U 0,J U 0,J U 0,J U 0] w1 (w.heap.size+1) 0;have RES2:=DBox.row11d RES rfl (J U 5) (J U 0) (J U 0) (J U 0) (J U 0) (J U 0) (Aa Ab 0 0) (J U 0) (J U 0) (J U 0) (J U 0);have h9:=h1.chg dR (fun x hx=>by (have h5:x=w.heap.size+1:=Av.1 hx);omega);have fN:=hC.more dR (Nat.le_succ _);have RES_:=RES.g11;have rf:=RES.free;go_wp2;refine Aj (Je RES2) rfl ⟨⟨Ab,0,0⟩,[],by rw [H.out]<;>rfl,by rw [H.out];exact OwL.nil Lz _ Ab 0,(fun _ h=>by cases h),by rw [H.out];exact h9,fN⟩
 by_cases q17:(Bt code 20 c).1=17
 ·have H:=Bp (show En code y c=(⟨6,1+(Bt code 9 (Bt code 20 c).2).1,Ib,0,0,0,0⟩,(Bt code 9 (Bt code 20 c).2).2) by unfold En;rw [if_neg q6,if_neg q10,if_neg q15,if_neg q15e,if_neg q16,if_pos q17]);have b9:=Db code (n:=9) (Bt code 20 c).2 Bo;have wr1:U.wrap (1+(Bt code 9 (Bt code 20 c).2).1)=1+(Bt code 9 (Bt code 20 c).2).1:=Ar _ Bk;clear b9;have r15:((Bt code 20 c).1 == 15)=false:=beq_eq_false_iff_ne.2 Bk;have r16:((Bt code 20 c).1 == 16)=false:=beq_eq_false_iff_ne.2 Bk;have r17:((Bt code 20 c).1 == 17)=true:=by simp [q17]
  clear q17;generalize Bt code 20 c=k at *
  go_wp2_with fail
  refine (Dw 9 b _ code k.2 w1 Bo h1 ).mono ?_;rintro e_w2 w2 ⟨rfl,h2,cc2⟩;replace RES:=RES.chg cc2 (fun hx=>by have:=aW.out _ hx;omega);replace X:=X.chg cc2 (fun hx=>by have:=aW.out _ hx;omega);replace hy:Bu.ow w2 F y (⟨A1,n1,c1⟩,⟨A2,n2,c2⟩):=owC hy cc2 (fun x hx aN=>by have h1:=aW.out x aN;subst h1;exact cN hx);replace hC:=hC.trans cc2;have dR:Chg [w.heap.size+1] w2 (((((((((((w2.setCell ⟨w.heap.size+1,0,Ab⟩ (J U 6)).setCell ⟨w.heap.size+1,1,Ab⟩ (J U (1+(Bt code 9 k.2).1))).setCell ⟨w.heap.size+1,2,Ab⟩ (J U 0)).setCell ⟨w.heap.size+1,3,Ab⟩ (J U 0)).setCell ⟨w.heap.size+1,4,Ab⟩ (J U 0)).setCell ⟨w.heap.size+1,5,Ab⟩ (J U 0)).setCell ⟨w.heap.size+1,6,Ab⟩ (Aa Ab 0 0)).setCell ⟨w.heap.size+1,7,Ab⟩ (J U 0)).setCell ⟨w.heap.size+1,8,Ab⟩ (J U 0)).setCell ⟨w.heap.size+1,9,Ab⟩ (J U 0)).setCell ⟨w.heap.size+1,10,Ab⟩ (J U 0)):=Fb [J U 6,J U (1+(Bt code 9 k.2).1),J U 0,J U 0,J U 0,J U 0,Aa Ab 0 0,J U 0,J U 0,J U 0,J U 0] w2 (w.heap.size+1) 0;have RES2:=DBox.row11d RES rfl (J U 6) (J U (1+(Bt code 9 k.2).1)) (J U 0) (J U 0) (J U 0) (J U 0) (Aa Ab 0 0) (J U 0) (J U 0) (J U 0) (J U 0);have h9:=h2.chg dR (fun x hx=>by (have h5:x=w.heap.size+1:=Av.1 hx);omega);have fN:=hC.more dR (Nat.le_succ _);have RES_:=RES.g11;have rf:=RES.free;go_wp2;refine Aj (Je RES2) rfl ⟨⟨Ab,0,0⟩,[],by rw [H.out]<;>rfl,by rw [H.out];exact OwL.nil Lz _ Ab 0,(fun _ h=>by cases h),by rw [H.out];exact h9,fN⟩
 by_cases q18:(Bt code 20 c).1=18
 ·have H:=Bp (show En code y c=(⟨7,1+(Bt code 9 (Bt code 20 c).2).1,Ib,0,0,0,0⟩,(Bt code 9 (Bt code 20 c).2).2) by unfold En;rw [if_neg q6,if_neg q10,if_neg q15,if_neg q15e,if_neg q16,if_neg q17,if_pos q18]);have b9:=Db code (n:=9) (Bt code 20 c).2 Bo;have wr1:U.wrap (1+(Bt code 9 (Bt code 20 c).2).1)=1+(Bt code 9 (Bt code 20 c).2).1:=Ar _ Bk;clear b9;have r15:((Bt code 20 c).1 == 15)=false:=beq_eq_false_iff_ne.2 Bk;have r16:((Bt code 20 c).1 == 16)=false:=beq_eq_false_iff_ne.2 Bk;have r17:((Bt code 20 c).1 == 17)=false:=beq_eq_false_iff_ne.2 Bk;have r18:((Bt code 20 c).1 == 18)=true:=by simp [q18]
  clear q18;generalize Bt code 20 c=k at *
  go_wp2_with fail
  refine (Dw 9 b _ code k.2 w1 Bo h1 ).mono ?_;rintro e_w2 w2 ⟨rfl,h2,cc2⟩;replace RES:=RES.chg cc2 (fun hx=>by have:=aW.out _ hx;omega);replace X:=X.chg cc2 (fun hx=>by have:=aW.out _ hx;omega);replace hy:Bu.ow w2 F y (⟨A1,n1,c1⟩,⟨A2,n2,c2⟩):=owC hy cc2 (fun x hx aN=>by have h1:=aW.out x aN;subst h1;exact cN hx);replace hC:=hC.trans cc2;have dR:Chg [w.heap.size+1] w2 (((((((((((w2.setCell ⟨w.heap.size+1,0,Ab⟩ (J U 7)).setCell ⟨w.heap.size+1,1,Ab⟩ (J U (1+(Bt code 9 k.2).1))).setCell ⟨w.heap.size+1,2,Ab⟩ (J U 0)).setCell ⟨w.heap.size+1,3,Ab⟩ (J U 0)).setCell ⟨w.heap.size+1,4,Ab⟩ (J U 0)).setCell ⟨w.heap.size+1,5,Ab⟩ (J U 0)).setCell ⟨w.heap.size+1,6,Ab⟩ (Aa Ab 0 0)).setCell ⟨w.heap.size+1,7,Ab⟩ (J U 0)).setCell ⟨w.heap.size+1,8,Ab⟩ (J U 0)).setCell ⟨w.heap.size+1,9,Ab⟩ (J U 0)).setCell ⟨w.heap.size+1,10,Ab⟩ (J U 0)):=Fb [J U 7,J U (1+(Bt code 9 k.2).1),J U 0,J U 0,J U 0,J U 0,Aa Ab 0 0,J U 0,J U 0,J U 0,J U 0] w2 (w.heap.size+1) 0;have RES2:=DBox.row11d RES rfl (J U 7) (J U (1+(Bt code 9 k.2).1)) (J U 0) (J U 0) (J U 0) (J U 0) (Aa Ab 0 0) (J U 0) (J U 0) (J U 0) (J U 0);have h9:=h2.chg dR (fun x hx=>by (have h5:x=w.heap.size+1:=Av.1 hx);omega);have fN:=hC.more dR (Nat.le_succ _);have RES_:=RES.g11;have rf:=RES.free;go_wp2;refine Aj (Je RES2) rfl ⟨⟨Ab,0,0⟩,[],by rw [H.out]<;>rfl,by rw [H.out];exact OwL.nil Lz _ Ab 0,(fun _ h=>by cases h),by rw [H.out];exact h9,fN⟩
 have H0:=Bp (show En code y c=(if (Ek code 3 (Bt code 20 c).2).1=true then (⟨8,0,Ib,0,0,0,0⟩,(Ek code 3 (Bt code 20 c).2).2) else (⟨5,0,Ib,0,0,0,0⟩,(Ek code 3 (Bt code 20 c).2).2)) by unfold En;rw [if_neg q6,if_neg q10,if_neg q15,if_neg q15e,if_neg q16,if_neg q17,if_neg q18]);have r15:((Bt code 20 c).1 == 15)=false:=beq_eq_false_iff_ne.2 Bk;have r16:((Bt code 20 c).1 == 16)=false:=beq_eq_false_iff_ne.2 Bk;have r17:((Bt code 20 c).1 == 17)=false:=beq_eq_false_iff_ne.2 Bk;have r18:((Bt code 20 c).1 == 18)=false:=beq_eq_false_iff_ne.2 Bk;generalize Bt code 20 c=k at *
 go_wp2_with fail
 refine (Qe 3 b _ code k.2 w1 Bo h1 ).mono ?_;rintro e_w2 w2 ⟨rfl,h2,cc2⟩;replace RES:=RES.chg cc2 (fun hx=>by have:=aW.out _ hx;omega);replace X:=X.chg cc2 (fun hx=>by have:=aW.out _ hx;omega);replace hy:Bu.ow w2 F y (⟨A1,n1,c1⟩,⟨A2,n2,c2⟩):=owC hy cc2 (fun x hx aN=>by have h1:=aW.out x aN;subst h1;exact cN hx);replace hC:=hC.trans cc2;cases o3:(Ek code 3 k.2).1
 ·have H:=Bp (H0.out.trans (if_neg (by rw [o3];simp)));have dR:Chg [w.heap.size+1] w2 (((((((((((w2.setCell ⟨w.heap.size+1,0,Ab⟩ (J U 5)).setCell ⟨w.heap.size+1,1,Ab⟩ (J U 0)).setCell ⟨w.heap.size+1,2,Ab⟩ (J U 0)).setCell ⟨w.heap.size+1,3,Ab⟩ (J U 0)).setCell ⟨w.heap.size+1,4,Ab⟩ (J U 0)).setCell ⟨w.heap.size+1,5,Ab⟩ (J U 0)).setCell ⟨w.heap.size+1,6,Ab⟩ (Aa Ab 0 0)).setCell ⟨w.heap.size+1,7,Ab⟩ (J U 0)).setCell ⟨w.heap.size+1,8,Ab⟩ (J U 0)).setCell ⟨w.heap.size+1,9,Ab⟩ (J U 0)).setCell ⟨w.heap.size+1,10,Ab⟩ (J U 0)):=Fb [J U 5,J U 0,J U 0,J U 0,J U 0,J U 0,Aa Ab 0 0,J U 0,J U 0,J U 0,J U 0] w2 (w.heap.size+1) 0;have RES2:=DBox.row11d RES rfl (J U 5) (J U 0) (J U 0) (J U 0) (J U 0) (J U 0) (Aa Ab 0 0) (J U 0) (J U 0) (J U 0) (J U 0);have h9:=h2.chg dR (fun x hx=>by (have h5:x=w.heap.size+1:=Av.1 hx);omega);have fN:=hC.more dR (Nat.le_succ _);have RES_:=RES.g11;have rf:=RES.free;go_wp2;refine Aj (Je RES2) rfl ⟨⟨Ab,0,0⟩,[],by rw [H.out]<;>rfl,by rw [H.out];exact OwL.nil Lz _ Ab 0,(fun _ h=>by cases h),by rw [H.out];exact h9,fN⟩
 ·have H:=Bp (H0.out.trans (if_pos o3));have dR:Chg [w.heap.size+1] w2 (((((((((((w2.setCell ⟨w.heap.size+1,0,Ab⟩ (J U 8)).setCell ⟨w.heap.size+1,1,Ab⟩ (J U 0)).setCell ⟨w.heap.size+1,2,Ab⟩ (J U 0)).setCell ⟨w.heap.size+1,3,Ab⟩ (J U 0)).setCell ⟨w.heap.size+1,4,Ab⟩ (J U 0)).setCell ⟨w.heap.size+1,5,Ab⟩ (J U 0)).setCell ⟨w.heap.size+1,6,Ab⟩ (Aa Ab 0 0)).setCell ⟨w.heap.size+1,7,Ab⟩ (J U 0)).setCell ⟨w.heap.size+1,8,Ab⟩ (J U 0)).setCell ⟨w.heap.size+1,9,Ab⟩ (J U 0)).setCell ⟨w.heap.size+1,10,Ab⟩ (J U 0)):=Fb [J U 8,J U 0,J U 0,J U 0,J U 0,J U 0,Aa Ab 0 0,J U 0,J U 0,J U 0,J U 0] w2 (w.heap.size+1) 0;have RES2:=DBox.row11d RES rfl (J U 8) (J U 0) (J U 0) (J U 0) (J U 0) (J U 0) (Aa Ab 0 0) (J U 0) (J U 0) (J U 0) (J U 0);have h9:=h2.chg dR (fun x hx=>by (have h5:x=w.heap.size+1:=Av.1 hx);omega);have fN:=hC.more dR (Nat.le_succ _);have RES_:=RES.g11;have rf:=RES.free;go_wp2;refine Aj (Je RES2) rfl ⟨⟨Ab,0,0⟩,[],by rw [H.out]<;>rfl,by rw [H.out];exact OwL.nil Lz _ Ab 0,(fun _ h=>by cases h),by rw [H.out];exact h9,fN⟩
end Go.Proofs.YtonlnjdempbfoaaGreat
