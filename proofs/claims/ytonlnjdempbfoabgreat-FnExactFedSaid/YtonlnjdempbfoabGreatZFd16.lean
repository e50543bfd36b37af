/-
  Poll of the program. Written by program (ipo.py). Forget of the program: its closure, and what it leaves of a shelf. What Tick and Restart of the program ask of
-/
import Derived.Test.YtonlnjdempbfoabGreatZFd8
import Derived.Test.YtonlnjdempbfoabGreatZFd11
import Derived.Test.YtonlnjdempbfoabGreatZFd12
import Derived.Test.YtonlnjdempbfoabGreatZFd13
import Derived.Test.YtonlnjdempbfoabGreatZFd14
import Derived.Test.YtonlnjdempbfoabGreatZFd15
namespace Go.Proofs.YtonlnjdempbfoabGreat
open Go.RowKit
set_option maxRecDepth 100000
set_option maxHeartbeats 4000000
set_option linter.unusedVariables false
set_option linter.unusedSimpArgs false
open Value renaming int->J,slice->Aa
open IntKind renaming i64->U
open Option renaming none->Ab,some->Ac
open Below renaming setCell->Ad
open Nat renaming le_trans->Ah
open Go renaming bodyPost_ret->Aj
open Go.Proofs.Tryz renaming prog->Am
open Int renaming toNat_natCast->Ao,eq_ofNat_of_zero_le->Ap
open IntWalk renaming i64_in->Aq
open List renaming getElem_mem->Aw,nodup_append->Ax,mem_append_right->Be,take_of_length_le->Bg,length_set->Bh,mem_append->Bi
open Go.Proofs.Tryz
theorem O4 {b c:Nat} {w:World} {u0 u1 u2 u3 v0 v1 v2 v3:Value} (X:DBox b [u0,u1,u2,u3] w) (Y:DBox c [v0,v1,v2,v3] w) {x0 x1 x2 x3 x4 x5:Value} {rest:List Value} :
  (results Tryz.f112 (x0 :: x1 :: x2 :: x3 :: x4 :: x5 :: .pointer (Ac ⟨b,0,Ab⟩) :: .pointer (Ac ⟨c,0,Ab⟩) :: rest).toArray).run Am w = .ok (.tuple #[.agg #[u0,u1,u2,u3],.agg #[v0,v1,v2,v3]]) w:=by
 have c0:=X.cell 0 _ rfl;have c1:=X.cell 1 _ rfl;have c2:=X.cell 2 _ rfl;have c3:=X.cell 3 _ rfl;have d0:=Y.cell 0 _ rfl;have d1:=Y.cell 1 _ rfl;have d2:=Y.cell 2 _ rfl;have d3:=Y.cell 3 _ rfl;simp [results,results112,go_sem,c0,c1,c2,c3,d0,d1,d2,d3]
theorem Zr (y:Yard) (s:Sl×Sl) (worker:Int) (d:Nat) (w:World) (hl:Ca y<=2000000) (hd:d<=1000000000) (h:Bv.rd w w y s) :
  Calls Am 112 #[Dm y s,J U worker,J U (d:Int)] w (Tq (I5 y worker d) w):=by
 have HR:=Bq (show ∀ W,Below w w W->Bv.rd W W y s from fun W hW=>Bv.rd_more (Bv.rd_below h hW) hW.size);obtain ⟨⟨A1,n1,c1⟩,⟨A2,n2,c2⟩⟩:=s;have CC:=Bq (fun W hW=>Ev y (⟨A1,n1,c1⟩,⟨A2,n2,c2⟩) W hl (HR.out W hW));have CY:=Bq (fun W hW=>Fw y (⟨A1,n1,c1⟩,⟨A2,n2,c2⟩) W hl (HR.out W hW));clear h;obtain ⟨W,aH,X,RES,RP,B0⟩:=bx3 w 27 [J U y.now,J U y.seq,Aa A1 n1 c1,Aa A2 n2 c2] 27 [J U 0,J U 0,Aa Ab 0 0,Aa Ab 0 0] 40 [J U 0,J U 0,J U 0,J U 0];go_enter func112,ntmps112;go_wp2_with fail
 rw [<-aH.out];clear aH;have hPl:w.heap.size+1+1<W.heap.size:=RP.lt;refine (CY.out _ B0).mono ?_;rintro e1 w1 ⟨rfl,b1⟩;replace X:=X.below b1;replace RES:=RES.below b1;replace RP:=RP.below b1;have X_:=X.g4;obtain ⟨RES_0,RES_1,RES_2,RES_3,RES_l⟩:=RES.g4;obtain ⟨RP_0,RP_1,RP_2,RP_3,RP_l⟩:=RP.g4;have aJ:=Bu B0 b1;have hBs:=B0.size;have mX:=b1.size;clear B0 b1 CY;by_cases p0:Dh y;case neg =>
  have H:=Bq (show I5 y worker d=(y,⟨8,0,0,0⟩) from if_pos p0);rw [Ci p0];clear p0;clear RES_0 RES_1 RES_2 RES_3 RES_l;clear RP_0 RP_1 RP_2 RP_3 RP_l;go_wp2_with fail
  refine (CC.out _ aJ).mono ?_;rintro e1 w2 ⟨⟨⟨B1,m1,e1⟩,⟨B2,m2,e2⟩⟩,F,rfl,oy,nF,b2⟩;replace RES:=RES.below b2;replace RP:=RP.below b2;obtain ⟨RES_0,RES_1,RES_2,RES_3,RES_l⟩:=RES.g4;obtain ⟨RP_0,RP_1,RP_2,RP_3,RP_l⟩:=RP.g4;have rf:=RES.free;have pf:=RP.free;have aG:=Bu aJ b2;go_wp2;have en1:w.heap.size+1∉F:=fun hx=>by have:=nF _ hx;omega
  have en2:w.heap.size+1+1∉F:=fun hx=>by have:=nF _ hx;omega
  have aC:w.heap.size+1+1≠w.heap.size+1:=Bl;have RES2:=DBox.row4 RES rfl (J U y.now) (J U y.seq) (Aa B1 m1 e1) (Aa B2 m2 e2);have RP2:=DBox.row4 ((((RP.setOther (a:=⟨w+1,0,Ab⟩) aC (J U y.now)).setOther (a:=⟨w+1,1,Ab⟩) aC (J U y.seq)).setOther (a:=⟨w+1,2,Ab⟩) aC (Aa B1 m1 e1)).setOther (a:=⟨w+1,3,Ab⟩) aC (Aa B2 m2 e2)) rfl (J U 8) (J U 0) (J U 0) (J U 0);have RES3:=(((RES2.setOther (a:=⟨w+1+1,0,Ab⟩) aC.symm (J U 8)).setOther (a:=⟨w+1+1,1,Ab⟩) aC.symm (J U 0)).setOther (a:=⟨w+1+1,2,Ab⟩) aC.symm (J U 0)).setOther (a:=⟨w+1+1,3,Ab⟩) aC.symm (J U 0);refine Aj (O4 RES3 RP2) rfl ⟨(⟨B1,m1,e1⟩,⟨B2,m2,e2⟩),F,by rw [H.out],by rw [H.out];exact (by (repeat (refine Dt.ow_set Bv ?_ (by first | exact en1 | exact en2) _));exact (show Bv.ow _ F y (⟨B1,m1,e1⟩,⟨B2,m2,e2⟩) from oy)),fun x hx=>by have:=nF x hx;omega,?_⟩;repeat (first | (with_reducible exact aG) | refine Ad ?_ Bo _)
 rw [Dp p0];cases p1:inB worker 0 99;case false =>
  have H:=Bq (show I5 y worker d=(y,⟨5,0,0,0⟩) by unfold I5;rw [if_neg (fun h=>h p0),if_pos p1]);clear p0;clear RES_0 RES_1 RES_2 RES_3 RES_l;clear RP_0 RP_1 RP_2 RP_3 RP_l;go_wp2_with (go_at_call 56;refine (Co _ _ _ _).mono ?_;rintro e w9 ⟨rfl,rfl⟩;rw [p1])
  refine (CC.out _ aJ).mono ?_;rintro e1 w2 ⟨⟨⟨B1,m1,e1⟩,⟨B2,m2,e2⟩⟩,F,rfl,oy,nF,b2⟩;replace RES:=RES.below b2;replace RP:=RP.below b2;obtain ⟨RES_0,RES_1,RES_2,RES_3,RES_l⟩:=RES.g4;obtain ⟨RP_0,RP_1,RP_2,RP_3,RP_l⟩:=RP.g4;have rf:=RES.free;have pf:=RP.free;have aG:=Bu aJ b2;go_wp2;have en1:w.heap.size+1∉F:=fun hx=>by have:=nF _ hx;omega
  have en2:w.heap.size+1+1∉F:=fun hx=>by have:=nF _ hx;omega
  have aC:w.heap.size+1+1≠w.heap.size+1:=Bl;have RES2:=DBox.row4 RES rfl (J U y.now) (J U y.seq) (Aa B1 m1 e1) (Aa B2 m2 e2);have RP2:=DBox.row4 ((((RP.setOther (a:=⟨w+1,0,Ab⟩) aC (J U y.now)).setOther (a:=⟨w+1,1,Ab⟩) aC (J U y.seq)).setOther (a:=⟨w+1,2,Ab⟩) aC (Aa B1 m1 e1)).setOther (a:=⟨w+1,3,Ab⟩) aC (Aa B2 m2 e2)) rfl (J U 5) (J U 0) (J U 0) (J U 0);have RES3:=(((RES2.setOther (a:=⟨w+1+1,0,Ab⟩) aC.symm (J U 5)).setOther (a:=⟨w+1+1,1,Ab⟩) aC.symm (J U 0)).setOther (a:=⟨w+1+1,2,Ab⟩) aC.symm (J U 0)).setOther (a:=⟨w+1+1,3,Ab⟩) aC.symm (J U 0);refine Aj (O4 RES3 RP2) rfl ⟨(⟨B1,m1,e1⟩,⟨B2,m2,e2⟩),F,by rw [H.out],by rw [H.out];exact (by (repeat (refine Dt.ow_set Bv ?_ (by first | exact en1 | exact en2) _));exact (show Bv.ow _ F y (⟨B1,m1,e1⟩,⟨B2,m2,e2⟩) from oy)),fun x hx=>by have:=nF x hx;omega,?_⟩;repeat (first | (with_reducible exact aG) | refine Ad ?_ Bo _)
 have pp:=Cw.1 p1;have HP:=Bq p0;obtain ⟨wk,rfl⟩:=Ap pp.1;have hm:((wk:Int).tmod 4)=((wk % 4:Nat):Int):=by rw [Int.tmod_eq_emod_of_nonneg Bl];omega
 have hmw:U.wrap ((wk % 4:Nat):Int)=((wk % 4:Nat):Int):=Aq _ Bl;have pR:(wk:Int) % 4=((wk % 4:Nat):Int):=Bl;have hh:=Nat.mod_lt wk (show 0<4 by decide);have H:=Bq (show I5 y wk d=N1 (Lz y ((wk % 4:Nat):Int) d) (wk % 4) by unfold I5;rw [if_neg (fun h=>h p0),if_neg (by rw [p1];simp),pR,Ao]);have bH:=Pol.start p0 hh;have h4:=p0.2.2.1;clear p0 pp pR;generalize wk % 4=home at *
 have CS:=Bq (fun W hW=>Pw y (⟨A1,n1,c1⟩,⟨A2,n2,c2⟩) home W Bl hl (HR.out W hW));have CV:=Bq (fun W=>Ti home d W hh hd);have HG:Hid (Lz y (home:Int) d=(Er home d).foldl (Es home) (Cb y home)):=by
  show Lz y (home:Int) d=_;unfold Lz;rw [Ao]
 clear RES_0 RES_1 RES_2 RES_3 RES_l;clear RP_0 RP_1 RP_2 RP_3 RP_l;go_wp2_with (go_at_call 56;refine (Co _ _ _ _).mono ?_;rintro e w9 ⟨rfl,rfl⟩;rw [p1])
 refine (CS.out _ aJ).mono ?_;rintro e1 w2 ⟨s2,F,rfl,oy,nF,b2⟩;clear X_;clear X CC HR CS;replace RES:=RES.below b2;replace RP:=RP.below b2;have aG:=Bu aJ b2;have hb2s:=b2.size;clear aJ b2 hm hmw;have cE:=Bv.ow_lt oy;have mI:Hid (Cb y home=Cb y home):=rfl;go_upto_region 7 with fail
 have OB:=DBox.new 27 (Gv (Cb y home) s2) w2 (b:=w2) rfl;have b3:Below w2 w2 (w2.alloc (.cells (Gv (Cb y home) s2).toArray 27)):=Bt;replace RES:=RES.below b3;replace RP:=RP.below b3;replace oy:=Bv.ow_below oy b3;have cD:=Bu aG b3;have hb3s:=b3.size;have kB:=OB.lt;have hPl2:w.heap.size+1+1<w2.heap.size:=Bl;generalize w2.alloc (.cells (Gv (Cb y home) s2).toArray 27)=w3 at *
 go_wp2_with fail
 refine (CV.out _).mono ?_;rintro e1 w4 ⟨v,rfl,ov,b4⟩;replace RES:=RES.below b4;replace RP:=RP.below b4;replace OB:=OB.below b4;replace oy:=Bv.ow_below oy b4;have bY:=Bu cD b4;obtain ⟨fR,rS⟩:=Hw.of_ow ov;obtain ⟨A9,c9,rfl,-⟩:=id (Rd.of_own ov);have rR:=Sj home d;have pC:=Bq (Qd (home:=(home:Int)) (draw:=d));have nQ:=Bq (show ∀ v∈Er home d,v≠home from fun v hv=>by have:=Qe (home:=(home:Int)) (draw:=d) Bl Bl v hv;omega);have cW:w2.heap.size<w3.heap.size:=kB;have aC:∀ x∈Ek (Aa A9 (Er home d).length c9) (Er home d).length,x∉F/\w2<x:=fun x hx=>⟨fun hF=>by have h1:=rS x hx;have h2:=cE x hF;omega,by have:=rS x hx;omega⟩
 have gB:(∀ x∈F,w+1+1<x)/\w2.heap.size∉F:=⟨fun x hx=>by have:=nF x hx;omega,fun hx=>by have:=cE _ hx;omega⟩
 generalize Ek (Aa A9 (Er home d).length c9) (Er home d).length=Fv at *
 generalize Er home d=L at *
 rw [rR] at fR;rw [rR];generalize Cb y home=Z0 at *
 have hw2:w.heap.size+1+1<w2.heap.size:=hPl2;generalize w2.heap.size=ob at *
 clear cE nF rS;go_wp2;go_loopw [11,12,13,42] (fun u0 u1 u2 i wr=>∃ (k:Nat) (s:Sl×Sl) (F:List Nat),k<=3/\i = J U k/\Hid (Pol y home ((L.take k).foldl (Es home) Z0))/\Hid (Bv.ow wr F ((L.take k).foldl (Es home) Z0) s)/\Hid ((∀ x∈F,w+1+1<x)/\ob∉F /\ ∀ x∈Fv,x∉F)/\Hid (Hw Eu wr Fv (Aa A9 3 c9) L)/\DBox ob (Gv ((L.take k).foldl (Es home) Z0) s) wr/\DBox (w+1) [J U 0,J U 0,Aa Ab 0 0,Aa Ab 0 0] wr/\DBox (w+1+1) [J U 0,J U 0,J U 0,J U 0] wr/\Below w w wr) (fun _ _ _ i _=>3 - (intOf i).toNat);case atStart=>exact ⟨0,s2,F,Nat.zero_le _,rfl,bH,oy,⟨gB.1,gB.2,fun x hx=>(aC x hx).1⟩,fR,OB,RES,RP,bY⟩
 case round =>
  have rX:∀ x∈Fv,ob<x:=fun x hx=>(aC x hx).2;clear bH oy gB fR OB RES RP bY aC ov b4;obtain ⟨k,s,F,hk,rfl,bH,oy,hF,fR,OB,RES,RP,hb⟩:=hrel;have aE:Hid (∀ h:k<L.length,(L.take (k+1)).foldl (Es home) Z0=Es home ((L.take k).foldl (Es home) Z0) L[k]):=fun h=>Kq (Es home) Z0 L k h;have dR:Hid ((k=3 \/ ¬ (((L.take k).foldl (Es home) Z0).shelf.getD home []).length=0)->L.foldl (Es home) Z0=(L.take k).foldl (Es home) Z0):=by
   intro h;rcases h with h | h
   ·rw [Bg Bl]
   ·have e:L.foldl (Es home) Z0=(L.drop k).foldl (Es home) ((L.take k).foldl (Es home) Z0):=by
     rw [<-List.foldl_append,List.take_append_drop]
    rw [e];exact Mp _ _ h
  generalize (L.take k).foldl (Es home) Z0=Zk at *
  obtain ⟨⟨B1,m1,e1⟩,⟨B2,m2,e2⟩⟩:=s;have rY:=bH.out.four;have oyr:=Bv.ow_rd oy.out;have kY:home<Zk.shelf.length:=Bl;obtain rfl:m1=4:=(RdL.at1 (s:=⟨B1,m1,e1⟩) oyr.1).trans rY;obtain ⟨g,o,⟨xa,xn,xc⟩,rfl,fX,fB,ch⟩:=RdL.entryS (show RdL (Dt.list Bx) wr wr.heap.size (Aa B1 4 e1) Zk.shelf from oyr.1) kY;obtain rfl:xn=Zk.shelf[home].length:=RdL.at1 (s:=⟨xa,xn,xc⟩) fB;have hhI:(home:Int)<4:=Bl;have hh0:(0:Int)<=(home:Int):=Bl;have qP:=bH.out.all _ (Aw kY);obtain ⟨OB_0,OB_1,OB_2,OB_3,OB_l⟩:=OB.g4;have dJ:=Bq (Gu kY);have hwrs:=hb.size;have hRPl:=RP.lt;have hobl:=OB.lt;rcases (show (k<3/\Zk.shelf[home].length=0)\/(k<3 /\ ¬ Zk.shelf[home].length=0) \/ ¬ k<3 by by_cases k<3<;>by_cases Zk.shelf[home].length=0<;>simp [*]) with ⟨aA,hq⟩ | ⟨aA,hq⟩ | aA
  ·have aB:(k:Int)<3:=Bl
   ·have qU:((Zk.shelf[home].length:Int) == 0)=true:=by simp [hq]
    have nB:k<L.length:=Bl;have hv4:L[k]<4:=pC.out _ (Aw nB);have jP:L[k]≠home:=nQ.out _ (Aw nB);obtain ⟨gv,ov,rfl,hgv,cv⟩:=fR.out.rd.nat nB;replace aE:=Bq (aE.out nB);have bJ:=fR.out.block Bl;generalize L[k]=v at *
    have hP1:Hid (Pol y home (Ks home Zk v)):=by
     have h1:=bH.out.step hh hv4 jP;rw [M7 (by rw [dJ.out];exact hq) jP] at h1;exact h1
    replace aE:=Bq (aE.out.trans (M7 (by rw [dJ.out];exact hq) jP));have hE0:=Bq (show (Cb Zk v).shelf.getD home []=[] by rw [Rr jP,dJ.out];exact List.eq_nil_of_length_eq_zero hq);have rZ:=fR.out.lt;have hvI:(v:Int)<4:=Bl;have hv0:(0:Int)<=(v:Int):=Bl;have cL:(0:Int)<=(k:Int):=Bl;have hzc:=bH.out.cnt HP.out;have CS:=Bq (Pw Zk (⟨Ac ⟨g,o,Ab⟩,4,e1⟩,⟨B2,m2,e2⟩) v wr Bl hzc oyr);go_wp2_with fail
    clear hq;refine CS.out.mono ?_;rintro e w2 ⟨⟨⟨C1,p1,f1⟩,⟨C2,p2,f2⟩⟩,F2,rfl,oy2,n2,b2⟩;have OB2:=OB.below b2;have k0:=OB2.cell 0 _ rfl;have k1:=OB2.cell 1 _ rfl;have k2:=OB2.cell 2 _ rfl;have k3:=OB2.cell 3 _ rfl;have kf:=OB2.free;have kl:=OB2.lt;go_upto_region 12 with fail
    have b2':Below wr wr w2:=b2;clear k0 k1 k2 k3 kf kl;have OB3:=DBox.row4 OB2 rfl (J U (Cb Zk v).now) (J U (Cb Zk v).seq) (Aa C1 p1 f1) (Aa C2 p2 f2);have eA:=Chg.cells4 w2 ob 0 1 2 3 (J U (Cb Zk v).now) (J U (Cb Zk v).seq) (Aa C1 p1 f1) (Aa C2 p2 f2);have eT:=Bq (show ∀ x,x∈[ob]->x=ob from fun x hx=>by simpa using hx);have RES3:=(RES.below b2').chg eA (fun hx=>by have:=eT.out _ hx;omega);have RP3:=(RP.below b2').chg eA (fun hx=>by have:=eT.out _ hx;omega);have dZ:=(fR.out.below b2').chg eA (fun x hx hx2=>by have h1:=eT.out _ hx2;have h2:=rX x hx;omega);have eZ:ob∉F2:=fun hx=>by have h1:=n2 _ hx;have h3:=OB_l;omega
    have oy3:=Bv.ow_chg (F:=F2) (x:=Cb Zk v) (s:=(⟨C1,p1,f1⟩,⟨C2,p2,f2⟩)) oy2 eA (fun x hx hx2=>by have:=eT.out _ hx2;subst this;exact eZ hx);have cD:Below w w _:=(Bu hb b2').trans (eA.below (by have:=b2'.size;omega) (fun x hx=>by have:=eT.out _ hx;omega));have fY:∀ x∈F2,wr<=x:=n2;have eV:=b2'.size;have kI:=eA.size;replace cv:=(eA.cell (p:=⟨gv,_,Ab⟩) (by show gv<w2;omega) (fun hx=>by have h1:gv=ob:=eT.out _ hx;have h2:=rX gv (by rw [bJ.1];simp);omega)).trans ((b2'.cell (p:=⟨gv,_,Ab⟩) (by show gv<wr;omega)).trans cv);have nH:∀ x∈F2,w+1+1<x:=fun x hx=>by have h1:=fY x hx;have h2:=RP.lt;omega
    clear OB_0 OB_1 OB_2 OB_3 OB_l;clear OB RES RP fR oy oy2 n2 b2 b2' hb OB2 oyr fB ch hF CS;generalize (((w2.setCell ⟨ob,0,Ab⟩ (J U (Cb Zk v).now)).setCell ⟨ob,1,Ab⟩ (J U (Cb Zk v).seq)).setCell ⟨ob,2,Ab⟩ (Aa C1 p1 f1)).setCell ⟨ob,3,Ab⟩ (Aa C2 p2 f2)=w3 at *
    have OB:=OB3;clear OB3;obtain ⟨OB_0,OB_1,OB_2,OB_3,OB_l⟩:=OB.g4;have h41:(Cb Zk v).shelf.length=4:=by rw [M6];exact rY
    have oyr3:=Bv.ow_rd (F:=F2) (x:=Cb Zk v) oy3;obtain rfl:p1=4:=(RdL.at1 (s:=⟨C1,p1,f1⟩) oyr3.1).trans h41;have jC:v<(Cb Zk v).shelf.length:=Bl;obtain ⟨g2,o2,⟨va,vn,vc⟩,rfl,kT,uY,cv2⟩:=RdL.entryS (show RdL (Dt.list Bx) w3 w3.heap.size (Aa C1 4 f1) (Cb Zk v).shelf from oyr3.1) jC;have jY:=Oz (i:=v) bH.out.all;have gU:=jY _ (Aw jC);have CH:=Bq (Y7 (Cb Zk v).shelf[v] ⟨va,vn,vc⟩ w3 Bl uY);have hgvw:gv<w3:=Bl;go_wp2_with fail
    refine CH.out.mono ?_;rintro e w4 ⟨⟨qa1,qn1,qc1⟩,Fh1,⟨qa2,qn2,qc2⟩,Fh2,rfl,oh1,oh2,nh1,nh2,dh,b4⟩;go_upto_region 13 with fail
    have b4':Below w3 w3 w4:=b4;have mR:=b4'.size;have hnh1:∀ x∈Fh1,w3<=x:=nh1;have mA:∀ x∈Fh2,w3<=x:=nh2;replace oy3:Bv.ow w3 F2 (Cb Zk v) (⟨Ac ⟨g2,o2,Ab⟩,4,f1⟩,⟨C2,p2,f2⟩):=oy3;have hfl2:=Bv.ow_lt (F:=F2) (x:=Cb Zk v) (s:=(⟨Ac ⟨g2,o2,Ab⟩,4,f1⟩,⟨C2,p2,f2⟩)) oy3;clear OB_0 OB_1 OB_2 OB_3 OB_l;replace OB:=OB.below b4';replace RES3:=RES3.below b4';replace RP3:=RP3.below b4';replace dZ:=dZ.below b4';replace oy3:Bv.ow w4 F2 (Cb Zk v) (⟨Ac ⟨g2,o2,Ab⟩,4,f1⟩,⟨C2,p2,f2⟩):=owB oy3 b4';replace cD:=Bu cD b4';replace cv:=(b4'.cell (p:=⟨gv,_,Ab⟩) (by show gv<w3;omega)).trans cv;replace cv2:=(b4'.cell (p:=⟨g2,_,Ab⟩) (by show g2<w3;omega)).trans cv2;clear nh1 nh2 b4 b4' CH oyr3 uY;obtain ⟨OB_0,OB_1,OB_2,OB_3,OB_l⟩:=OB.g4;have kD:∀ j,w4.frozen? ⟨g2,j,Ab⟩=false:=by
     obtain ⟨G1,G2,_,_,os,_⟩:=oy3;exact OwL.free0 (show OwL (Dt.list Bx) w4 G1 (Aa (Ac ⟨g2,o2,Ab⟩) 4 f1) (Cb Zk v).shelf from os) Bl
    have kZ:g2<w4:=Bl;have uI:(Cb Zk v).shelf[home]' Bl=[]:=by
     have h1:=hE0.out;rw [Gu Bl] at h1;exact h1
    have vD:=Bq (show Ks home Zk v=⟨(Cb Zk v).now,(Cb Zk v).seq,((Cb Zk v).shelf.set home (Gq [] ((Cb Zk v).shelf[v].take (Dd (Cb Zk v).shelf[v])))).set v ((Cb Zk v).shelf[v].drop (Dd (Cb Zk v).shelf[v])),(Cb Zk v).runs⟩ by
     unfold Ks;rw [Gu jC,List.set_comm _ _ jP];rfl)
    obtain ⟨_,_,⟨xa2,xn2,xc2⟩,dB,_,jJ,cx⟩:=RdL.entryS (show RdL (Dt.list Bx) w4 w4.heap.size (Aa (Ac ⟨g2,o2,Ab⟩) 4 f1) (Cb Zk v).shelf from (Bv.ow_rd (F:=F2) (x:=Cb Zk v) oy3).1) (k:=home) Bl;simp only [Option.some.injEq,Addr.mk.injEq,and_true] at dB;obtain ⟨rfl,rfl⟩:=dB;replace jJ:RdL Bx w4 w4 (Aa xa2 xn2 xc2) ((Cb Zk v).shelf[home]' Bl):=jJ;rw [uI] at jJ;obtain rfl:xn2=0:=RdL.at1 (s:=⟨xa2,xn2,xc2⟩) jJ;have eW:((Cb Zk v).shelf[v].take (Dd (Cb Zk v).shelf[v])).length<=80:=Mo _ gU;have CM:=Bq (Vk [] ((Cb Zk v).shelf[v].take (Dd (Cb Zk v).shelf[v])) ⟨xa2,0,xc2⟩ ⟨qa1,qn1,qc1⟩ w4.drew Bn Bl (RdL.below jJ (Br _ _).drew) (RdL.below oh1.rd (Br _ _).drew));have hobw4:ob<w4:=OB_l;have hobF2':=eZ;clear uI jJ gU;generalize (Cb Zk v).shelf[v].take (Dd (Cb Zk v).shelf[v])=lt_ at *
    generalize hlr:(Cb Zk v).shelf[v].drop (Dd (Cb Zk v).shelf[v])=lr_ at *
    replace hlr:=Bq hlr;refine Db (fun w'=>w'.cell? ⟨ob,2,Ab⟩=Ac (Aa (Ac ⟨g2,o2,Ab⟩) 4 f1)/\w'.cell? ⟨g2,o2+home,Ab⟩=Ac (Aa xa2 0 xc2)) 11 Bm ?_ (fun hHeld=>?_)
    ·exact ⟨OB_2,cx⟩
    refine aT 0 hHeld ?_;try simp only [pS]
    refine aT 1 hHeld ?_;try simp only [pS]
    refine aT 2 hHeld ?_;try simp only [pS]
    refine aT 3 hHeld ?_;try simp only [pS]
    refine aT 4 hHeld ?_;try simp only [pS]
    refine aT 5 hHeld ?_;try simp only [pS]
    refine aT 6 hHeld ?_;try simp only [pS]
    refine aT 7 hHeld ?_;try simp only [pS]
    refine aT 8 hHeld ?_;try simp only [pS]
    refine oT 9 (fun K hK=>?_)
    (go_simp;refine CM.out.mono ?_;rintro e w6 ⟨⟨ma,mn,mc⟩,Fm,rfl,om,nm,b6⟩;have hgc:w6.cell? ⟨g2,o2+home,Ab⟩=Ac (Aa xa2 0 xc2):=(b6.cell (p:=⟨_,_,Ab⟩) (by show g2<w4;omega)).trans cx;have pZ:∀ j,w6.frozen? ⟨g2,j,Ab⟩=false:=fun j=>(b6.frozen (p:=⟨_,_,Ab⟩) (by show g2<w4;omega)).trans (kD j))
    have HSx:w6.cell? ⟨ob,2,Ab⟩=Ac (Aa (Ac ⟨g2,o2,Ab⟩) 4 f1)/\w6.cell? ⟨g2,o2+home,Ab⟩=Ac (Aa xa2 0 xc2):=⟨(b6.cell (p:=⟨_,_,Ab⟩) (by show ob<w4;omega)).trans OB_2,hgc⟩
    refine hK.out _ _ (fun _=>HSx) ?_;clear hK K;try simp only [pS]
    refine oT 10 (fun K hK=>?_);go_simp;refine hK.out _ _ (fun _=>HSx) ?_;clear hK K;try simp only [pS]
    refine oT 11 (fun K hK=>?_);go_simp;refine hK.out _ _ (fun aC=>absurd rfl aC) ?_;clear hK K HSx;try simp only [pS]
    refine D6 Bm ?_ _;have b6':Below w4 w4 w6:=Bu (Br _ _).drew b6;have pP:=b6'.size;have tF:∀ x∈Fm,w4<=x:=nm;have jG:=Bv.ow_lt (F:=F2) (x:=Cb Zk v) (s:=(⟨Ac ⟨g2,o2,Ab⟩,4,f1⟩,⟨C2,p2,f2⟩)) oy3;have oy6:=Bv.ow_below (F:=F2) (x:=Cb Zk v) (s:=(⟨Ac ⟨g2,o2,Ab⟩,4,f1⟩,⟨C2,p2,f2⟩)) oy3 b6';have oh2':=oh2.below b6';obtain ⟨F5,oy5,rN,jS⟩:=Gk oy6 (i:=home) Bl (l:=Gq [] lt_) (t:=⟨ma,mn,mc⟩) om (fun x hx bJ=>by have h1:=tF x hx;have h2:=jG x bJ;omega);have cN:Chg [g2] w6 (w6.setCell ⟨g2,o2+home,Ab⟩ (Aa ma mn mc)):=Chg.setCell w6 g2 _ _;have aS:=Bq (show ∀ x,x∈[g2]->x=g2 from fun x hx=>by simpa using hx);have hg2gt:=nH _ jS;have hg2n:=fY _ jS;have eH:ob≠g2:=fun h=>eZ (by rw [h];exact jS);clear OB_0 OB_1 OB_2 OB_3 OB_l;replace OB:=(OB.below b6').chg cN (fun hx=>eH (aS.out _ hx));replace RES3:=(RES3.below b6').chg cN (fun hx=>by have:=aS.out _ hx;omega);replace RP3:=(RP3.below b6').chg cN (fun hx=>by have:=aS.out _ hx;omega);replace dZ:=(dZ.below b6').chg cN (fun x hx hx2=>by have h1:=aS.out _ hx2;have h2:=rZ x hx;omega);have oh3:=oh2'.chg cN (fun x hx hx2=>by have h1:=aS.out _ hx2;have h2:=mA x hx;omega);replace cD:=(Bu cD b6').trans (cN.below (by have:=(Bu cD b6').size;omega) (fun x hx=>by have:=aS.out _ hx;omega));have hfg5:∀ j,(w6.setCell ⟨g2,o2+home,Ab⟩ (Aa ma mn mc)).frozen? ⟨g2,j,Ab⟩=false:=fun j=>(Jx w6 _ _ _).trans (pZ j);have pT:=cN.size;have hFm5:∀ x∈Fh2,x<w4:=fun x hx=>oh2.lt x hx;clear cN hHeld oy3 oy6 oh1 oh2 oh2' kD cv cv2 b6 b6' nm om CM cx hgc pZ;generalize w6.setCell ⟨g2,o2+home,Ab⟩ (Aa ma mn mc)=w5 at *
    replace oy5:Bv.ow w5 F5 ⟨(Cb Zk v).now,(Cb Zk v).seq,(Cb Zk v).shelf.set home (Gq [] lt_),(Cb Zk v).runs⟩ (⟨Ac ⟨g2,o2,Ab⟩,4,f1⟩,⟨C2,p2,f2⟩):=oy5;obtain ⟨_,_,⟨xa3,xn3,xc3⟩,dB,_,_,cx3⟩:=RdL.entryS (show RdL (Dt.list Bx) w5 w5.heap.size (Aa (Ac ⟨g2,o2,Ab⟩) 4 f1) ((Cb Zk v).shelf.set home (Gq [] lt_)) from (Bv.ow_rd (F:=F5) (x:=⟨(Cb Zk v).now,(Cb Zk v).seq,(Cb Zk v).shelf.set home (Gq [] lt_),(Cb Zk v).runs⟩) oy5).1) (k:=v) (by rw [Bh];omega);simp only [Option.some.injEq,Addr.mk.injEq,and_true] at dB;obtain ⟨rfl,rfl⟩:=dB;obtain ⟨F7,oy7,mE,-⟩:=Gk oy5 (i:=v) (by show v<(List.set _ _ _).length;rw [Bh];omega) (l:=lr_) (t:=⟨qa2,qn2,qc2⟩) oh3 (fun x hx bJ=>by
     rcases rN x bJ with h | h
     ·have h1:=mA x hx;have h2:=hfl2 x h;omega
     ·have h1:=hFm5 x hx;have h2:=tF x h;omega)
    have gC:Chg [g2] w5 (w5.setCell ⟨g2,o2+v,Ab⟩ (Aa qa2 qn2 qc2)):=Chg.setCell w5 g2 _ _;have hg2w5:g2<w5:=Bl;obtain ⟨OB_0,OB_1,OB_2,OB_3,OB_l⟩:=OB.g4;go_upto_region 15 with fail
    clear OB_0 OB_1 OB_2 OB_3 OB_l;replace OB:=OB.chg gC (fun hx=>eH (aS.out _ hx));replace RES3:=RES3.chg gC (fun hx=>by have:=aS.out _ hx;omega);replace RP3:=RP3.chg gC (fun hx=>by have:=aS.out _ hx;omega);replace dZ:=dZ.chg gC (fun x hx hx2=>by have h1:=aS.out _ hx2;have h2:=rZ x hx;omega);replace cD:=cD.trans (gC.below (by have:=cD.size;omega) (fun x hx=>by have:=aS.out _ hx;omega));have jT:∀ x∈F7,x∈F2\/w3<=x:=fun x hx=>by
     rcases mE x hx with h | h
     ·rcases rN x h with h' | h'
      ·exact .inl h'
      ·right;have:=tF x h';omega
     ·exact .inr (mA x h)
    clear oy5 gC cx3 hfg5;generalize w5.setCell ⟨g2,o2+v,Ab⟩ (Aa qa2 qn2 qc2)=w7 at *
    go_wp2;exact ⟨⟨k+1,(⟨Ac ⟨g2,o2,Ab⟩,4,f1⟩,⟨C2,p2,f2⟩),F7,Bl,by go_num,by rw [aE.out];exact hP1,by rw [aE.out,vD.out];exact oy7,⟨fun x hx=>by (rcases jT x hx with h | h);exact nH x h;omega,fun hx=>by (rcases jT _ hx with h | h);exact eZ h;omega,fun x hx bJ=>by have h1:=rZ x hx;(rcases jT x bJ with h | h);have:=fY x h;omega;omega⟩,dZ,by rw [aE.out,vD.out];exact OB,RES3,RP3,cD⟩,by simp [intOf];omega⟩
  have aB:(k:Int)<3:=Bl;have qU:(0:Int)<(Zk.shelf[home].length:Int):=Bl;have hqn:0<Zk.shelf[home].length:=Bl;have hqe:¬ Zk.shelf[home]=[]:=fun h=>hq (by rw [h];rfl);have nB:k<L.length:=Bl;obtain ⟨gv,ov,rfl,hgv,cv⟩:=fR.out.rd.nat nB;have cL:(0:Int)<=(k:Int):=Bl;generalize L[k]=v at *
  replace dR:=Bq (dR.out (.inr (by rw [dJ.out];exact hq)));clear hq;rotate_left;have aB:¬ (k:Int)<3:=Bl;have qU:True:=trivial;replace dR:=Bq (dR.out (.inl Bl));all_goals
   have HZ:=Bq (show I5 y (wk:Int) d=N1 Zk home by rw [H.out,HG.out,dR.out]);have jZ:∀ e∈Zk.shelf[home],Uw Zk e:=fun e he=>by
    have h1:=bH.out.fresh e (by rw [dJ.out];exact he);rw [<-Og bH.out.runs] at h1;exact Mj.1 h1
   replace fB:RdL Bx wr wr (Aa xa Zk.shelf[home].length xc) Zk.shelf[home]:=fB;have kR:=bH.out.all _ (Aw kY);have qV:Hid (N1 Zk home=Sk Zk home Zk.shelf[home]):=by
    show N1 Zk home=_;unfold N1;rw [dJ.out]
   have CT:=Bq (Qu Zk.shelf[home] ⟨xa,Zk.shelf[home].length,xc⟩ wr Bl fB);clear aE dJ fR pC nQ mI rX H HG dR;generalize Zk.shelf[home]=SH at *
   go_wp2_with fail
   refine CT.out.mono ?_
   (try clear hqe)
   (try clear hqn)
   (try clear qU)
   have qU:True:=trivial;rintro e9 w2 ⟨⟨ta,tn,tc⟩,Ft,rfl,ot,nt,b2⟩;replace oy:Bv.ow wr F Zk (⟨Ac ⟨g,o,Ab⟩,4,e1⟩,⟨B2,m2,e2⟩):=oy.out;have pX:=Bv.ow_lt (F:=F) (x:=Zk) (s:=(⟨Ac ⟨g,o,Ab⟩,4,e1⟩,⟨B2,m2,e2⟩)) oy;replace oy:Bv.ow w2 F Zk (⟨Ac ⟨g,o,Ab⟩,4,e1⟩,⟨B2,m2,e2⟩):=owB oy b2;clear OB_0 OB_1 OB_2 OB_3 OB_l;replace OB:=OB.below b2;replace RES:=RES.below b2;replace RP:=RP.below b2;have aG:=Bu hb b2;have eV:=b2.size;clear b2 CT ch fB hb oyr;have aC:w.heap.size+1+1≠w.heap.size+1:=Bl;cases SH with
   | nil =>
    have HF:=Bq (HZ.out.trans qV.out);clear HZ qV jZ ot;have EB0:Below w2 w2 (w2.alloc (.cells #[J U 0,J U 0,J U 0,J U 0] 163)):=Bt;go_upto_region 17 with fail
    replace oy:Bv.ow _ F Zk (⟨Ac ⟨g,o,Ab⟩,4,e1⟩,⟨B2,m2,e2⟩):=owB oy EB0;replace OB:=OB.below EB0;replace RES:=RES.below EB0;replace RP:=RP.below EB0;replace aG:=Bu aG EB0;clear EB0;generalize w2.alloc (.cells #[J U 0,J U 0,J U 0,J U 0] 163)=w3 at *
    obtain ⟨OB_0,OB_1,OB_2,OB_3,OB_l⟩:=OB.g4;obtain ⟨RES_0,RES_1,RES_2,RES_3,RES_l⟩:=RES.g4;obtain ⟨RP_0,RP_1,RP_2,RP_3,RP_l⟩:=RP.g4;have rf:=RES.free;have pf:=RP.free;go_wp2;have en1:w.heap.size+1∉F:=fun hx=>by have:=hF.out.1 _ hx;omega
    have en2:w.heap.size+1+1∉F:=fun hx=>by have:=hF.out.1 _ hx;omega
    have RES2:=DBox.row4 RES rfl (J U Zk.now) (J U Zk.seq) (Aa (Ac ⟨g,o,Ab⟩) 4 e1) (Aa B2 m2 e2);have RP2:=DBox.row4 ((((RP.setOther (a:=⟨w+1,0,Ab⟩) aC (J U Zk.now)).setOther (a:=⟨w+1,1,Ab⟩) aC (J U Zk.seq)).setOther (a:=⟨w+1,2,Ab⟩) aC (Aa (Ac ⟨g,o,Ab⟩) 4 e1)).setOther (a:=⟨w+1,3,Ab⟩) aC (Aa B2 m2 e2)) rfl (J U 9) (J U 0) (J U 0) (J U 0);have RES3:=(((RES2.setOther (a:=⟨w+1+1,0,Ab⟩) aC.symm (J U 9)).setOther (a:=⟨w+1+1,1,Ab⟩) aC.symm (J U 0)).setOther (a:=⟨w+1+1,2,Ab⟩) aC.symm (J U 0)).setOther (a:=⟨w+1+1,3,Ab⟩) aC.symm (J U 0);refine Aj (O4 RES3 RP2) rfl ⟨(⟨Ac ⟨g,o,Ab⟩,4,e1⟩,⟨B2,m2,e2⟩),F,by rw [HF.out];rfl,by rw [HF.out];exact (by (repeat (refine Dt.ow_set Bv ?_ (by first | exact en1 | exact en2) _));exact (show Bv.ow _ F Zk (⟨Ac ⟨g,o,Ab⟩,4,e1⟩,⟨B2,m2,e2⟩) from oy)),fun x hx=>by have:=hF.out.1 x hx;omega,?_⟩;repeat (first | (with_reducible exact aG) | refine Ad ?_ Bo _)
   | cons e rest =>
    obtain ⟨gE,⟨gM,qE⟩,eB⟩:=jZ e (List.mem_cons_self ..);obtain ⟨pr,sq,rn,tk⟩:=e;dsimp only at gE gM qE eB;obtain ⟨t,rfl⟩:=Ap gM;rcases Ez Zk rn with gJ | ⟨j,hj,gJ⟩
    ·exact absurd gE Bl
    have dF:=Gy hj gJ;rw [dF] at qE eB;have uE:j<y.runs.length:=by rw [<-bH.out.runs];exact hj
    have sQ:Hid (Hd Zk.runs[j]):=by
     have e:Zk.runs[j]=y.runs[j]:=by simp only [bH.out.runs]
     show Hd Zk.runs[j];rw [e];exact Eo HP.out uE
    have HF:=Bq (HZ.out.trans (qV.out.trans (show _=((⟨Zk.now,Zk.seq,Zk.shelf.set home rest,Zk.runs.set j (Ee Zk.runs[j] t Zk.now)⟩:Yard),(⟨0,rn,t,(Cv Zk.runs[j] t).try_+1⟩:Reply)) by show Sk _ _ (_ :: _)=_;unfold Sk;dsimp only;rw [gJ,dF,Ao,Ao])));have gF:=Bq (show 0<=Zk.now/\Zk.now<=999999980 by rw [bH.out.now];exact HP.out.1);have hrun8:Zk.runs.length<=8:=by rw [bH.out.runs];exact HP.out.2.2.2.2.2.2.1
    have eW:t<Zk.runs[j].tasks.length:=Bl;have rU:=Cu eW;have nT:=Bq (show Dk ⟨Zk.now,Zk.seq,Zk.shelf.set home rest,Zk.runs⟩ rn=j from (Np (y:=Zk) rfl rn).trans gJ);have tK:=Bq (show Ca ⟨Zk.now,Zk.seq,Zk.shelf.set home rest,Zk.runs⟩<=2000000 by
     have:=Oy (y:=⟨Zk.now,Zk.seq,Zk.shelf.set home rest,Zk.runs⟩) (M:=80) (by simpa using rY) (fun s hs=>by
      rcases List.mem_or_eq_of_mem_set hs with h | h
      ·exact bH.out.all s h
      ·subst h;simp at kR;omega) hrun8 (fun k hk=>by
       have bF:k<y.runs.length:=by rw [<-bH.out.runs];exact hk
       have e:Zk.runs[k]=y.runs[k]:=by simp only [bH.out.runs]
       show Hd Zk.runs[k];rw [e];exact Eo HP.out bF)
     omega)
    clear HZ qV jZ gJ dF gE gM qE eB uE qP qU;replace ot:OwL Bx w2 Ft (Aa ta tn tc) rest:=ot;have fF:∀ x∈Ft,wr<=x/\x<w2:=fun x hx=>⟨nt x hx,ot.lt x hx⟩
    have EB:=DBox.new 163 [J U pr,J U sq,J U rn,J U (t:Int)] w2 (b:=w2) rfl;have EB0:Below w2 w2 (w2.alloc (.cells #[J U pr,J U sq,J U rn,J U (t:Int)] 163)):=Bt;go_upto_region 17 with fail
    replace oy:Bv.ow _ F Zk (⟨Ac ⟨g,o,Ab⟩,4,e1⟩,⟨B2,m2,e2⟩):=owB oy EB0;replace ot:=ot.below EB0;replace OB:=OB.below EB0;replace RES:=RES.below EB0;replace RP:=RP.below EB0;replace aG:=Bu aG EB0;clear nt EB0;generalize w2.alloc (.cells #[J U pr,J U sq,J U rn,J U (t:Int)] 163)=w3 at *
    have hebl:=EB.lt;generalize w2.heap.size=eb at *
    obtain ⟨OB_0,OB_1,OB_2,OB_3,OB_l⟩:=OB.g4;have EB_:=EB.g4;replace oy:Bv.ow w3 F Zk (⟨Ac ⟨g,o,Ab⟩,4,e1⟩,⟨B2,m2,e2⟩):=oy;have kD:∀ j,w3.frozen? ⟨g,j,Ab⟩=false:=by
     obtain ⟨G1,G2,_,_,os,_⟩:=oy;exact OwL.free0 (show OwL (Dt.list Bx) w3 G1 (Aa (Ac ⟨g,o,Ab⟩) 4 e1) Zk.shelf from os) Bl
    obtain ⟨_,_,⟨xa3,xn3,xc3⟩,dB,rV,_,ch⟩:=RdL.entryS (show RdL (Dt.list Bx) w3 w3.heap.size (Aa (Ac ⟨g,o,Ab⟩) 4 e1) Zk.shelf from (Bv.ow_rd (F:=F) (x:=Zk) oy).1) kY;simp only [Option.some.injEq,Addr.mk.injEq,and_true] at dB;obtain ⟨rfl,rfl⟩:=dB;obtain ⟨F4,oy4,tW,eY⟩:=Gk oy kY (l:=rest) (t:=⟨ta,tn,tc⟩) ot (fun x hx bJ=>by have h1:=(fF x hx).1;have h2:=pX x bJ;omega);go_upto_region 20 with fail
    have dD:Chg [g] w3 (w3.setCell ⟨g,o+home,Ab⟩ (Aa ta tn tc)):=Chg.setCell w3 g _ _;have aS:=Bq (show ∀ x,x∈[g]->x=g from fun x hx=>by simpa using hx);have hgF2:=hF.out.1 g eY;have eH:ob≠g:=fun h=>hF.out.2.1 (by rw [h];exact eY);clear OB_0 OB_1 OB_2 OB_3 OB_l;clear EB_;replace OB:=OB.chg dD (fun hx=>eH (aS.out _ hx));replace EB:=EB.chg dD (fun hx=>by have:=aS.out _ hx;omega);replace RES:=RES.chg dD (fun hx=>by have:=aS.out _ hx;omega);replace RP:=RP.chg dD (fun hx=>by have:=aS.out _ hx;omega);have mR:=dD.size;replace aG:=aG.trans (dD.below (by have:=aG.size;omega) (fun x hx=>by have:=aS.out _ hx;omega));clear dD oy kD ch ot;generalize w3.setCell ⟨g,o+home,Ab⟩ (Aa ta tn tc)=w4 at *
    replace oy4:Bv.ow w4 F4 ⟨Zk.now,Zk.seq,Zk.shelf.set home rest,Zk.runs⟩ (⟨Ac ⟨g,o,Ab⟩,4,e1⟩,⟨B2,m2,e2⟩):=oy4;have jA:∀ x∈F4,(x∈F\/(wr<=x/\x<eb)):=fun x hx=>(tW x hx).imp id (fun h=>fF x h);have CA:=Bq (fun W (hW:Below w4 w4 W)=>E9 ⟨Zk.now,Zk.seq,Zk.shelf.set home rest,Zk.runs⟩ (⟨Ac ⟨g,o,Ab⟩,4,e1⟩,⟨B2,m2,e2⟩) rn W tK.out (Bv.rd_more (Bv.rd_below (Bv.ow_rd (F:=F4) (x:=⟨Zk.now,Zk.seq,Zk.shelf.set home rest,Zk.runs⟩) oy4) hW) hW.size));rw [nT.out] at CA;have oyr:=(Bv.ow_rd (F:=F4) (x:=⟨Zk.now,Zk.seq,Zk.shelf.set home rest,Zk.runs⟩) oy4).2;have eQ:m2=Zk.runs.length:=RdL.at1 (s:=⟨B2,m2,e2⟩) oyr;subst eQ;have gS:(j:Int)<(Zk.runs.length:Int):=Bl;have cJ:(0:Int)<=(j:Int):=Bl;have hobw4:ob<w4:=OB.lt;have hebw4:eb<w4:=EB.lt;obtain ⟨gr0,orr0,-,rfl,hgrw0,-⟩:=RdL.run (show RdL Ce w4 w4.heap.size (Aa B2 Zk.runs.length e2) Zk.runs from oyr) hj;obtain ⟨OB_0,OB_1,OB_2,OB_3,OB_l⟩:=OB.g4;have EB_:=EB.g4;have aQ:=Di w4;refine Bz Bm Bm ?_;repeat (go_big_quiet_step ((go_at_call 136;rename_i x;exact Fg (CA.out x.1 x.2))))
    refine wpQuiet_nil ?_;rintro w5 ⟨⟨_,b5⟩,rfl⟩;clear OB_0 OB_1 OB_2 OB_3 OB_l;clear EB_;replace OB:=OB.below b5;replace EB:=EB.below b5;replace RES:=RES.below b5;replace RP:=RP.below b5;replace aG:=Bu aG b5;replace oy4:Bv.ow w5 F4 ⟨Zk.now,Zk.seq,Zk.shelf.set home rest,Zk.runs⟩ (⟨Ac ⟨g,o,Ab⟩,4,e1⟩,⟨Ac ⟨gr0,orr0,Ab⟩,Zk.runs.length,e2⟩):=owB oy4 b5;have pT:=b5.size;clear b5 CA nT tK aQ oyr;obtain ⟨G1,G2,sM,bT,osS,osR⟩:=oy4;replace osS:OwL (Dt.list Bx) w5 G1 (Aa (Ac ⟨g,o,Ab⟩) 4 e1) (Zk.shelf.set home rest):=osS;replace osR:OwL Ce w5 G2 (Aa (Ac ⟨gr0,orr0,Ab⟩) Zk.runs.length e2) Zk.runs:=osR;obtain ⟨gr,orr,rs,sr,Ga,Fx,Gb,hAe,hG2,mS,F5_⟩:=osR.foc hj;simp only [Option.some.injEq,Addr.mk.injEq,and_true] at hAe;obtain ⟨rfl,rfl⟩:=hAe;generalize mJ:Zk.runs[j]=r at *
    obtain ⟨Fp,gt,ot2,tc2,jN,hnx,eV,op,oh,hgg,hgp⟩:=F5_.atRun Bl;obtain ⟨sr1,sr2⟩:=sr;obtain rfl:sr2=_:=eV;have kE:-1000000<=r.tasks[t].try_/\r.tasks[t].try_<=2000000000/\0<=r.plan.wait/\r.plan.wait<=2000000000:=by
     have h1:=sQ.out.2.2.2.1 t eW;have h2:=(Dj.1 sQ.out.2.1).1;simp only [Ew,Bool.and_eq_true] at h2;have h3:=Cw.1 h2.1.2;have h4:=Cw.1 h2.2;unfold Hk Od at h1;rw [rU] at h1;omega
    have hmemF:gt∈F4/\gr0∈F4:=by
     rw [sM,hG2,jN];exact ⟨Bn,Bn⟩
    have hdF:∀ x∈G1,x≠gt:=fun x hx e=>by
     rw [sM,Ax] at bT;exact bT.2.2 x hx gt (by rw [hG2,jN];simp) e
    have gT:∀ x∈F4,w+1+1<x/\x≠ob/\x≠eb:=fun x hx=>by
     rcases jA x hx with h1 | h1
     ·refine ⟨hF.out.1 x h1,fun e=>hF.out.2.1 (by rw [<-e];exact h1),fun e=>?_⟩
      have:=pX x h1
      omega
     ·omega
    have hgt4:=gT gt hmemF.1;have hgr5:=F5_.blk;have jR:(t:Int)<(r.tasks.length:Int):=Bl;have gM:(0:Int)<=(t:Int):=Bl;have hgtw:gt<w5:=(oh.block Bl).2.1;have pD:=(oh.block Bl).2.2;obtain ⟨c0,c1,c2,c3,c4,c5,c6,c7⟩:=F5_.run;have hobw5:ob<w5:=Bl;have hebw5:eb<w5:=Bl;obtain ⟨OB_0,OB_1,OB_2,OB_3,OB_l⟩:=OB.g4;have EB_:=EB.g4;have aQ:=Di w5;go_upto_region 21 with fail
    refine Bz Bm Bm ?_;repeat (go_big_quiet_step (fail))
    refine wpQuiet_nil ?_;rintro w6 ⟨⟨_,b6⟩,rfl⟩;have hB6:Below w4 w4 w4:=Br _ _;replace F5_:=F5_.sub (w':=w6) (y:=r) (Chg.of_below _ b6) (Ce.ow_below (F:=Fx) (x:=r) (s:=(sr1,⟨Ac ⟨gt,ot2,Ab⟩,r.tasks.length,tc2⟩)) F5_.here b6) rfl;replace oh:=oh.below b6;replace op:=Cd.ow_below (F:=Fp) (x:=r.plan) (s:=sr1) op b6;replace osS:=osS.below b6;clear OB_0 OB_1 OB_2 OB_3 OB_l;clear EB_;replace OB:=OB.below b6;replace EB:=EB.below b6;replace RES:=RES.below b6;replace RP:=RP.below b6;replace aG:=Bu aG b6;have pP:=b6.size;clear c0 c1 c2 c3 c4 c5 c6 c7 aQ b6 hB6 pD;have pD:=(oh.block Bl).2.2;have hgtw6:gt<w6:=Bl;have hgrw6:gr0<w6:=Bl;obtain ⟨_,_,dB,_,d0,d1,d2,d3⟩:=oh.rd.tsk eW;simp only [Option.some.injEq,Addr.mk.injEq,and_true] at dB;obtain ⟨rfl,rfl⟩:=dB;have hw24:U.wrap (r.tasks[t].try_+1)=r.tasks[t].try_+1:=Aq _ Bl;have hww:U.wrap (Zk.now+r.plan.wait)=Zk.now+r.plan.wait:=Aq _ (by have:=gF.out;omega);have dI:=(Chg.setCell w6 gt (ot2+t * 4) (J U 3)).trans (Chg.setCell _ gt (ot2+t * 4+2) (J U (r.tasks[t].try_+1)));have c3:w6.cell? ⟨gr0,orr0+j * 8+3,Ab⟩=Ac (J U r.plan.wait):=F5_.cells 3 _ rfl;have aS:=Bq (show ∀ x,x∈[gt]->x=gt from fun x hx=>by simpa using hx);have e3:∀ W:World,Chg [gt] w6 W->W.cell? ⟨gr0,orr0+j * 8+3,Ab⟩=Ac (J U r.plan.wait):=fun W hW=>(hW.cell (p:=⟨gr0,_,Ab⟩) hgrw6 (fun hx=>hgg (aS.out _ hx))).trans c3;have oh2:Hw Fj ((w6.setCell ⟨gt,ot2+t * 4,Ab⟩ (J U 3)).setCell ⟨gt,ot2+t * 4+2,Ab⟩ (J U (r.tasks[t].try_+1))) [gt] (Aa (Ac ⟨gt,ot2,Ab⟩) r.tasks.length tc2) (r.tasks.set t ⟨3,r.tasks[t].need,r.tasks[t].try_+1,r.tasks[t].until_⟩):=by
     have h1:=oh.part eW ⟨3,r.tasks[t].need,r.tasks[t].try_,r.tasks[t].until_⟩ 0 [J U 3] (show 0+1<=4 by omega) (fun i hi=>by simp at hi;subst hi;rfl) (fun i hi ho=>by
      have:i<4:=hi;rcases (show i=1\/i=2\/i=3 by simp at ho;omega) with rfl | rfl | rfl<;>rfl)
     have h2:=h1.part (j:=t) (by rw [Bh];exact eW) ⟨3,r.tasks[t].need,r.tasks[t].try_+1,r.tasks[t].until_⟩ 2 [J U (r.tasks[t].try_+1)] (show 2+1<=4 by omega) (fun i hi=>by simp at hi;subst hi;rfl) (fun i hi ho=>by
      have:i<4:=hi;rw [List.getElem_set_self];rcases (show i=0\/i=1\/i=3 by simp at ho;omega) with rfl | rfl | rfl<;>rfl)
     rw [List.set_set] at h2;exact h2
    go_upto_region 24 with fail
    generalize (w6.setCell ⟨gt,ot2+t * 4,Ab⟩ (J U 3)).setCell ⟨gt,ot2+t * 4+2,Ab⟩ (J U (r.tasks[t].try_+1))=w7 at *
    have OB7:=OB.chg dI (fun hx=>hgt4.2.1 (aS.out _ hx).symm);have c37:=e3 w7 dI;have hs7:=dI.size;clear d0 d1 d2 d3 pD oh;refine Go.wp_region_noPanic ?_;refine wp_region_held_drew (S:=(fun w'=>DBox ob [J U Zk.now,J U Zk.seq,Aa (Ac ⟨g,o,Ab⟩) 4 e1,Aa (Ac ⟨gr0,orr0,Ab⟩) Zk.runs.length e2] w'/\w'.cell? ⟨gr0,orr0+j * 8+3,Ab⟩=Ac (J U r.plan.wait))) Bm ⟨DBox.drew4 OB7,c37⟩ (fun hHeld=>?_);replace oh2:=oh2.below (Br w7 w7).drew;replace dI:=dI.drew;have hs8:w7.drew.heap.size=w7.heap.size:=rfl;clear OB7 c37;generalize w7.drew=w8 at *
    refine tV 0 ?_
    (try simp only [pS])
    refine tV 1 ?_
    (try simp only [pS])
    refine tV 2 ?_
    (try simp only [pS])
    refine tV 3 ?_
    (try simp only [pS])
    refine tV 4 ?_
    (try simp only [pS])
    refine tV 5 ?_
    (try simp only [pS])
    refine tV 6 ?_
    (try simp only [pS])
    refine tV 7 ?_
    (try simp only [pS])
    refine tV 8 ?_
    (try simp only [pS])
    refine tV 9 ?_
    (try simp only [pS])
    refine tV 10 ?_
    (try simp only [pS])
    have fH:t<(r.tasks.set t ⟨3,r.tasks[t].need,r.tasks[t].try_+1,r.tasks[t].until_⟩).length:=by rw [Bh];exact eW
    obtain ⟨_,_,dB,_,d0,d1,d2,d3⟩:=oh2.rd.tsk fH;simp only [Option.some.injEq,Addr.mk.injEq,and_true] at dB;obtain ⟨rfl,rfl⟩:=dB;have pD:=(oh2.block (by rw [Bh];omega)).2.2;have jI:=Chg.setCell w8 gt (ot2+t * 4+3) (J U (Zk.now+r.plan.wait));refine rC 11 (fun K_ hK=>?_);go_simp;refine hK.out _ _ ⟨hHeld.1.chg jI (fun hx=>hgt4.2.1 (aS.out _ hx).symm),e3 _ (dI.trans jI)⟩ (fun hHeld=>?_);clear hK K_ hHeld
    (try simp only [pS])
    refine wpAnyH_done Bm ?_ _;refine NoPanic.normal ?_;have oh3:=oh2.part (j:=t) fH ⟨3,r.tasks[t].need,r.tasks[t].try_+1,Zk.now+r.plan.wait⟩ 3 [J U (Zk.now+r.plan.wait)] (show 3+1<=4 by omega) (fun i hi=>by simp at hi;subst hi;rfl) (fun i hi ho=>by
     have:i<4:=hi;rw [List.getElem_set_self];rcases (show i=0\/i=1\/i=2 by simp at ho;omega) with rfl | rfl | rfl<;>rfl)
    rw [List.set_set] at oh3;replace oh3:Hw Fj (w8.setCell ⟨gt,ot2+t * 4+3,Ab⟩ (J U (Zk.now+r.plan.wait))) [gt] (Aa (Ac ⟨gt,ot2,Ab⟩) r.tasks.length tc2) (r.tasks.set t ⟨3,r.tasks[t].need,r.tasks[t].try_+1,Zk.now+r.plan.wait⟩):=oh3;replace dI:=dI.trans jI;have hE:=Bq (show Ee r t Zk.now=⟨r.id,r.plan,r.state,r.tasks.set t ⟨3,r.tasks[t].need,r.tasks[t].try_+1,Zk.now+r.plan.wait⟩⟩ by unfold Ee;rw [Lf eW]);clear d0 d1 d2 d3 pD oh2 jI;generalize w8.setCell ⟨gt,ot2+t * 4+3,Ab⟩ (J U (Zk.now+r.plan.wait))=w9 at *
    have hxm:∀ x∈[gt],x∈Fx:=fun x hx=>by rw [aS.out x hx,jN];simp
    replace op:=Cd.ow_chg (F:=Fp) (x:=r.plan) (s:=sr1) op dI (fun x hx h=>hgp (by rw [<-aS.out x h];exact hx));have F9_:=F5_.sub (w':=w9) (y:=Ee r t Zk.now) (dI.mono hxm) (by
     rw [hE.out];exact ⟨Fp,[gt],jN,hnx,op,Gz oh3⟩) (by rw [hE.out])
    have osR9:=F9_.owl mS;rw [<-hG2] at osR9;have osS9:=osS.chg dI (fun x hx h=>hdF x hx (aS.out x h));have oy8:Bv.ow w9 F4 ⟨Zk.now,Zk.seq,Zk.shelf.set home rest,Zk.runs.set j (Ee r t Zk.now)⟩ (⟨Ac ⟨g,o,Ab⟩,4,e1⟩,⟨Ac ⟨gr0,orr0,Ab⟩,Zk.runs.length,e2⟩):=⟨G1,G2,sM,bT,osS9,osR9⟩
    replace OB:=OB.chg dI (fun hx=>hgt4.2.1 (aS.out _ hx).symm);replace EB:=EB.chg dI (fun hx=>hgt4.2.2 (aS.out _ hx).symm);replace RES:=RES.chg dI (fun hx=>by have:=aS.out _ hx;omega);replace RP:=RP.chg dI (fun hx=>by have:=aS.out _ hx;omega);replace aG:=aG.trans (dI.below (by have:=aG.size;omega) (fun x hx=>by have:=aS.out _ hx;omega));have qJ:t<(r.tasks.set t ⟨3,r.tasks[t].need,r.tasks[t].try_+1,Zk.now+r.plan.wait⟩).length:=by rw [Bh];exact eW
    obtain ⟨_,_,dB,_,-,-,cY,-⟩:=oh3.rd.tsk qJ;simp only [Option.some.injEq,Addr.mk.injEq,and_true] at dB;obtain ⟨rfl,rfl⟩:=dB;rw [List.getElem_set_self] at cY;have tL:=dI.size;have hgt9:gt<w9:=Bl;have HFF:=Bq (show I5 y (wk:Int) d=((⟨Zk.now,Zk.seq,Zk.shelf.set home rest,Zk.runs.set j (Ee r t Zk.now)⟩:Yard),(⟨0,rn,t,r.tasks[t].try_+1⟩:Reply)) by rw [HF.out,rU]);have en1:w.heap.size+1∉F4:=fun hx=>by have:=(gT _ hx).1;omega
    have en2:w.heap.size+1+1∉F4:=fun hx=>by have:=(gT _ hx).1;omega
    have mK:∀ x∈F4,w<=x:=fun x hx=>by have:=(gT x hx).1;omega
    have gn1:gt≠w.heap.size+1:=Bl;have gn2:gt≠w.heap.size+1+1:=Bl;clear HF jA fF tW pX rU hE oh3 op F9_ F5_ osR9 osS9 osS osR dI e3 c3 bT sM hG2 mS hdF gT hmemF;go_upto_region 25 with fail
    refine Go.wp_region_noPanic ?_;refine wp_region_held_drew (S:=(fun w'=>DBox ob [J U Zk.now,J U Zk.seq,Aa (Ac ⟨g,o,Ab⟩) 4 e1,Aa (Ac ⟨gr0,orr0,Ab⟩) Zk.runs.length e2] w'/\DBox eb [J U pr,J U sq,J U rn,J U (t:Int)] w'/\w'.cell? ⟨gt,ot2+t * 4+2,Ab⟩=Ac (J U (r.tasks[t].try_+1)))) Bm ⟨DBox.drew4 OB,DBox.drew4 EB,cY⟩ (fun hHeld=>?_);replace oy8:Bv.ow w9.drew F4 ⟨Zk.now,Zk.seq,Zk.shelf.set home rest,Zk.runs.set j (Ee r t Zk.now)⟩ (⟨Ac ⟨g,o,Ab⟩,4,e1⟩,⟨Ac ⟨gr0,orr0,Ab⟩,Zk.runs.length,e2⟩):=owB oy8 (Br _ _).drew;replace RES:DBox _ _ w9.drew:=DBox.drew4 RES;replace RP:DBox _ _ w9.drew:=DBox.drew4 RP;replace aG:=aG.drew;have nX:w9.drew.heap.size=w9.heap.size:=rfl;rw [<-nX] at hgt9;clear OB EB cY nX;generalize w9.drew=w8d at *
    refine tV 0 ?_
    (try simp only [pS])
    refine tV 1 ?_
    (try simp only [pS])
    refine tV 2 ?_
    (try simp only [pS])
    refine tV 3 ?_
    (try simp only [pS])
    refine tV 4 ?_
    (try simp only [pS])
    refine tV 5 ?_
    (try simp only [pS])
    refine tV 6 ?_
    (try simp only [pS])
    refine tV 7 ?_
    (try simp only [pS])
    refine tV 8 ?_
    (try simp only [pS])
    refine tV 9 ?_
    (try simp only [pS])
    have RES_0:=RES.cell 0 _ rfl;have RES_1:=RES.cell 1 _ rfl;have RES_2:=RES.cell 2 _ rfl;have RES_3:=RES.cell 3 _ rfl;have rf:=RES.free;have bU:=Bq (show ∀ x,x∈[w.heap.size+1]->x=w.heap.size+1 from fun x hx=>by simpa using hx);have hm2':=Bq (show ∀ x,x∈[w.heap.size+1+1]->x=w.heap.size+1+1 from fun x hx=>by simpa using hx);have fD:=Chg.cells4 w8d (w+1) 0 1 2 3 (J U Zk.now) (J U Zk.seq) (Aa (Ac ⟨g,o,Ab⟩) 4 e1) (Aa (Ac ⟨gr0,orr0,Ab⟩) Zk.runs.length e2);refine rC 10 (fun K_ hK=>?_);go_simp;have hS1:=fD.size;have RES2:=DBox.row4 RES rfl (J U Zk.now) (J U Zk.seq) (Aa (Ac ⟨g,o,Ab⟩) 4 e1) (Aa (Ac ⟨gr0,orr0,Ab⟩) Zk.runs.length e2);have RP2:=RP.chg fD (fun hx=>by have:=bU.out _ hx;omega);replace oy8:Bv.ow _ F4 ⟨Zk.now,Zk.seq,Zk.shelf.set home rest,Zk.runs.set j (Ee r t Zk.now)⟩ (⟨Ac ⟨g,o,Ab⟩,4,e1⟩,⟨Ac ⟨gr0,orr0,Ab⟩,Zk.runs.length,e2⟩):=owC oy8 fD (fun x hx hx2=>by have h1:=bU.out _ hx2;subst h1;exact en1 hx);replace aG:=aG.trans (fD.below (by have:=aG.size;omega) (fun x hx=>by have:=bU.out _ hx;omega));refine hK.out _ _ ⟨hHeld.1.chg fD (fun hx=>by have:=bU.out _ hx;omega),hHeld.2.1.chg fD (fun hx=>by have:=bU.out _ hx;omega),(fD.cell (p:=⟨gt,_,Ab⟩) hgt9 (fun hx=>gn1 (bU.out _ hx))).trans hHeld.2.2⟩ (fun hHeld=>?_);clear hK K_ rf RES_0 RES_1 RES_2 RES_3 fD
    (try simp only [pS])
    generalize (((w8d.setCell ⟨w+1,0,Ab⟩ (J U Zk.now)).setCell ⟨w+1,1,Ab⟩ (J U Zk.seq)).setCell ⟨w+1,2,Ab⟩ (Aa (Ac ⟨g,o,Ab⟩) 4 e1)).setCell ⟨w+1,3,Ab⟩ (Aa (Ac ⟨gr0,orr0,Ab⟩) Zk.runs.length e2)=wA at *
    have RP_0:=RP2.cell 0 _ rfl;have RP_1:=RP2.cell 1 _ rfl;have RP_2:=RP2.cell 2 _ rfl;have RP_3:=RP2.cell 3 _ rfl;have pf:=RP2.free;have gA:=Chg.cells4 wA (w+1+1) 0 1 2 3 (J U 0) (J U rn) (J U (t:Int)) (J U (r.tasks[t].try_+1));refine rC 11 (fun K_ hK=>?_);go_simp;refine hK.out _ _ ⟨hHeld.1.chg gA (fun hx=>by have:=hm2'.out _ hx;omega),hHeld.2.1.chg gA (fun hx=>by have:=hm2'.out _ hx;omega),(gA.cell (p:=⟨gt,_,Ab⟩) (by show gt<wA;omega) (fun hx=>gn2 (hm2'.out _ hx))).trans hHeld.2.2⟩ (fun hHeld=>?_);clear hK K_ hHeld
    (try simp only [pS])
    refine wpAnyH_done Bm ?_ _;refine NoPanic.normal ?_;have RES3:=RES2.chg gA (fun hx=>by have:=hm2'.out _ hx;omega);have RP3:=DBox.row4 RP2 rfl (J U 0) (J U rn) (J U (t:Int)) (J U (r.tasks[t].try_+1));replace oy8:Bv.ow _ F4 ⟨Zk.now,Zk.seq,Zk.shelf.set home rest,Zk.runs.set j (Ee r t Zk.now)⟩ (⟨Ac ⟨g,o,Ab⟩,4,e1⟩,⟨Ac ⟨gr0,orr0,Ab⟩,Zk.runs.length,e2⟩):=owC oy8 gA (fun x hx hx2=>by have h1:=hm2'.out _ hx2;subst h1;exact en2 hx);replace aG:=aG.trans (gA.below (by have:=aG.size;omega) (fun x hx=>by have:=hm2'.out _ hx;omega));clear RP_0 RP_1 RP_2 RP_3 pf;go_wp2;exact Aj (O4 RES3 RP3) rfl ⟨(⟨Ac ⟨g,o,Ab⟩,4,e1⟩,⟨Ac ⟨gr0,orr0,Ab⟩,Zk.runs.length,e2⟩),F4,by rw [HFF.out],by rw [HFF.out];exact oy8,mK,aG⟩
theorem Ab1 (id:Int) (p:Nat) (e:Entry) (w:World) (X:DBox p [J U id] w) :
  Calls Am 198 #[Gs e (),.pointer (Ac ⟨p,0,Ab⟩)] w fun e' w'=>e' = .returned (.bool (e.run == id))/\Below w w w':=by
 have B0:Below w w (w.alloc (.cells #[J U e.prio,J U e.seq,J U e.run,J U e.task] 163)):=Bt;have E:=DBox.new 163 [J U e.prio,J U e.seq,J U e.run,J U e.task] w (b:=w) rfl;replace X:=X.below B0;obtain ⟨X_0,X_l⟩:=X.g1;have E_:=E.g4;go_enter func198,ntmps198;go_wp2;go_ret;exact ⟨rfl,B0⟩
theorem Zs (l:List Task) (t u:Nat) (x:Task) (hx:t<l.length->x.try_=(l.getD t ⟨0,0,0,0⟩).try_):((l.set t x).getD u ⟨0,0,0,0⟩).try_=(l.getD u ⟨0,0,0,0⟩).try_:=by
 simp only [List.getD_eq_getElem?_getD,List.getElem?_set] at hx ⊢;by_cases h:t=u
 ·subst h;by_cases ht:t<l.length
  ·simp only [if_pos ht,↓reduceIte,Option.getD_some];exact hx ht
  ·simp [ht]
 ·simp [h]
theorem Ab2 (l:List Task) (t u:Nat) (f:Task->Task) (hf:∀ x,(f x).try_=x.try_):((Hn l t f).getD u ⟨0,0,0,0⟩).try_=(l.getD u ⟨0,0,0,0⟩).try_:=by
 unfold Hn;exact Zs l t u _ (fun _=>hf _)
theorem Afp (l:List Task) (u:Nat):((l.map Dq).getD u ⟨0,0,0,0⟩).try_=(l.getD u ⟨0,0,0,0⟩).try_:=by
 simp only [List.getD_eq_getElem?_getD,List.getElem?_map];cases l[u]? with
 | none=>rfl
 | some x =>
  simp only [Option.map_some,Option.getD_some];unfold Dq;split<;>rfl
theorem Adv (r:Run) (t u:Nat):(Cv (Dn r t) u).try_=(Cv r u).try_:=by
 unfold Dn;split
 ·exact Ab2 r.tasks t u (fun x=>⟨2,x.need,x.try_,0⟩) (fun _=>rfl)
 ·show (((Hn r.tasks t fun x=>⟨5,x.need,x.try_,0⟩).map Dq).getD u ⟨0,0,0,0⟩).try_=_;rw [Afp];exact Ab2 r.tasks t u (fun x=>⟨5,x.need,x.try_,0⟩) (fun _=>rfl)
theorem Adw (z:Yard) (k:Nat) (r:Run):(Gd z k r).runs=z.runs.set k r:=by
 unfold Gd Nj;rw [(Qr _ _ _).2.1]
theorem Afq (z:Yard) (k j:Nat) (r:Run) (hk:k<z.runs.length):Ha (Gd z k r) j=if k=j then r else Ha z j:=by
 unfold Ha;rw [Adw];simp only [List.getD_eq_getElem?_getD,List.getElem?_set];by_cases h:k=j
 ·subst h;simp [hk]
 ·simp [h]
def SameTry (y z:Yard):Prop:=∀ k t,(Cv (Ha z k) t).try_=(Cv (Ha y k) t).try_
theorem SameTry.fail {y z:Yard} (h:SameTry y z) {k:Nat} (hk:k<z.runs.length) (t:Nat):SameTry y (Gi z k t):=fun j u=>by
 by_cases q:(Cv (Ha z k) t).state=3
 ·rw [Ku q,Afq z k j _ hk]
  split
  ·next e =>
   subst e
   rw [Adv]
   exact h k u
  ·exact h j u
 ·rw [Ln q]
  exact h j u
theorem V3 {y z:Yard} {m:Nat} (hT:Trn y m z) (hS:SameTry y z) {k t:Nat} {id:Int} (hk:k<z.runs.length) (ht:t<z.runs[k].tasks.length) (hid:Dk z id=k) :
  Gh z id t (Cv (Ha y k) t).try_ ↔ (Cv (Ha z k) t).state=3:=by
 unfold Gh;rw [Gy hk hid,hid,<-hS k t,Ex hk];simp only [Ao];exact ⟨fun h=>h.2.2.1,fun h=>⟨Bl,⟨Bl,Bl⟩,h,trivial⟩⟩
def upY (z:Yard):Yard:=⟨z.now+1,z.seq,z.shelf,z.runs⟩
theorem Ab3 (r:Run):∀ (l:List Nat) (z:Yard),l.foldl (fun y t=>Lw y r t) (upY z)=upY (l.foldl (fun y t=>Lw y r t) z)
 | [],z=>rfl
 | t :: l,z=>by
  rw [List.foldl_cons,List.foldl_cons,<-Ab3 r l (Lw z r t)];rfl
theorem Agg (z:Yard) (k:Nat) (r:Run):Gd (upY z) k r=upY (Gd z k r):=by
 unfold Gd Nj;exact Ab3 r _ ⟨z.now,z.seq,z.shelf,z.runs.set k r⟩
section
open Classical in
noncomputable def So (y:Yard):Int:=if Dh y then 0 else 8
noncomputable def doO (y:Yard) (d:Deed):Yard×Reply :=
 if Dl d=false then (y,⟨5,0,0,0⟩) else
 match d.kind with
 | 1=>(Jf y d.run d.plan,⟨Je y d.run d.plan,0,0,0⟩)
 | 2=>I5 y d.worker d.draw
 | 3=>(K3 y d.run d.task d.try_,⟨Gn y d.run d.task d.try_,0,0,0⟩)
 | 4=>(K2 y d.run d.task d.try_,⟨Gn y d.run d.task d.try_,0,0,0⟩)
 | 5=>(I6 y,⟨Jj y,0,0,0⟩)
 | 6=>(Io y d.run,⟨Im y d.run,0,0,0⟩)
 | 7=>(Il y d.run,⟨Ik y d.run,0,0,0⟩)
 | _=>(L9 y,⟨So y,0,0,0⟩)
theorem V4 {b c:Nat} {w:World} {u0 u1 u2 u3 v0 v1 v2 v3:Value} (X:DBox b [u0,u1,u2,u3] w) (Y:DBox c [v0,v1,v2,v3] w) {x0 x1 x2 x3:Value} {rest:List Value} :
  (results Tryz.f65 (x0 :: x1 :: x2 :: x3 :: .pointer (Ac ⟨b,0,Ab⟩) :: .pointer (Ac ⟨c,0,Ab⟩) :: rest).toArray).run Am w = .ok (.tuple #[.agg #[u0,u1,u2,u3],.agg #[v0,v1,v2,v3]]) w:=by
 have c0:=X.cell 0 _ rfl;have c1:=X.cell 1 _ rfl;have c2:=X.cell 2 _ rfl;have c3:=X.cell 3 _ rfl;have d0:=Y.cell 0 _ rfl;have d1:=Y.cell 1 _ rfl;have d2:=Y.cell 2 _ rfl;have d3:=Y.cell 3 _ rfl;simp [results,results65,go_sem,c0,c1,c2,c3,d0,d1,d2,d3]
theorem Sp {d:Deed} (h:Dl d=true):inB d.kind 1 8=true:=by
 unfold Dl at h;simp only [Bool.and_eq_true] at h;exact h.1.1.1.1
theorem Sq {rn tk ty wk dr:Int} {p:Plan} (h:Dl ⟨2,rn,p,tk,ty,wk,dr⟩=true):0<=dr/\dr<=1000000000:=by
 unfold Dl at h;simp only [Bool.and_eq_true] at h;have h2:=h.1.2;simp at h2;exact Cw.1 (show inB dr 0 1000000000=true from h2.2)
theorem Adx (y:Yard) (s:Sl×Sl) (d:Deed) (sd:Sl) (w:World) (hl:Ca y<=2000000) (hp:d.plan.edges.length<=2000000) (h:Bv.rd w w y s) (qA:Ec.rd w w d sd) :
  Calls Am 65 #[Dm y s,De d sd] w (Tq (doO y d) w):=by
 obtain ⟨⟨A1,n1,c1⟩,⟨A2,n2,c2⟩⟩:=s;obtain ⟨A3,n3,c3⟩:=sd;have sI:Cd.rd w w d.plan ⟨A3,n3,c3⟩:=qA;obtain rfl:n3=d.plan.edges.length:=RdL.at1 (s:=⟨A3,n3,c3⟩) sI;have HR:=Bq (show ∀ W,Below w w W->Bv.rd W W y (⟨A1,n1,c1⟩,⟨A2,n2,c2⟩) from fun W hW=>Bv.rd_more (Bv.rd_below h hW) hW.size);have HP:=Bq (show ∀ W,Below w w W->Cd.rd W W d.plan ⟨A3,d.plan.edges.length,c3⟩ from fun W hW=>Cd.rd_more (Cd.rd_below sI hW) hW.size);have CD:=Bq (fun W (hW:Below w w W)=>Vg d ⟨A3,d.plan.edges.length,c3⟩ W (Ec.rd_more (Ec.rd_below qA hW) hW.size));have CC:=Bq (fun W hW=>El y (⟨A1,n1,c1⟩,⟨A2,n2,c2⟩) W hl (HR.out W hW));clear h qA sI;obtain ⟨kd,rn,p,tk,ty,wk,dr⟩:=d;replace hp:p.edges.length<=2000000:=hp;replace HP:Hid (∀ W,Below w w W->Cd.rd W W p ⟨A3,p.edges.length,c3⟩):=HP;obtain ⟨W,aH,X,D,RES,RP,OB,B0⟩:=bx5 w 27 [J U y.now,J U y.seq,Aa A1 n1 c1,Aa A2 n2 c2] 38 [J U kd,J U rn,J U p.prio,J U p.most,J U p.wait,J U p.tasks,Aa A3 p.edges.length c3,J U tk,J U ty,J U wk,J U dr] 27 [J U 0,J U 0,Aa Ab 0 0,Aa Ab 0 0] 40 [J U 0,J U 0,J U 0,J U 0] 27 [J U 0,J U 0,Aa Ab 0 0,Aa Ab 0 0];go_enter func65,ntmps65;go_wp2_with fail
 rw [<-aH.out];clear aH;have hWs:w.heap.size+1+1+1+1<W.heap.size:=OB.lt;refine (CD.out _ B0).mono ?_;rintro e1 w1 ⟨rfl,b1⟩;replace X:=X.below b1;replace D:=D.below b1;replace OB:=OB.below b1;replace RES:=RES.below b1;replace RP:=RP.below b1;have bS:=b1.size;replace B0:=Bu B0 b1;clear b1 CD;have X_:=X.g4;have D_:=D.g11;have OB_:=OB.g4;cases hd:Dl ⟨kd,rn,p,tk,ty,wk,dr⟩;case false =>
  have H:=Bq (show doO y ⟨kd,rn,p,tk,ty,wk,dr⟩=(y,⟨5,0,0,0⟩) from if_pos hd);clear hd;go_wp2_with fail
  refine (CC.out _ B0).mono ?_;rintro e2 w2 ⟨s2,F,rfl,oy,nF,b2⟩;have cB:∀ x∈F,w+1+1+1+1<x:=fun x hx=>by have h1:=nF x hx;omega
  clear X_;clear D_;clear OB_;clear X D OB;replace RES:=RES.below b2;replace RP:=RP.below b2;replace B0:=Bu B0 b2;clear nF b2;have RES_:=RES.g4;have RP_:=RP.g4;have rf:=RES.free;have pf:=RP.free;have aC:w.heap.size+1+1+1≠w.heap.size+1+1:=Bl;go_wp2;have RES2:=DBox.row4 RES rfl (J U y.now) (J U y.seq) (Aa s2.1.a s2.1.n s2.1.c) (Aa s2.2.a s2.2.n s2.2.c);have RP2:=DBox.row4 ((((RP.setOther (a:=⟨w+1+1,0,Ab⟩) aC (J U y.now)).setOther (a:=⟨w+1+1,1,Ab⟩) aC (J U y.seq)).setOther (a:=⟨w+1+1,2,Ab⟩) aC (Aa s2.1.a s2.1.n s2.1.c)).setOther (a:=⟨w+1+1,3,Ab⟩) aC (Aa s2.2.a s2.2.n s2.2.c)) rfl (J U 5) (J U 0) (J U 0) (J U 0);have RES3:=((((RES2.setOther (a:=⟨w+1+1+1,0,Ab⟩) aC.symm (J U 5)).setOther (a:=⟨w+1+1+1,1,Ab⟩) aC.symm (J U 0)).setOther (a:=⟨w+1+1+1,2,Ab⟩) aC.symm (J U 0)).setOther (a:=⟨w+1+1+1,3,Ab⟩) aC.symm (J U 0))
  have en1:w.heap.size+1+1∉F:=fun hx=>by have:=cB _ hx;omega
  have en2:w.heap.size+1+1+1∉F:=fun hx=>by have:=cB _ hx;omega
  refine Aj (V4 RES3 RP2) rfl ⟨s2,F,by rw [H.out],by rw [H.out];exact (by (repeat (refine Dt.ow_set Bv ?_ (by first | exact en1 | exact en2) _));exact (show Bv.ow _ F y s2 from oy)),fun x hx=>by have:=cB x hx;omega,?_⟩;repeat (first | (with_reducible exact B0) | refine Ad ?_ Bo _)
 replace hd:=Bq hd;have hkd:=Cw.1 (Sp hd.out);dsimp only at hkd;clear CC;rcases (show kd=1\/kd=2\/kd=3\/kd=4\/kd=5\/kd=6\/kd=7\/kd=8 by omega) with rfl | rfl | rfl | rfl | rfl | rfl | rfl | rfl
 have H:=Bq (show doO y ⟨1,rn,p,tk,ty,wk,dr⟩=(Jf y rn p,⟨Je y rn p,0,0,0⟩) by unfold doO;rw [if_neg (by rw [hd.out];simp)];rfl);have CS:=Bq (Vs y (⟨A1,n1,c1⟩,⟨A2,n2,c2⟩) rn p ⟨A3,p.edges.length,c3⟩ w1 hl hp (HR.out _ B0) (HP.out _ B0));generalize Jf y rn p=z at *
 generalize Je y rn p=c at *
 rotate_left
 ·have H:Hid (doO y ⟨2,rn,p,tk,ty,wk,dr⟩=I5 y wk dr):=by
   show doO y ⟨2,rn,p,tk,ty,wk,dr⟩=_;unfold doO;rw [if_neg (by rw [hd.out];simp)];rfl
  have uC:=Bq (Sq hd.out);obtain ⟨dn,rfl⟩:=Ap uC.out.1;have CS:=Bq (Zj y (⟨A1,n1,c1⟩,⟨A2,n2,c2⟩) wk dn w1 hl (by have:=uC.out;omega) (HR.out _ B0));generalize I5 y wk (dn:Int)=o at *
  obtain ⟨z,⟨o0,o1,o2,o3⟩⟩:=o;go_wp2_with fail
  refine CS.out.mono ?_;rintro e2 w2 ⟨s2,F,rfl,oy,nF,b2⟩;replace oy:Bv.ow w2 F z s2:=oy;have cB:∀ x∈F,w+1+1+1+1<x:=fun x hx=>by have h1:=nF x hx;omega
  clear X_;clear D_;clear OB_;clear X D OB;replace RES:=RES.below b2;replace RP:=RP.below b2;replace B0:=Bu B0 b2;clear nF b2;have RES_:=RES.g4;have RP_:=RP.g4;have rf:=RES.free;have pf:=RP.free;have aC:w.heap.size+1+1+1≠w.heap.size+1+1:=Bl;go_wp2;have RES2:=DBox.row4 RES rfl (J U z.now) (J U z.seq) (Aa s2.1.a s2.1.n s2.1.c) (Aa s2.2.a s2.2.n s2.2.c);have RP2:=DBox.row4 ((((RP.setOther (a:=⟨w+1+1,0,Ab⟩) aC (J U z.now)).setOther (a:=⟨w+1+1,1,Ab⟩) aC (J U z.seq)).setOther (a:=⟨w+1+1,2,Ab⟩) aC (Aa s2.1.a s2.1.n s2.1.c)).setOther (a:=⟨w+1+1,3,Ab⟩) aC (Aa s2.2.a s2.2.n s2.2.c)) rfl (J U o0) (J U o1) (J U o2) (J U o3);have RES3:=((((RES2.setOther (a:=⟨w+1+1+1,0,Ab⟩) aC.symm (J U o0)).setOther (a:=⟨w+1+1+1,1,Ab⟩) aC.symm (J U o1)).setOther (a:=⟨w+1+1+1,2,Ab⟩) aC.symm (J U o2)).setOther (a:=⟨w+1+1+1,3,Ab⟩) aC.symm (J U o3))
  have en1:w.heap.size+1+1∉F:=fun hx=>by have:=cB _ hx;omega
  have en2:w.heap.size+1+1+1∉F:=fun hx=>by have:=cB _ hx;omega
  refine Aj (V4 RES3 RP2) rfl ⟨s2,F,by rw [H.out],by rw [H.out];exact (by (repeat (refine Dt.ow_set Bv ?_ (by first | exact en1 | exact en2) _));exact (show Bv.ow _ F z s2 from oy)),fun x hx=>by have:=cB x hx;omega,?_⟩;repeat (first | (with_reducible exact B0) | refine Ad ?_ Bo _)
 have H:=Bq (show doO y ⟨3,rn,p,tk,ty,wk,dr⟩=(K3 y rn tk ty,⟨Gn y rn tk ty,0,0,0⟩) by unfold doO;rw [if_neg (by rw [hd.out];simp)];rfl);have CS:=Bq (Rs y (⟨A1,n1,c1⟩,⟨A2,n2,c2⟩) rn tk ty w1 hl (HR.out _ B0));generalize K3 y rn tk ty=z at *
 generalize Gn y rn tk ty=c at *
 rotate_left;have H:=Bq (show doO y ⟨4,rn,p,tk,ty,wk,dr⟩=(K2 y rn tk ty,⟨Gn y rn tk ty,0,0,0⟩) by unfold doO;rw [if_neg (by rw [hd.out];simp)];rfl);have CS:=Bq (Zc y (⟨A1,n1,c1⟩,⟨A2,n2,c2⟩) rn tk ty w1 hl (HR.out _ B0));generalize K2 y rn tk ty=z at *
 generalize Gn y rn tk ty=c at *
 rotate_left;have H:=Bq (show doO y ⟨5,rn,p,tk,ty,wk,dr⟩=(I6 y,⟨Jj y,0,0,0⟩) by unfold doO;rw [if_neg (by rw [hd.out];simp)];rfl);have CS:=Bq (Zq y (⟨A1,n1,c1⟩,⟨A2,n2,c2⟩) w1 hl (HR.out _ B0));generalize I6 y=z at *
 generalize Jj y=c at *
 rotate_left;have H:=Bq (show doO y ⟨6,rn,p,tk,ty,wk,dr⟩=(Io y rn,⟨Im y rn,0,0,0⟩) by unfold doO;rw [if_neg (by rw [hd.out];simp)];rfl);have CS:=Bq (Vz y (⟨A1,n1,c1⟩,⟨A2,n2,c2⟩) rn w1 hl (HR.out _ B0));generalize Io y rn=z at *
 generalize Im y rn=c at *
 rotate_left;have H:=Bq (show doO y ⟨7,rn,p,tk,ty,wk,dr⟩=(Il y rn,⟨Ik y rn,0,0,0⟩) by unfold doO;rw [if_neg (by rw [hd.out];simp)];rfl);have CS:=Bq (Vw y (⟨A1,n1,c1⟩,⟨A2,n2,c2⟩) rn w1 hl (HR.out _ B0));generalize Il y rn=z at *
 generalize Ik y rn=c at *
 rotate_left
 ·have H:Hid (doO y ⟨8,rn,p,tk,ty,wk,dr⟩=(L9 y,⟨So y,0,0,0⟩)):=by
   show doO y ⟨8,rn,p,tk,ty,wk,dr⟩=_;unfold doO;rw [if_neg (by rw [hd.out];simp)];rfl
  have CS:=Bq (Tk y (⟨A1,n1,c1⟩,⟨A2,n2,c2⟩) w1 hl (HR.out _ B0));have CY:=Bq (fun W hW=>Fz y (⟨A1,n1,c1⟩,⟨A2,n2,c2⟩) W hl (HR.out W hW));generalize L9 y=z at *
  go_wp2_with fail
  refine CS.out.mono ?_;rintro e2 w2 ⟨s2,F,rfl,oy,nF,b2⟩;replace oy:Bv.ow w2 F z s2:=oy;have cB:∀ x∈F,w+1+1+1+1<x:=fun x hx=>by have h1:=nF x hx;omega
  clear X_;clear D_;clear OB_;replace X:=X.below b2;replace D:=D.below b2;replace OB:=OB.below b2;replace RES:=RES.below b2;replace RP:=RP.below b2;have X_:=X.g4;have D_:=D.g11;have OB_:=OB.g4;have OBf:=OB.free;replace B0:=Bu B0 b2;clear nF b2;go_upto_region 7 with fail
  clear X_;clear D_;have X9:=X;clear D OBf;have cK:=Chg.cells4 w2 (w+1+1+1+1) 0 1 2 3 (J U z.now) (J U z.seq) (Aa s2.1.a s2.1.n s2.1.c) (Aa s2.2.a s2.2.n s2.2.c);have dY:=Bq (show ∀ x,x∈[w.heap.size+1+1+1+1]->x=w.heap.size+1+1+1+1 from fun x hx=>by simpa using hx);clear OB_;replace OB:=DBox.row4 OB rfl (J U z.now) (J U z.seq) (Aa s2.1.a s2.1.n s2.1.c) (Aa s2.2.a s2.2.n s2.2.c);replace RES:=RES.chg cK (fun hx=>by have:=dY.out _ hx;omega);replace RP:=RP.chg cK (fun hx=>by have:=dY.out _ hx;omega);replace oy:Bv.ow _ F z s2:=owC oy cK (fun x hx h=>by have h1:=dY.out x h;have h2:=cB x hx;omega);replace B0:=B0.trans (cK.below (by have:=B0.size;omega) (fun x hx=>by have:=dY.out x hx;omega));have hCo9:=cK;clear cK;replace X:=X9.chg hCo9 (fun hx=>by have:=dY.out _ hx;omega);clear X9;generalize (((w2.setCell ⟨w+1+1+1+1,0,Ab⟩ (J U z.now)).setCell ⟨w+1+1+1+1,1,Ab⟩ (J U z.seq)).setCell ⟨w+1+1+1+1,2,Ab⟩ (Aa s2.1.a s2.1.n s2.1.c)).setCell ⟨w+1+1+1+1,3,Ab⟩ (Aa s2.2.a s2.2.n s2.2.c)=w3 at *
  have OB_:=OB.g4;have X_:=X.g4;go_wp2_with fail
  refine (CY.out _ B0).mono ?_;rintro e3 w4 ⟨rfl,b4⟩;clear X_;clear OB_;clear X;replace OB:=OB.below b4;replace RES:=RES.below b4;replace RP:=RP.below b4;replace oy:Bv.ow w4 F z s2:=owB oy b4;replace B0:=Bu B0 b4;clear b4;have OB_:=OB.g4;by_cases q:Dh y
  ·rw [Dp q];replace H:=Bq (H.out.trans (by rw [show So y=0 from if_pos q]));clear q;have RES_:=RES.g4;have RP_:=RP.g4;have rf:=RES.free;have pf:=RP.free;have aC:w.heap.size+1+1+1≠w.heap.size+1+1:=Bl;go_wp2;have RES2:=DBox.row4 RES rfl (J U z.now) (J U z.seq) (Aa s2.1.a s2.1.n s2.1.c) (Aa s2.2.a s2.2.n s2.2.c);have RP2:=DBox.row4 ((((RP.setOther (a:=⟨w+1+1,0,Ab⟩) aC (J U z.now)).setOther (a:=⟨w+1+1,1,Ab⟩) aC (J U z.seq)).setOther (a:=⟨w+1+1,2,Ab⟩) aC (Aa s2.1.a s2.1.n s2.1.c)).setOther (a:=⟨w+1+1,3,Ab⟩) aC (Aa s2.2.a s2.2.n s2.2.c)) rfl (J U 0) (J U 0) (J U 0) (J U 0);have RES3:=((((RES2.setOther (a:=⟨w+1+1+1,0,Ab⟩) aC.symm (J U 0)).setOther (a:=⟨w+1+1+1,1,Ab⟩) aC.symm (J U 0)).setOther (a:=⟨w+1+1+1,2,Ab⟩) aC.symm (J U 0)).setOther (a:=⟨w+1+1+1,3,Ab⟩) aC.symm (J U 0))
   have en1:w.heap.size+1+1∉F:=fun hx=>by have:=cB _ hx;omega
   have en2:w.heap.size+1+1+1∉F:=fun hx=>by have:=cB _ hx;omega
   refine Aj (V4 RES3 RP2) rfl ⟨s2,F,by rw [H.out],by rw [H.out];exact (by (repeat (refine Dt.ow_set Bv ?_ (by first | exact en1 | exact en2) _));exact (show Bv.ow _ F z s2 from oy)),fun x hx=>by have:=cB x hx;omega,?_⟩;repeat (first | (with_reducible exact B0) | refine Ad ?_ Bo _)
  ·rw [Ci q];replace H:=Bq (H.out.trans (by rw [show So y=8 from if_neg q]));clear q;have RES_:=RES.g4;have RP_:=RP.g4;have rf:=RES.free;have pf:=RP.free;have aC:w.heap.size+1+1+1≠w.heap.size+1+1:=Bl;go_wp2;have RES2:=DBox.row4 RES rfl (J U z.now) (J U z.seq) (Aa s2.1.a s2.1.n s2.1.c) (Aa s2.2.a s2.2.n s2.2.c);have RP2:=DBox.row4 ((((RP.setOther (a:=⟨w+1+1,0,Ab⟩) aC (J U z.now)).setOther (a:=⟨w+1+1,1,Ab⟩) aC (J U z.seq)).setOther (a:=⟨w+1+1,2,Ab⟩) aC (Aa s2.1.a s2.1.n s2.1.c)).setOther (a:=⟨w+1+1,3,Ab⟩) aC (Aa s2.2.a s2.2.n s2.2.c)) rfl (J U 8) (J U 0) (J U 0) (J U 0);have RES3:=((((RES2.setOther (a:=⟨w+1+1+1,0,Ab⟩) aC.symm (J U 8)).setOther (a:=⟨w+1+1+1,1,Ab⟩) aC.symm (J U 0)).setOther (a:=⟨w+1+1+1,2,Ab⟩) aC.symm (J U 0)).setOther (a:=⟨w+1+1+1,3,Ab⟩) aC.symm (J U 0))
   have en1:w.heap.size+1+1∉F:=fun hx=>by have:=cB _ hx;omega
   have en2:w.heap.size+1+1+1∉F:=fun hx=>by have:=cB _ hx;omega
   refine Aj (V4 RES3 RP2) rfl ⟨s2,F,by rw [H.out],by rw [H.out];exact (by (repeat (refine Dt.ow_set Bv ?_ (by first | exact en1 | exact en2) _));exact (show Bv.ow _ F z s2 from oy)),fun x hx=>by have:=cB x hx;omega,?_⟩;repeat (first | (with_reducible exact B0) | refine Ad ?_ Bo _)
 all_goals
  go_wp2_with fail
  refine CS.out.mono ?_;rintro e2 w2 ⟨s2,F,rfl,oy,nF,b2⟩;replace oy:Bv.ow w2 F z s2:=oy;have cB:∀ x∈F,w+1+1+1+1<x:=fun x hx=>by have h1:=nF x hx;omega
  clear X_;clear D_;clear OB_;replace X:=X.below b2;replace D:=D.below b2;replace OB:=OB.below b2;replace RES:=RES.below b2;replace RP:=RP.below b2;have X_:=X.g4;have D_:=D.g11;have OB_:=OB.g4;have OBf:=OB.free;replace B0:=Bu B0 b2;clear nF b2;go_upto_region 23 with fail
  clear X_;clear D_;clear X D OBf;have cK:=Chg.cells4 w2 (w+1+1+1+1) 0 1 2 3 (J U z.now) (J U z.seq) (Aa s2.1.a s2.1.n s2.1.c) (Aa s2.2.a s2.2.n s2.2.c);have dY:=Bq (show ∀ x,x∈[w.heap.size+1+1+1+1]->x=w.heap.size+1+1+1+1 from fun x hx=>by simpa using hx);clear OB_;replace OB:=DBox.row4 OB rfl (J U z.now) (J U z.seq) (Aa s2.1.a s2.1.n s2.1.c) (Aa s2.2.a s2.2.n s2.2.c);replace RES:=RES.chg cK (fun hx=>by have:=dY.out _ hx;omega);replace RP:=RP.chg cK (fun hx=>by have:=dY.out _ hx;omega);replace oy:Bv.ow _ F z s2:=owC oy cK (fun x hx h=>by have h1:=dY.out x h;have h2:=cB x hx;omega);replace B0:=B0.trans (cK.below (by have:=B0.size;omega) (fun x hx=>by have:=dY.out x hx;omega));clear cK;generalize (((w2.setCell ⟨w+1+1+1+1,0,Ab⟩ (J U z.now)).setCell ⟨w+1+1+1+1,1,Ab⟩ (J U z.seq)).setCell ⟨w+1+1+1+1,2,Ab⟩ (Aa s2.1.a s2.1.n s2.1.c)).setCell ⟨w+1+1+1+1,3,Ab⟩ (Aa s2.2.a s2.2.n s2.2.c)=w3 at *
  have OB_:=OB.g4;have RES_:=RES.g4;have RP_:=RP.g4;have rf:=RES.free;have pf:=RP.free;have aC:w.heap.size+1+1+1≠w.heap.size+1+1:=Bl;go_wp2;have RES2:=DBox.row4 RES rfl (J U z.now) (J U z.seq) (Aa s2.1.a s2.1.n s2.1.c) (Aa s2.2.a s2.2.n s2.2.c);have RP2:=DBox.row4 ((((RP.setOther (a:=⟨w+1+1,0,Ab⟩) aC (J U z.now)).setOther (a:=⟨w+1+1,1,Ab⟩) aC (J U z.seq)).setOther (a:=⟨w+1+1,2,Ab⟩) aC (Aa s2.1.a s2.1.n s2.1.c)).setOther (a:=⟨w+1+1,3,Ab⟩) aC (Aa s2.2.a s2.2.n s2.2.c)) rfl (J U c) (J U 0) (J U 0) (J U 0);have RES3:=((((RES2.setOther (a:=⟨w+1+1+1,0,Ab⟩) aC.symm (J U c)).setOther (a:=⟨w+1+1+1,1,Ab⟩) aC.symm (J U 0)).setOther (a:=⟨w+1+1+1,2,Ab⟩) aC.symm (J U 0)).setOther (a:=⟨w+1+1+1,3,Ab⟩) aC.symm (J U 0))
  have en1:w.heap.size+1+1∉F:=fun hx=>by have:=cB _ hx;omega
  have en2:w.heap.size+1+1+1∉F:=fun hx=>by have:=cB _ hx;omega
  refine Aj (V4 RES3 RP2) rfl ⟨s2,F,by rw [H.out],by rw [H.out];exact (by (repeat (refine Dt.ow_set Bv ?_ (by first | exact en1 | exact en2) _));exact (show Bv.ow _ F z s2 from oy)),fun x hx=>by have:=cB x hx;omega,?_⟩;repeat (first | (with_reducible exact B0) | refine Ad ?_ Bo _)
end
theorem BldG.cut {α:Type} {d:Dt α} {E:TypeId} {w w':World} {base g:Nat} {v v':Value} {rs:List (α×d.S)} {G:List Nat} (h:BldG d E w base v rs G) {k:Nat} (hk:k<rs.length) (ho:Ow d.enc E w' base v' (rs.take k ++ rs.drop (k+1))) (hC:Chg [g] w w') (hv:v.ownBlock=Ac g) (sH:v'.ownBlock=Ac g) :
  ∃ G',BldG d E w' base v' (rs.take k ++ rs.drop (k+1)) G' /\ ∀ x∈G',x∈G:=by
 obtain ⟨h1,h2,h3,h4⟩:=h;obtain ⟨Ga,G2,rfl,hGa,eK⟩:=h2.split k (Nat.le_of_lt hk);rw [List.drop_eq_getElem_cons hk] at eK;obtain ⟨Gx,Gc,rfl,_,hGc⟩:=eK.head;have eM:∀ x∈Ga ++ Gc,x∈Ga ++ (Gx ++ Gc):=fun x hx=>by
  rcases Bi.1 hx with h | h
  ·exact List.mem_append_left _ h
  ·exact Be _ (Be _ h)
 refine ⟨Ga ++ Gc,⟨ho,(hGa.append hGc).chg hC (fun b hb hx=>(h4 b (eM b hb)).2 (by rw [List.mem_singleton.1 hx];exact hv)),?_,fun b hb=>⟨(h4 b (eM b hb)).1,fun e=>(h4 b (eM b hb)).2 (by rw [hv,<-e,sH])⟩⟩,eM⟩;rw [Ax] at h3 ⊢;exact ⟨h3.1,(Ax.1 h3.2.1).2.1,fun a ha b hb=>h3.2.2 a ha b (Be _ hb)⟩
theorem Mh {b:Nat} {w:World} {u0 u1 u2 u3:Value} (X:DBox b [u0,u1,u2,u3] w) {v0 v1 v2 v3 v5:Value} {rest:List Value} :
  (results Tryz.f117 (v0 :: v1 :: v2 :: v3 :: .pointer (Ac ⟨b,0,Ab⟩) :: v5 :: rest).toArray).run Am w = .ok (.tuple #[.agg #[u0,u1,u2,u3],v5]) w:=by
 have c0:=X.cell 0 _ rfl;have c1:=X.cell 1 _ rfl;have c2:=X.cell 2 _ rfl;have c3:=X.cell 3 _ rfl;simp [results,results117,go_sem,c0,c1,c2,c3]
theorem V5 (y:Yard) (s:Sl×Sl) (id:Int) (w:World) (hl:Ca y<=2000000) (h:Bv.rd w w y s) :
  Calls Am 117 #[Dm y s,J U id] w (Ij (Il y id) (Ik y id) w):=by
 have HR:=Bq (show ∀ W,Below w w W->Bv.rd W W y s from fun W hW=>Bv.rd_more (Bv.rd_below h hW) hW.size);obtain ⟨⟨A1,n1,c1⟩,⟨A2,n2,c2⟩⟩:=s;have CC:=Bq (fun W hW=>Kn y (⟨A1,n1,c1⟩,⟨A2,n2,c2⟩) W hl (HR.out W hW));have CY:=Bq (fun W hW=>Fw y (⟨A1,n1,c1⟩,⟨A2,n2,c2⟩) W hl (HR.out W hW));have CA:=Bq (fun W hW=>E9 y (⟨A1,n1,c1⟩,⟨A2,n2,c2⟩) id W hl (HR.out W hW));have CX:=Bq (fun W hW=>show RdL Ce W W.heap.size (Aa A2 n2 c2) y.runs from (HR.out W hW).2);clear h HR;obtain ⟨W,aH,X,I,RES,B0⟩:=bx3 w 27 [J U y.now,J U y.seq,Aa A1 n1 c1,Aa A2 n2 c2] 3 [J U id] 27 [J U 0,J U 0,Aa Ab 0 0,Aa Ab 0 0];go_enter func117,ntmps117;go_wp2_with fail
 rw [<-aH.out];clear aH;have dP:w.heap.size+1+1<W.heap.size:=RES.lt;refine (CC.out _ B0).mono ?_;rintro e1 w1 ⟨⟨B1,m1,e1⟩,⟨B2,m2,e2⟩,F1,base,rfl,oS,eR,bE,cQ,oR,b1⟩;have bS:=b1.size;replace X:=X.below b1;replace I:=I.below b1;replace RES:=RES.below b1;replace B0:=Bu B0 b1;clear b1;obtain ⟨rs,bU,G0,oR⟩:=oR;have hm:=Bq bU;clear bU;replace oR:BldG Ce 167 w1 base (Aa B2 m2 e2) rs G0:=oR;have uS:=oR.2.1.lt;have qL:∀ g,(Value.slice B2 m2 e2).ownBlock=Ac g->g≠w1.heap.size:=fun g hg h=>by
  have:=(oR.1.within g hg).2
  omega
 obtain ⟨F,oy,nF⟩:∃ F,Bv.ow w1 F y (⟨B1,m1,e1⟩,⟨B2,m2,e2⟩) /\ ∀ x∈F,W<=x:=by
  have hB:Bld Ce 167 w1 base (Aa B2 m2 e2) rs:=⟨G0,oR⟩
  replace hm:=hm.out;obtain ⟨F2,h5,h6⟩:=hB.owl hm;refine ⟨F1 ++ F2,⟨F1,F2,rfl,?_,oS,h5⟩,fun b hb=>?_⟩
  ·rw [Ax];refine ⟨oS.nodup,h5.nodup,fun u hu u' hu' e=>?_⟩
   have:=eR u hu
   have:=h6 u' hu'
   omega
  ·rcases Bi.1 hb with hb | hb
   ·exact (eR b hb).1
   ·have:=h6 b hb;omega
 go_upto_region 2 with fail
 have OB:=DBox.new 27 [J U y.now,J U y.seq,Aa B1 m1 e1,Aa B2 m2 e2] w1 (b:=w1) rfl;have b2:Below w1 w1 (w1.alloc (.cells #[J U y.now,J U y.seq,Aa B1 m1 e1,Aa B2 m2 e2] 27)):=Bt;replace X:=X.below b2;replace I:=I.below b2;replace RES:=RES.below b2;replace oy:=Bv.ow_below (F:=F) (x:=y) (s:=(⟨B1,m1,e1⟩,⟨B2,m2,e2⟩)) oy b2;replace oS:=oS.below b2;replace oR:=oR.below b2;replace B0:=Bu B0 b2;have ow1:=OB.lt;have hbob:base<=w1.heap.size:=cQ;replace cQ:=Ah cQ b2.size;clear b2;generalize w1.alloc (.cells #[J U y.now,J U y.seq,Aa B1 m1 e1,Aa B2 m2 e2] 27)=w2 at *
 generalize cW:w1.heap.size=ob at *
 have X_:=X.g4;obtain ⟨I_0,I_l⟩:=I.g1;obtain ⟨OB_0,OB_1,OB_2,OB_3,OB_l⟩:=OB.g4;go_wp2_with fail
 refine (CA.out _ B0).mono ?_;rintro e1 w3 ⟨rfl,b3⟩;clear X_;clear I_0 I_l;clear OB_0 OB_1 OB_2 OB_3 OB_l;replace X:=X.below b3;replace I:=I.below b3;replace OB:=OB.below b3;replace RES:=RES.below b3;replace oy:Bv.ow w3 F y (⟨B1,m1,e1⟩,⟨B2,m2,e2⟩):=owB oy b3;replace oS:=oS.below b3;replace oR:=oR.below b3;replace B0:=Bu B0 b3;replace cQ:=Ah cQ b3.size;clear b3;have X_:=X.g4;obtain ⟨I_0,I_l⟩:=I.g1;obtain ⟨OB_0,OB_1,OB_2,OB_3,OB_l⟩:=OB.g4;go_wp2_with fail
 refine (CY.out _ B0).mono ?_;rintro e1 w4 ⟨rfl,b4⟩;clear X_;clear I_0 I_l;clear OB_0 OB_1 OB_2 OB_3 OB_l;replace X:=X.below b4;replace I:=I.below b4;replace OB:=OB.below b4;replace RES:=RES.below b4;replace oy:Bv.ow w4 F y (⟨B1,m1,e1⟩,⟨B2,m2,e2⟩):=owB oy b4;replace oS:=oS.below b4;replace oR:=oR.below b4;replace B0:=Bu B0 b4;replace cQ:=Ah cQ b4.size;clear b4;have X_:=X.g4;obtain ⟨I_0,I_l⟩:=I.g1;obtain ⟨OB_0,OB_1,OB_2,OB_3,OB_l⟩:=OB.g4;by_cases p0:Dh y;case neg =>
  rw [Ci p0];have H:=Bq (show Ik y id=8 by unfold Ik;rw [if_pos p0]);have H2:=Bq (show Il y id=y by unfold Il;rw [H.out,if_neg Bp]);have RES_:=RES.g4;have rf:=RES.free;go_wp2;have en1:w.heap.size+1+1∉F:=fun hx=>by have:=nF _ hx;omega
  refine Aj (Mh (DBox.row4 RES rfl _ _ _ _)) rfl ⟨(⟨B1,m1,e1⟩,⟨B2,m2,e2⟩),F,by rw [H.out,H2.out],by rw [H2.out];exact (by (repeat (refine Dt.ow_set Bv ?_ en1 _));exact (show Bv.ow _ F y (⟨B1,m1,e1⟩,⟨B2,m2,e2⟩) from oy)),fun x hx=>by have:=nF x hx;omega,?_⟩;repeat (first | (with_reducible exact B0) | refine Ad ?_ Bo _)
 rw [Dp p0];have P0:=Bq p0;clear p0;by_cases p1:Dk y id<0;case pos =>
  have H:=Bq (show Ik y id=10 by unfold Ik;rw [if_neg (fun h=>h P0.out),if_pos p1]);have H2:=Bq (show Il y id=y by unfold Il;rw [H.out,if_neg Bp]);have RES_:=RES.g4;have rf:=RES.free;go_wp2;have en1:w.heap.size+1+1∉F:=fun hx=>by have:=nF _ hx;omega
  refine Aj (Mh (DBox.row4 RES rfl _ _ _ _)) rfl ⟨(⟨B1,m1,e1⟩,⟨B2,m2,e2⟩),F,by rw [H.out,H2.out],by rw [H2.out];exact (by (repeat (refine Dt.ow_set Bv ?_ en1 _));exact (show Bv.ow _ F y (⟨B1,m1,e1⟩,⟨B2,m2,e2⟩) from oy)),fun x hx=>by have:=nF x hx;omega,?_⟩;repeat (first | (with_reducible exact B0) | refine Ad ?_ Bo _)
 rcases Ez y id with hr | ⟨k,hk,hr⟩
 ·exact absurd hr Bl
 have HK:=Bq (Gy hk hr);have HR2:=Bq hr;rw [hr];clear hr p1;have P1:=Bq (show ¬ Dk y id<0 by have:=HR2.out;omega);have gL:(k:Int)<(n2:Int):=by have:=RdL.at1 (s:=⟨A2,n2,c2⟩) (CX.out _ B0);dsimp only at this;omega
 have cL:(0:Int)<=(k:Int):=Bl;have hkn:¬ (k:Int)<0:=Bl;obtain ⟨gx,ox,_,rfl,kJ,_,c0,c1_,c2_,c3_,c4_,c5_,c6,c7_⟩:=(CX.out _ B0).run hk;clear c0 c1_ c2_ c3_ c4_ c5_ c7_;by_cases p2:y.runs[k].state=1;case pos =>
  have q2:(y.runs[k].state == 1)=true:=by simp [p2]
  have H:=Bq (show Ik y id=13 by unfold Ik;rw [if_neg (fun h=>h P0.out),if_neg P1.out,if_pos (by rw [HK.out];exact p2)]);clear p2;have H2:=Bq (show Il y id=y by unfold Il;rw [H.out,if_neg Bp]);have RES_:=RES.g4;have rf:=RES.free;go_wp2;have en1:w.heap.size+1+1∉F:=fun hx=>by have:=nF _ hx;omega
  refine Aj (Mh (DBox.row4 RES rfl _ _ _ _)) rfl ⟨(⟨B1,m1,e1⟩,⟨B2,m2,e2⟩),F,by rw [H.out,H2.out],by rw [H2.out];exact (by (repeat (refine Dt.ow_set Bv ?_ en1 _));exact (show Bv.ow _ F y (⟨B1,m1,e1⟩,⟨B2,m2,e2⟩) from oy)),fun x hx=>by have:=nF x hx;omega,?_⟩;repeat (first | (with_reducible exact B0) | refine Ad ?_ Bo _)
 have q2:(y.runs[k].state == 1)=false:=by simp [p2]
 have H:=Bq (show Ik y id=0 by unfold Ik;rw [if_neg (fun h=>h P0.out),if_neg P1.out,if_neg (by rw [HK.out];exact p2)]);have H2:=Bq (show Il y id=⟨y.now,y.seq,y.shelf.map (Dg id),y.runs.take k ++ y.runs.drop (k+1)⟩ by unfold Il;rw [if_pos H.out,HR2.out,Ao]);clear p2;go_upto_region 9 with fail
 clear X_;clear X c6 q2 CC CY CA CX;have bG:rs.length=y.runs.length:=by have:=congrArg List.length hm.out;simpa using this
 have hkr:k<rs.length:=Bl;have rE:y.runs.length<=8:=P0.out.2.2.2.2.2.2.1;obtain ⟨gr,cap,hv,rM,fX⟩:∃ gr cap,Value.slice B2 m2 e2 = Aa (Ac ⟨gr,0,Ab⟩) rs.length cap/\base<=gr/\gr<w4.heap.size:=by
  rcases oR.1.form with ⟨_,h⟩ | ⟨gr,cap,h,hb,hl,_⟩
  ·rw [h] at hkr;simp at hkr
  ·exact ⟨gr,cap,h,hb,hl⟩
 simp only [Value.slice.injEq] at hv;obtain ⟨rfl,rfl,rfl⟩:=hv;have CD:=Bq (Ab0 rs gr e2 base k w4 hkr Bl oR.1);have wr1:U.wrap ((k:Int)+1)=(k:Int)+1:=Aq _ Bl;have eH:ob≠gr:=fun e=>qL gr rfl e.symm;replace bG:=Bq bG;have hob4:ob<w4:=OB.lt;go_wp2_with fail
 refine CD.out.mono ?_;rintro e5 w5 ⟨rfl,o5,gg⟩;have hC:=Chg.of_grown gg;have aS:=Bq (show ∀ x,x∈[gr]->x=gr from fun x hx=>by simpa using hx);obtain ⟨G5,oR5,hG5⟩:=oR.cut hkr o5 hC rfl rfl;have orr:=oR5.owl (l:=y.runs.take k ++ y.runs.drop (k+1)) (by rw [List.map_append,List.map_take,List.map_drop,hm.out]);have hB5:∀ x∈Ek (Aa (Ac ⟨gr,0,Ab⟩) (rs.length - 1) e2) (rs.take k ++ rs.drop (k+1)).length ++ G5,x≠ob/\base<=x:=fun x hx=>by
  rcases Bi.1 hx with hx | hx
  ·have h1:=Ht _ _ _ hx;have:gr=x:=by simpa [Value.ownBlock] using h1
   subst this;exact ⟨fun e=>eH e.symm,rM⟩
  ·have h1:=uS x (hG5 x hx);exact ⟨Bl,(oR.2.2.2 x (hG5 x hx)).1⟩
 generalize Ek (Aa (Ac ⟨gr,0,Ab⟩) (rs.length - 1) e2) (rs.take k ++ rs.drop (k+1)).length ++ G5=F2 at *
 clear OB_0 OB_1 OB_2 OB_3 OB_l;replace OB:=OB.chg hC (fun hx=>eH (aS.out _ hx));replace RES:=RES.chg hC (fun hx=>by have:=aS.out _ hx;omega);clear I_0 I_l;replace I:=I.chg hC (fun hx=>by have:=aS.out _ hx;omega);replace oS:=oS.chg hC (fun x hx h=>by have h1:=aS.out x h;have h2:=(eR x hx).2;omega);replace B0:=B0.trans (hC.below (by have:=B0.size;omega) (fun x hx=>by have:=aS.out _ hx;omega));have pT:=hC.size;clear oR oy o5 gg hC oR5 hG5 CD;obtain ⟨OB_0,OB_1,OB_2,OB_3,OB_l⟩:=OB.g4;obtain ⟨I_0,I_l⟩:=I.g1;have obf:=OB.free;go_upto_region 10 with fail
 clear OB_0 OB_1 OB_2 OB_3 OB_l;clear I_0 I_l;have OB6:DBox ob [J U y.now,J U y.seq,Aa B1 m1 e1,Aa (Ac ⟨gr,0,Ab⟩) (rs.length - 1) e2] (w5.setCell ⟨ob,3,Ab⟩ (Aa (Ac ⟨gr,0,Ab⟩) (rs.length - 1) e2)):=OB.set 3 Bn _;replace RES:=RES.setOther (a:=⟨ob,3,Ab⟩) (by show w.heap.size+1+1≠ob;omega) (Aa (Ac ⟨gr,0,Ab⟩) (rs.length - 1) e2);replace I:=I.setOther (a:=⟨ob,3,Ab⟩) (by show w.heap.size+1≠ob;omega) (Aa (Ac ⟨gr,0,Ab⟩) (rs.length - 1) e2);replace oS:=oS.set (a:=⟨ob,3,Ab⟩) (fun hx=>by have h1:_/\ob<base:=eR _ hx;omega) (Aa (Ac ⟨gr,0,Ab⟩) (rs.length - 1) e2);replace orr:=orr.set (a:=⟨ob,3,Ab⟩) (fun hx=>(hB5 _ hx).1 rfl) (Aa (Ac ⟨gr,0,Ab⟩) (rs.length - 1) e2);replace B0:Below w w (w5.setCell ⟨ob,3,Ab⟩ (Aa (Ac ⟨gr,0,Ab⟩) (rs.length - 1) e2)):=Ad B0 (by show w.heap.size<=ob;omega) _;clear obf OB;generalize w5.setCell ⟨ob,3,Ab⟩ (Aa (Ac ⟨gr,0,Ab⟩) (rs.length - 1) e2)=w6 at *
 generalize y.runs.take k ++ y.runs.drop (k+1)=RR at *
 generalize rs.length - 1=rn at *
 have OB:=OB6;clear OB6;obtain rfl:m1=y.shelf.length:=RdL.at1 (s:=⟨B1,m1,e1⟩) oS.rd;have pJ:=Bq (show y.shelf.length=4 from P0.out.2.2.1);have jD:=Bq (fun (i:Nat) (hi:i<y.shelf.length)=>(P0.out.2.2.2.1 _ (Aw hi)).1);have nY:w+1+1<ob:=Bl;have hF1':=Bq (show ∀ x∈F1,w+1+1<x/\x<base/\x≠ob from fun x hx=>by have h1:=eR x hx;omega);have hB5':=Bq (show ∀ x∈F2,x≠ob/\base<=x from hB5);obtain ⟨OB_0,OB_1,OB_2,OB_3,OB_l⟩:=OB.g4;obtain ⟨I_0,I_l⟩:=I.g1;go_wp2;clear OB_0 OB_1 OB_2 OB_3 OB_l;clear I_0 I_l;go_loopw [8,42] (fun u i wr=>∃ (j:Nat) (F:List Nat),j<=y.shelf.length/\i = J U j/\Hid (OwL (Dt.list Bx) wr F (Aa B1 y.shelf.length e1) ((y.shelf.take j).map (Dg id) ++ y.shelf.drop j)/\(∀ x∈F,x∈F1)/\OwL Ce wr F2 (Aa (Ac ⟨gr,0,Ab⟩) rn e2) RR)/\DBox ob [J U y.now,J U y.seq,Aa B1 y.shelf.length e1,Aa (Ac ⟨gr,0,Ab⟩) rn e2] wr/\DBox (w+1) [J U id] wr/\DBox (w+1+1) [J U 0,J U 0,Aa Ab 0 0,Aa Ab 0 0] wr/\Below w w wr) (fun _ i _=>y.shelf.length - (intOf i).toNat);case atStart=>exact ⟨0,F1,Nat.zero_le _,rfl,⟨by simpa using oS,fun x hx=>hx,orr⟩,OB,I,RES,B0⟩
 case round =>
  clear oS orr OB I RES B0 eR hB5 hm pT;obtain ⟨j,F,hj,rfl,hO,OB,I,RES,eF⟩:=hrel;have hRl2:=RES.lt;have hobl:=OB.lt;obtain ⟨OB_0,OB_1,OB_2,OB_3,OB_l⟩:=OB.g4;obtain ⟨I_0,I_l⟩:=I.g1;by_cases aA:j<y.shelf.length
  ·have aB:(j:Int)<(y.shelf.length:Int):=Bl;have hi00:(0:Int)<=(j:Int):=Bl;have mB:j<((y.shelf.take j).map (Dg id) ++ y.shelf.drop j).length:=by simp;omega
   have hltH:=Bq (show j<y.shelf.length/\y.shelf.length=4 from ⟨aA,pJ.out⟩);obtain ⟨os,jK,orr⟩:=hO.out;have kR:=jD.out j aA;have bX:=Bq (Oj (Dg id) aA);have hat:=Vv (Dg id) aA mB;obtain ⟨g,o,_,rfl,hg,_,_⟩:=os.rd.entryS mB;have bd:Below wr wr wr.drew:=(Br _ _).drew;obtain ⟨⟨A9,n9,c9⟩,Fx,kS,bJ,kJ,eY,fZ,aN,cR⟩:=OwL.trade (os.below bd) mB;rw [hat] at kS aN;clear hat;replace kS:OwL Bx wr.drew Fx (Aa A9 n9 c9) y.shelf[j]:=kS;have rT:n9=y.shelf[j].length:=RdL.at1 (s:=⟨A9,n9,c9⟩) kS.rd;subst rT;have ck:wr.drew.cell? ⟨g,o+j,Ab⟩=Ac (Aa A9 y.shelf[j].length c9):=by
    have:=aN 0 _ rfl
    rw [show o+j * (Dt.list Bx).enc.sz+0=o+j from by show o+j * 1+0=o+j;omega] at this;exact this
   have hIn:w.heap.size+1∉Fx:=fun hx=>by have:=hF1'.out _ (jK _ (bJ _ hx));omega
   have kC:=Bu eF bd;have Id:=I.below bd;have kH:∀ (W:World) (x:Entry),DBox (w+1) [J U id] W->Calls Am 198 #[Gs x (),.pointer (Ac ⟨w+1,0,Ab⟩)] W fun e w'=>e = .returned (.bool (x.run == id))/\Below W W w' :=
    fun W x hX=>Ab1 id (w+1) x W hX
   have CD:=Bq (Sg y.shelf[j] A9 y.shelf[j].length c9 Fx 198 (w.heap.size+1) (fun e=>e.run == id) (Nk func198 Bm Bm) wr.drew Bl
    (fun W x hW=>kH W x (Id.chg hW hIn))
    (P9 198 (w+1) (fun e=>e.run == id) (Nk func198 Bm Bm) y.shelf[j] A9 y.shelf[j].length c9 wr.drew Bl (Qv kS).rd (fun W x hW=>kH W x (Id.below hW)))
    (Qv kS))
   clear kH;go_upto_region 13 with fail
   refine Db (fun w'=>w'.cell? ⟨ob,2,Ab⟩=Ac (Aa (Ac ⟨g,o,Ab⟩) y.shelf.length e1)/\w'.cell? ⟨g,o+j,Ab⟩=Ac (Aa A9 y.shelf[j].length c9)) 11 Bm ?_ (fun hHeld=>?_)
   ·exact ⟨OB_2,ck⟩
   refine aT 0 hHeld ?_;try simp only [pS]
   refine aT 1 hHeld ?_;try simp only [pS]
   refine aT 2 hHeld ?_;try simp only [pS]
   refine aT 3 hHeld ?_;try simp only [pS]
   refine aT 4 hHeld ?_;try simp only [pS]
   refine aT 5 hHeld ?_;try simp only [pS]
   refine aT 6 hHeld ?_;try simp only [pS]
   refine aT 7 hHeld ?_;try simp only [pS]
   refine aT 8 hHeld ?_;try simp only [pS]
   refine oT 9 (fun K hK=>?_)
   (go_simp;refine CD.out.mono ?_;rintro e7 wa ⟨k9,F',rfl,hH,eM,hC⟩)
   have hgw2:g<wr.drew:=os.lt g eY;have gD:ob<wr.drew:=OB.lt;have pA:ob∉Fx:=fun hx=>(hF1'.out _ (jK _ (bJ _ hx))).2.2 rfl;have hgn:=hF1'.out g (jK _ eY);have hobg2:ob≠g:=fun e=>hgn.2.2 e.symm;have sD:=(hC.cell (p:=⟨ob,2,Ab⟩) gD pA).trans hHeld.1;have ck2:=(hC.cell (p:=⟨g,_,Ab⟩) hgw2 kJ).trans ck;have hgf2:∀ j,wa.frozen? ⟨g,j,Ab⟩=false:=fun j=>(hC.frozen (p:=⟨g,_,Ab⟩) hgw2 kJ).trans (fZ j);refine hK.out _ _ (fun _=>⟨sD,ck2⟩) ?_;clear hK K;try simp only [pS]
   refine oT 10 (fun K hK=>?_);go_simp;refine hK.out _ _ (fun _=>⟨sD,ck2⟩) ?_;clear hK K;try simp only [pS]
   have hga:=hC.size;refine oT 11 (fun K hK=>?_);go_simp;refine hK.out _ _ (fun aC=>absurd rfl aC) ?_;clear hK K hHeld;try simp only [pS]
   refine D6 Bm ?_ _;obtain ⟨F3,o3,tE,rV⟩:=cR wa (Dg id y.shelf[j]) ⟨A9,k9,c9⟩ F' hC (Xt hH) eM;have fP:Hz wa g (o+j * (Dt.list Bx).enc.sz) ((Dt.list Bx).enc.cells (Dg id y.shelf[j],(⟨A9,k9,c9⟩:Sl)))=wa.setCell ⟨g,o+j,Ab⟩ (Aa A9 k9 c9):=by
    show Hz wa g (o+j * 1) [Aa A9 k9 c9]=_;rw [Nat.mul_one];rfl
   rw [fP,bX.out] at o3;have hS:=Chg.setCell wa g (o+j) (Aa A9 k9 c9);have fL:=Bq (show ∀ x,x∈[g]->x=g from fun x hx=>by simpa using hx);have orr3:=((orr.below bd).chg hC (fun x hx hx2=>by have h1:=hF1'.out _ (jK _ (bJ _ hx2));have h2:=hB5'.out x hx;omega)).chg hS (fun x hx hx2=>by have h1:=fL.out x hx2;have h2:=hB5'.out x hx;omega);have hX3:w.heap.size+1+1∉Fx:=fun hx=>by have:=hF1'.out _ (jK _ (bJ _ hx));omega
   have RES3:=((RES.below bd).chg hC hX3).chg hS (fun hx=>by have:=fL.out _ hx;omega);have I3:=(Id.chg hC hIn).chg hS (fun hx=>by have:=fL.out _ hx;omega);have OB3:=((OB.below bd).chg hC pA).chg hS (fun hx=>hobg2 (fL.out _ hx));have B3:=(kC.trans (hC.below kC.size (fun z hz=>by have:=hF1'.out _ (jK _ (bJ _ hz));omega))).trans (hS.below (base:=w) (by have:=kC.size;omega) (fun x hx=>by have:=fL.out x hx;omega));have qZ:∀ x∈F3,x∈F1:=fun x hx=>jK x (tE x hx);clear cR hC hH eM CD os orr kS aN ck ck2 sD hgf2 fZ hS RES I Id kC bd bX tE;clear OB_0 OB_1 OB_2 OB_3 OB_l;clear I_0 I_l;clear OB;generalize wa.setCell ⟨g,o+j,Ab⟩ (Aa A9 k9 c9)=w7 at *
   have uA:=hltH.out.1;have jX:=hltH.out.2;have hj3:j<=3:=Bl;replace jX:=Bq jX;go_wp2;have hl4:=jX.out;exact ⟨⟨j+1,F3,Bl,by go_num,⟨o3,qZ,orr3⟩,OB3,I3,RES3,B3⟩,by simp [intOf];omega⟩
  ·have aB:¬ (j:Int)<(y.shelf.length:Int):=Bl;obtain ⟨os,jK,orr⟩:=hO.out;rw [Bg Bl,List.drop_eq_nil_of_le Bl,List.append_nil] at os;have RES_:=RES.g4;have rf:=RES.free;have hRb:=Bq (show w.heap.size+1+1<base from Bl);clear hO;go_wp2;have en1:w.heap.size+1+1∉F:=fun hx=>by have:=hF1'.out _ (jK _ hx);omega
   have en2:w.heap.size+1+1∉F2:=fun hx=>by have h1:=(hB5'.out _ hx).2;have:=hRb.out;omega
   refine Aj (Mh (DBox.row4 RES rfl _ _ _ _)) rfl ⟨(⟨B1,y.shelf.length,e1⟩,⟨Ac ⟨gr,0,Ab⟩,rn,e2⟩),F ++ F2,by rw [H.out,H2.out],⟨F,F2,rfl,?_,?_,?_⟩,fun x hx=>?_,?_⟩
   ·rw [Ax];refine ⟨os.nodup,orr.nodup,fun a ha b hb e=>?_⟩;subst e;have h1:=hF1'.out a (jK a ha);have h2:=hB5'.out a hb;omega
   ·rw [H2.out];show OwL (Dt.list Bx) _ F (Aa B1 y.shelf.length e1) (y.shelf.map (Dg id));exact ((((os.set (a:=⟨_,_,Ab⟩) en1 _).set (a:=⟨_,_,Ab⟩) en1 _).set (a:=⟨_,_,Ab⟩) en1 _).set (a:=⟨_,_,Ab⟩) en1 _)
   ·rw [H2.out];show OwL Ce _ F2 (Aa (Ac ⟨gr,0,Ab⟩) rn e2) RR;exact ((((orr.set (a:=⟨_,_,Ab⟩) en2 _).set (a:=⟨_,_,Ab⟩) en2 _).set (a:=⟨_,_,Ab⟩) en2 _).set (a:=⟨_,_,Ab⟩) en2 _)
   ·rcases Bi.1 hx with hx | hx
    ·have:=hF1'.out _ (jK _ hx);omega
    ·have h1:=(hB5'.out _ hx).2;have:=hRb.out;omega
   ·repeat (first | (with_reducible exact eF) | refine Ad ?_ Bo _)
end Go.Proofs.YtonlnjdempbfoabGreat
